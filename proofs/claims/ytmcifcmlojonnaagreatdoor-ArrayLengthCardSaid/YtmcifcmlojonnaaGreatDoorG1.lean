/- Merged texts: part 1. No conditions of their own. -/
import Derived.WalkKit
import Derived.WalkSpells
import Derived.WalkLawsBesides
import Derived.Lib.Hide
import Derived.Deep.QuietTactic
import Derived.BigQuiet
import Derived.Orders
import Derived.KernelRfl
import Derived.Deep.Quiet
import Derived.Deep.LoopGhost
import Derived.StillTail
import Derived.Laws.AppendOwn
import Derived.Laws.MakeOwn
import Derived.Laws.OwnMore
import Derived.RangeFuncLeaves
import Derived.RangeFuncRecord
import Derived.OrdersIn
import Derived.RangeFuncKeeps
import Derived.Deep.Slices
import Derived.Deep.Fields
import Derived.ChangeSame
namespace Go.Proofs.YtmcifcmlojonnaaGreatDoor
variable {a:Act}{listed:Array Bool}{af:Array Edge}{ops:Array Oper}{ats:Array TypeId}{caps cs:Array Value}{g:Bool}{c:Code}{Q:Exit->Act->World->Prop}{fn:Func}{f:FuncId}{k:IntKind}{ps:List (Nat×Operand)}{vs:List (Nat×Value)}{l:List Oper}{xs:List Operand}{cap fuel h i j m n off:Nat}{T:Nat->Nat->Prop}{S:Nat->Prop}{o oi oj:Oper}{x y:Operand}{ρ:Operand->Value}{gd:Option (Nat×Bool)}{A A2:Option Addr}{lo:Option Operand}{P:Program}{p:Prop}{pos:String}{α β ι:Type}{bt e kt t ty:TypeId}{u v z:Value}{w':World}{C:World->Prop}
section
theorem Y5 {l:List α}(h:n<l.length):l[n]∈l:=List.getElem_mem h
theorem Y4 (l:List α):[]++l=l:=List.nil_append l
theorem Y3 (a b:Bool):((a&&b)=true)=(a=true/\b=true):=Bool.and_eq_true a b
theorem Y0 {l:List α}:l.take l.length=l:=List.take_length
theorem YZ {as:List α}(f:α->β):(as.map f).length=as.length:=List.length_map f
theorem YY {l:List α}:(l.take i).length=min i l.length:=List.length_take
theorem YX {as bs:List α}:(as++bs).length=as.length+bs.length:=List.length_append
theorem YW:type_of% @run_underlying:=@run_underlying
theorem YV:type_of% @of_decide_eq_true:=@of_decide_eq_true
theorem YU:type_of% @of_decide_eq_false:=@of_decide_eq_false
theorem YT:type_of% @decide_eq_true_eq:=@decide_eq_true_eq
theorem YS:type_of% @decide_eq_false_iff_not:=@decide_eq_false_iff_not
theorem YR:type_of% @Sem.run_pure:=@Sem.run_pure
theorem YQ:type_of% @Sem.run_bind:=@Sem.run_bind
theorem YP:type_of% @Result.andThen_ok:=@Result.andThen_ok
theorem YO.{u,v}:type_of% @Prod.mk.inj.{u,v}:=@Prod.mk.inj.{u,v}
theorem YN.{u}:type_of% @Option.some.injEq.{u}:=@Option.some.injEq.{u}
theorem YM.{u}:type_of% @Option.some.inj.{u}:=@Option.some.inj.{u}
theorem YL.{u,v}:type_of% @Option.map_some.{u,v}:=@Option.map_some.{u,v}
theorem YK.{u}:type_of% @Option.getD_some.{u}:=@Option.getD_some.{u}
theorem YJ.{u,v}:type_of% @Option.bind_some.{u,v}:=@Option.bind_some.{u,v}
theorem YI:type_of% @Nat.zero_le:=@Nat.zero_le
theorem YH:type_of% @Nat.zero_add:=@Nat.zero_add
theorem YG:type_of% @Nat.sub_self:=@Nat.sub_self
theorem YF:type_of% @Nat.mul_le_mul_right:=@Nat.mul_le_mul_right
theorem YE:type_of% @Nat.lt_or_ge:=@Nat.lt_or_ge
theorem YD:type_of% @Nat.lt_of_lt_of_le:=@Nat.lt_of_lt_of_le
theorem YC:type_of% @Nat.le_trans:=@Nat.le_trans
theorem YB:type_of% @Nat.le_refl:=@Nat.le_refl
theorem YA:type_of% @Nat.le_of_ble_eq_true:=@Nat.le_of_ble_eq_true
theorem Yz:type_of% @Nat.eq_zero_or_pos:=@Nat.eq_zero_or_pos
theorem Yy:type_of% @Nat.eq_of_beq_eq_true:=@Nat.eq_of_beq_eq_true
theorem Yx:type_of% @Nat.add_mul:=@Nat.add_mul
theorem Yw.{u,v}:type_of% @List.zip_nil_right.{u,v}:=@List.zip_nil_right.{u,v}
theorem Yv.{u,v}:type_of% @List.zip_nil_left.{u,v}:=@List.zip_nil_left.{u,v}
theorem Yu.{u,v}:type_of% @List.zip_cons_cons.{u,v}:=@List.zip_cons_cons.{u,v}
theorem Yt.{u}:type_of% @List.take_zero.{u}:=@List.take_zero.{u}
theorem Ys.{u}:type_of% @List.take_succ_cons.{u}:=@List.take_succ_cons.{u}
theorem Yr.{u}:type_of% @List.take_of_length_le.{u}:=@List.take_of_length_le.{u}
theorem Yq.{u}:type_of% @List.take_append_drop.{u}:=@List.take_append_drop.{u}
theorem Yp.{u}:type_of% @List.reverse_nil.{u}:=@List.reverse_nil.{u}
theorem Yo.{u}:type_of% @List.reverse_cons.{u}:=@List.reverse_cons.{u}
theorem Yn.{u}:type_of% @List.perm_middle.{u}:=@List.perm_middle.{u}
theorem Ym.{u}:type_of% @List.perm_append_comm_assoc.{u}:=@List.perm_append_comm_assoc.{u}
theorem Yl.{u}:type_of% @List.pairwise_iff_getElem.{u}:=@List.pairwise_iff_getElem.{u}
theorem Yk.{u}:type_of% @List.pairwise_cons.{u}:=@List.pairwise_cons.{u}
theorem Yj.{u}:type_of% @List.nodup_cons.{u}:=@List.nodup_cons.{u}
theorem Yi.{u}:type_of% @List.nodup_append.{u}:=@List.nodup_append.{u}
theorem Yh.{u}:type_of% @List.mem_singleton.{u}:=@List.mem_singleton.{u}
theorem Yg:type_of% @List.mem_range:=@List.mem_range
theorem Yf.{u}:type_of% @List.mem_or_eq_of_mem_set.{u}:=@List.mem_or_eq_of_mem_set.{u}
theorem Ye.{u}:type_of% @List.mem_of_mem_take.{u}:=@List.mem_of_mem_take.{u}
theorem Yd.{u}:type_of% @List.mem_of_getElem?.{u}:=@List.mem_of_getElem?.{u}
theorem Yc.{u,v}:type_of% @List.mem_map.{u,v}:=@List.mem_map.{u,v}
theorem Yb.{u}:type_of% @List.mem_filter.{u}:=@List.mem_filter.{u}
theorem Ya.{u}:type_of% @List.mem_cons_self.{u}:=@List.mem_cons_self.{u}
theorem X9.{u}:type_of% @List.mem_cons_of_mem.{u}:=@List.mem_cons_of_mem.{u}
theorem X8.{u}:type_of% @List.mem_cons.{u}:=@List.mem_cons.{u}
theorem X7.{u}:type_of% @List.mem_append.{u}:=@List.mem_append.{u}
theorem X6.{u,v}:type_of% @List.map_toArray.{u,v}:=@List.map_toArray.{u,v}
theorem X5.{u,v}:type_of% @List.map_cons.{u,v}:=@List.map_cons.{u,v}
theorem X4.{u,v}:type_of% @List.map_append.{u,v}:=@List.map_append.{u,v}
theorem X3.{u}:type_of% @List.length_singleton.{u}:=@List.length_singleton.{u}
theorem X0.{u}:type_of% @List.length_set.{u}:=@List.length_set.{u}
theorem XZ.{u}:type_of% @List.length_nil.{u}:=@List.length_nil.{u}
theorem XY.{u}:type_of% @List.length_filter_le.{u}:=@List.length_filter_le.{u}
theorem XX.{u}:type_of% @List.length_drop.{u}:=@List.length_drop.{u}
theorem XW.{u}:type_of% @List.length_cons.{u}:=@List.length_cons.{u}
theorem XV.{u}:type_of% @List.getElem_of_mem.{u}:=@List.getElem_of_mem.{u}
theorem XU.{u,v}:type_of% @List.getElem_map.{u,v}:=@List.getElem_map.{u,v}
theorem XT.{u}:type_of% @List.getElem?_toArray.{u}:=@List.getElem?_toArray.{u}
theorem XS.{u}:type_of% @List.getElem?_take.{u}:=@List.getElem?_take.{u}
theorem XR.{u}:type_of% @List.getElem?_set_self.{u}:=@List.getElem?_set_self.{u}
theorem XQ.{u}:type_of% @List.getElem?_set_ne.{u}:=@List.getElem?_set_ne.{u}
theorem XP.{u,v}:type_of% @List.getElem?_map.{u,v}:=@List.getElem?_map.{u,v}
theorem XO.{u}:type_of% @List.getElem?_eq_some_iff.{u}:=@List.getElem?_eq_some_iff.{u}
theorem XN.{u}:type_of% @List.getElem?_eq_none.{u}:=@List.getElem?_eq_none.{u}
theorem XM.{u}:type_of% @List.getElem?_eq_getElem.{u}:=@List.getElem?_eq_getElem.{u}
theorem XL.{u}:type_of% @List.getElem?_drop.{u}:=@List.getElem?_drop.{u}
theorem XK.{u}:type_of% @List.getElem?_cons_zero.{u}:=@List.getElem?_cons_zero.{u}
theorem XJ.{u}:type_of% @List.getElem?_cons_succ.{u}:=@List.getElem?_cons_succ.{u}
theorem XI.{u}:type_of% @List.getElem?_append_right.{u}:=@List.getElem?_append_right.{u}
theorem XH.{u}:type_of% @List.getElem?_append_left.{u}:=@List.getElem?_append_left.{u}
theorem XG.{u}:type_of% @List.flatten_cons.{u}:=@List.flatten_cons.{u}
theorem XF.{u,v}:type_of% @List.flatMap_cons.{u,v}:=@List.flatMap_cons.{u,v}
theorem XE.{u,v}:type_of% @List.flatMap_append.{u,v}:=@List.flatMap_append.{u,v}
theorem XD.{u}:type_of% @List.filter_eq_self.{u}:=@List.filter_eq_self.{u}
theorem XC.{u}:type_of% @List.filter_cons.{u}:=@List.filter_cons.{u}
theorem XB.{u}:type_of% @List.filter_append.{u}:=@List.filter_append.{u}
theorem XA.{u}:type_of% @List.ext_getElem?.{u}:=@List.ext_getElem?.{u}
theorem Xz.{u}:type_of% @List.eq_nil_of_length_eq_zero.{u}:=@List.eq_nil_of_length_eq_zero.{u}
theorem Xy.{u}:type_of% @List.drop_zero.{u}:=@List.drop_zero.{u}
theorem Xx.{u}:type_of% @List.drop_succ_cons.{u}:=@List.drop_succ_cons.{u}
theorem Xw.{u}:type_of% @List.drop_eq_nil_of_le.{u}:=@List.drop_eq_nil_of_le.{u}
theorem Xv.{u}:type_of% @List.drop_eq_getElem_cons.{u}:=@List.drop_eq_getElem_cons.{u}
theorem Xu.{u}:type_of% @List.cons_append.{u}:=@List.cons_append.{u}
theorem Xt.{u}:type_of% @List.cons.injEq.{u}:=@List.cons.injEq.{u}
theorem Xs.{u}:type_of% @List.cons.inj.{u}:=@List.cons.inj.{u}
theorem Xr.{u}:type_of% @List.append_nil.{u}:=@List.append_nil.{u}
theorem Xq.{u}:type_of% @List.all_eq_true.{u}:=@List.all_eq_true.{u}
theorem Xp:type_of% @Int.toNat_of_nonneg:=@Int.toNat_of_nonneg
theorem Xo:type_of% @Int.toNat_natCast:=@Int.toNat_natCast
theorem Xn:type_of% @Int.tmod_eq_emod_of_nonneg:=@Int.tmod_eq_emod_of_nonneg
theorem Xm:type_of% @Int.tdiv_eq_ediv_of_nonneg:=@Int.tdiv_eq_ediv_of_nonneg
theorem Xl:type_of% @Int.natCast_add:=@Int.natCast_add
theorem Xk:type_of% @Int.le_refl:=@Int.le_refl
theorem Xj:type_of% @Int.cast_ofNat_Int:=@Int.cast_ofNat_Int
theorem Xi:type_of% @Bool.true_and:=@Bool.true_and
theorem Xh:type_of% @Bool.false_eq_true:=@Bool.false_eq_true
theorem Xg:type_of% @Bool.false_and:=@Bool.false_and
theorem Xf:type_of% @Bool.and_false:=@Bool.and_false
theorem Xe.{u}:type_of% @Array.getElem?_setIfInBounds_ne.{u}:=@Array.getElem?_setIfInBounds_ne.{u}
theorem Xd.{u}:type_of% @Array.getElem?_eq_none.{u}:=@Array.getElem?_eq_none.{u}
theorem Xc.{u}:type_of% @Array.getElem?_eq_getElem.{u}:=@Array.getElem?_eq_getElem.{u}
theorem Xb.{u}:type_of% @Array.getD_eq_getD_getElem?.{u}:=@Array.getD_eq_getD_getElem?.{u}
abbrev W9:=List Value
abbrev W5:=List Int
theorem W4 {α:Type _}{a:α}(s:List α){t:List α}(h:a∈t):a∈s++t:=List.mem_append_right s h
theorem W3 {α:Type _}{a:α}{s:List α}(t:List α)(h:a∈s):a∈s++t:=List.mem_append_left t h
theorem W2 {α:Type _}(a b c:List α):a++b++c=a++(b++c):=List.append_assoc a b c
theorem W0 (n:Nat):n<n+1:=Nat.lt_succ_self n
theorem WZ [Decidable p](h:¬p):decide p=false:=decide_eq_false h
theorem WY [Decidable p](h:p):decide p=true:=decide_eq_true h
abbrev W (A:Option Addr)(n c:Nat):Value:=.slice A n c
theorem J {α:Sort _}{a:α}:a=a:=rfl
theorem O (h:p:=by kernel_rfl):p:=h
theorem I (h:p:=by omega):p:=h
theorem bD {α:Type _}{a b:α}(h:some a=some b):a=b:=YM h
open Go.RowKit
abbrev Ext (w w':World):Prop:=Below w.heap.size w w'
theorem Ext.refl (w:World):Ext w w:=Below.refl _ _
theorem Ext.trans {a b c:World}(h:Ext a b)(k:Ext b c):Ext a c:=Below.trans h (Below.mono k h.size)
theorem Ext.drew {a w:World}(h:Ext a w):Ext a w.drew:=⟨h.os,h.tape,h.output,h.size,h.block⟩
theorem Ext.alloc {a w:World}(h:Ext a w)(o:Obj):Ext a (w.alloc o):=Below.alloc h h.size o
def Blk (w:World)(b:Nat)(t:TypeId)(cs:Array Value):Prop:=w.heap[b]? =some (.cells cs t (0,0))
theorem Blk.lt {w:World}{b:Nat}(h:Blk w b t cs):b<w.heap.size:=by
 rcases YE b w.heap.size with hlt|hge
 ·exact hlt
 unfold Blk at h;rw [Xd hge] at h;cases h
theorem Blk.new (w:World)(t:TypeId)(cs:Array Value):Blk (w.alloc (.cells cs t)) w.heap.size t cs:=heap_alloc_new w _
theorem Blk.ext {w:World}{b:Nat}(h:Blk w b t cs)(hb:Ext w w'):Blk w' b t cs:=(hb.block b h.lt).trans h
theorem Blk.cells {w:World}{b:Nat}(h:Blk w b t cs): ∀j,w.cell? ⟨b,j,none⟩=cs[j]? :=fun j=>cell_of_row w b j cs t (0,0) h
theorem Blk.free {w:World}{b:Nat}(h:Blk w b t cs): ∀j,w.frozen? ⟨b,j,none⟩=false:=fun j=>frozen_of_row w b j cs t h
abbrev bF:=List (Nat×Value)
def jP:bF->Nat->Option Value
 | [],_=>none
 |(k,v)::r,i=>bif Nat.beq k i then some v else jP r i
def bl (s:bF):Operand->Option Value
 | .tmp t=>jP s t
 | .const v=>some v
 | .global g=>some (.pointer (some ⟨g,0,none⟩))
 | .func f=>some (.func (.func f) #[] #[])
structure Fits (n:Nat) (s:bF) (a:Act):Prop where
 size:a.tmps.size=n
 defers:a.defers=[]
 at_: ∀k v,jP s k=some v->a.tmps.getD k undef=v
def AO (s t:bF):Prop:= ∀k v,jP t k=some v->jP s k=some v
theorem bQ {s:bF}:AO s s:=fun _ _ h=>h
theorem QA {s:bF}:AO s []:=fun _ _ h=>(by cases h)
theorem lp (s:bF)(d k:Nat)(v:Value):jP ((d,v)::s) k=if d=k then some v else jP s k:=by
 show (bif Nat.beq d k then some v else jP s k)=_;by_cases h:d=k
 ·subst h;simp
 rw [if_neg h]
 have:Nat.beq d k=false:=by cases hb:Nat.beq d k with
  |false=>rfl
  |true=>exact absurd (Yy hb) h
 rw [this];rfl
theorem la {s t:bF}{k:Nat}(h:jP s k=some v)(ht:AO s t):AO s ((k,v)::t):=fun j u hj=>by
 rw [lp] at hj;by_cases e:k=j
 ·subst e;rw [if_pos rfl] at hj;rw [h,hj]
 rw [if_neg e] at hj;exact ht j u hj
theorem av {s t:bF}{k:Nat}(ht:AO s t)(h:jP t k=none):AO ((k,v)::s) t:=fun j u hj=>by
 rw [lp];by_cases e:k=j
 ·subst e;rw [h] at hj;cases hj
 rw [if_neg e];exact ht j u hj
theorem O7 {s t:bF}{k:Nat}(hs:AO s t)(h:jP t k=some v):jP s k=some v:=hs k v h
theorem Fits.eval {s:bF}(h:Fits n s a)(hx:bl s x=some v):a.eval x=v:=by
 cases x with
 |tmp t=>exact h.at_ t v hx
 |const u=>exact YM hx
 |global g=>exact YM hx
 |func f=>exact YM hx
theorem Fits.put {s:bF}(h:Fits n s a){d:Nat}(v:Value)(hd:d<n):Fits n ((d,v)::s) (a.put (some d) v):=by
 refine ⟨by simp [Act.put,h.size],h.defers,fun k u hk=> ?_⟩;rw [lp] at hk
 have hd':d<a.tmps.size:=by rw [h.size];exact hd
 by_cases e:d=k
 ·subst e;rw [if_pos rfl] at hk;simp [Act.put,hd',YM hk]
 rw [if_neg e] at hk;have:=h.at_ k u hk;simpa [Act.put,Xe e] using this
abbrev Db:=Exit->bF->World->Prop
def Fin (n:Nat)(K:Db):Exit->Act->World->Prop:=fun e a w=> ∃s,Fits n s a/\K e s w
def TU (id:Nat)(K:Db):Db
 | .exit j,s,w=>bif Nat.beq j id then K .normal s w else K (.exit j) s w
 |e,s,w=>K e s w
def Ev (P:Program)(s:bF)(C:World->Prop)(o:Oper)(v:Value):Prop:= ∀ρ:Operand->Value,(∀x u,bl s x=some u->ρ x=u)-> ∀w,C w->(execOp ρ o).run P w=.ok (.value v) w
def aD (ops:Array Oper)(s:bF)(o:Oper):Option Bool:=
 match o.guard with
 |none=>some true
 | some (j,want)=>
  match (ops[j]?).bind (·.dst) with
  |none=>none
  |some d=>
   match jP s d with
   |some (.bool b)=>some (b==want)
   |some _=>some false
   |none=>none
theorem Ie {s:bF}{b:Bool}(ha:Fits n s a)(h:aD ops s o=some b):Region.wanted o (yielded ops a.tmps)=b:=by
 unfold aD at h;unfold Region.wanted
 cases hg:o.guard with
 |none=>rw [hg] at h;simpa using h
 | some p=>
  obtain ⟨j,want⟩:=p;rw [hg] at h;simp only at h⊢;unfold yielded
  cases hd:(ops[j]?).bind (·.dst) with
  |none=>rw [hd] at h;cases h
  | some d=>
   rw [hd] at h;simp only at h
   cases hl:jP s d with
   |none=>rw [hl] at h;cases h
   | some v=>
    rw [hl] at h;have hv:=ha.at_ d v hl
    cases v with
    | bool c=>
     simp only [YN] at h
     have:a.tmps[d]? =some (.bool c):=by
      rcases YE d a.tmps.size with hlt|hge
      ·simp [hlt] at hv;simp [hlt,hv]
      simp [hge,undef] at hv
     simp only [YJ,this];rw [<-h];cases c<;>cases want<;>rfl
    |_=>
     have hs:some false=some b:=h;have hb:=YM hs;subst hb;simp only [YJ];rcases YE d a.tmps.size with hlt|hge
     ·simp [hlt] at hv;simp [hlt,hv]
     simp [hge]
section
variable {s:bF}{w:World}{d:Nat}
def FN (s:bF):List Operand->Option W9
 | []=>some []
 |x::r=>match bl s x,FN s r with
  |some v,some l=>some (v::l)
  |_,_=>none
theorem rG {s:bF}(h:∀x u,bl s x=some u->ρ x=u): ∀{l:List Operand} {vs:W9},FN s l=some vs->l.map ρ=vs
 | [],vs,e=>by simp [FN] at e;simp [e]
 | x::r,vs,e=>by
  unfold FN at e
  cases hx:bl s x with
  |none=>rw [hx] at e;cases e
  | some v=>
   cases hr:FN s r with
   |none=>rw [hx,hr] at e;cases e
   |some l=>
    rw [hx,hr] at e;simp only [YN] at e;rw [X5,h x v hx,rG h hr,e]
def qH (P:Program)(f:FuncId):Prop:= ∃fn:Func,P.funcs[f]? =some fn/\fn.body.isNone=false/\(fn.name== "runtime.NumGoroutine")=false
theorem xD {d:Option Nat}{vs:W9}(hf:qH P f)(hv:xs.map ρ=vs)(hρ:ρ (.func f)=.func (.func f) #[] #[]):
  (execOp ρ ⟨d,.call ⟨.value (.func f),xs.toArray,ats⟩,ty,pos,af,gd⟩).run P w=.ok (.enter f vs.toArray) w:=by
 unfold execOp;simp only [resolve,hρ,Deferred.ofValue,X6,hv];obtain ⟨fn,hf,hb,hn⟩:=hf
 have hn': ¬fn.name= "runtime.NumGoroutine" :=by simpa using hn
 have hb': ¬fn.body=none:=by intro h;rw [h] at hb;cases hb
 simp [invoke,callFunc,hf,hb',hn',YQ]
end
section
variable {s:bF}{d:Option Nat}
theorem ap (h:bl s x=some v):Ev P s C ⟨d,.move x,ty,pos,af,gd⟩ v:=fun ρ hρ w _=>by
 show (Sem.pure (Next.value (ρ x))).run P w=_;rw [hρ x v h];rfl
theorem cm (h:bl s x=some v):Ev P s C ⟨d,.assign x,ty,pos,af,gd⟩ v:=fun ρ hρ w _=>by
 show (Sem.pure (Next.value (ρ x))).run P w=_;rw [hρ x v h];rfl
theorem Hd {c:Operand}(hc:bl s c=some (.bool true))(hx:bl s x=some u):Ev P s C ⟨d,.pick c x y,ty,pos,af,gd⟩ u:=fun ρ hρ w _=>by
 unfold execOp;simp only [hρ c _ hc,hρ x _ hx];rfl
theorem He {c:Operand}(hc:bl s c=some (.bool false))(hy:bl s y=some u):Ev P s C ⟨d,.pick c x y,ty,pos,af,gd⟩ u:=fun ρ hρ w _=>by
 unfold execOp;simp only [hρ c _ hc,hρ y _ hy];rfl
theorem La {b:Bool}(h:bl s x=some (.bool b)):Ev P s C ⟨d,.unOp .not t x,ty,pos,af,gd⟩ (.bool (!b)):=fun ρ hρ w _=>by
 unfold execOp;simp only [hρ x _ h];rfl
theorem cO {vs:Array Value}(h:bl s x=some (.tuple vs))(hi:vs[i]? =some v):Ev P s C ⟨d,.extract x i,ty,pos,af,gd⟩ v:=fun ρ hρ w _=>by
 unfold execOp;simp only [hρ x _ h,Instr.extract,hi];rfl
theorem dE {a:Addr}(h:bl s x=some (.pointer (some a))):Ev P s C ⟨d,.nilCheck x,ty,pos,af,gd⟩ (.pointer (some a)):=fun ρ hρ w _=>by
 unfold execOp;simp only [hρ x _ h];rfl
theorem fb {b:BinOp}{u:TypeId}{p q:Value}(hx:bl s x=some p)(hy:bl s y=some q)(hr:∀w,(do eqGuard b t x y p q;binOp b t p q:Sem Value).run P w=.ok v w):Ev P s C ⟨d,.binOp b t x y u,ty,pos,af,gd⟩ v:=fun ρ hρ w _=>by
 unfold execOp;simp only [hρ x _ hx,hρ y _ hy];have:=hr w;rw [YQ,this];rfl
theorem yH {z:Int}(h1:-9223372036854775808<=z)(h2:z<=9223372036854775807):IntKind.i64.wrap z=z:=IntWalk.i64_in z ⟨by omega,by omega⟩
theorem iz {u:TypeId}{a b:Int}(hx:bl s x=some (.int .i64 a))(hy:bl s y=some (.int .i64 b))(h1:-9223372036854775808<=a+b)(h2:a+b<=9223372036854775807):Ev P s C ⟨d,.binOp .add t x y u,ty,pos,af,gd⟩ (.int .i64 (a+b)):=
 fb hx hy fun w=>(show Result.ok (Value.int .i64 (IntKind.i64.wrap (a+b))) w=_ by rw [yH h1 h2])
theorem wD {u:TypeId}{a b:Int}(hx:bl s x=some (.int .i64 a))(hy:bl s y=some (.int .i64 b))(h1:-9223372036854775808<=a - b)(h2:a - b<=9223372036854775807):Ev P s C ⟨d,.binOp .sub t x y u,ty,pos,af,gd⟩ (.int .i64 (a - b)):=
 fb hx hy fun w=>(show Result.ok (Value.int .i64 (IntKind.i64.wrap (a - b))) w=_ by rw [yH h1 h2])
theorem rp {u:TypeId}{a b:Int}(hx:bl s x=some (.int .i64 a))(hy:bl s y=some (.int .i64 b))(h1:-9223372036854775808<=a*b)(h2:a*b<=9223372036854775807):Ev P s C ⟨d,.binOp .mul t x y u,ty,pos,af,gd⟩ (.int .i64 (a*b)):=
 fb hx hy fun w=>(show Result.ok (Value.int .i64 (IntKind.i64.wrap (a*b))) w=_ by rw [yH h1 h2])
theorem sn {u:TypeId}{a b:Int}(hx:bl s x=some (.int .i64 a))(hy:bl s y=some (.int .i64 b))(h:b≠0):Ev P s C ⟨d,.binOp .rem t x y u,ty,pos,af,gd⟩ (.int .i64 (a.tmod b)):=
 fb hx hy fun w=>(by show (Op.intDiv .rem .i64 a b).run P w=_;unfold Op.intDiv;rw [if_neg h];rfl)
theorem FP {u:TypeId}{a b:Int}(hx:bl s x=some (.int .i64 a))(hy:bl s y=some (.int .i64 b))(h:b≠0)(h1:-9223372036854775808<=a.tdiv b)(h2:a.tdiv b<=9223372036854775807):Ev P s C ⟨d,.binOp .quo t x y u,ty,pos,af,gd⟩ (.int .i64 (a.tdiv b)):=
 fb hx hy fun w=>(by show (Op.intDiv .quo .i64 a b).run P w=_;unfold Op.intDiv;rw [if_neg h];show Result.ok (Value.int .i64 (IntKind.i64.wrap (a.tdiv b))) w=_;rw [yH h1 h2])
theorem Uz {u:TypeId}{a b:Int}(hx:bl s x=some (.int k a))(hy:bl s y=some (.int k b)):Ev P s C ⟨d,.binOp .lss t x y u,ty,pos,af,gd⟩ (.bool (decide (a<b))):=
 fb hx hy fun w=>by cases k<;>rfl
theorem UA {u:TypeId}{a b:Int}(hx:bl s x=some (.int k a))(hy:bl s y=some (.int k b)):Ev P s C ⟨d,.binOp .leq t x y u,ty,pos,af,gd⟩ (.bool (decide (a<=b))):=
 fb hx hy fun w=>by cases k<;>rfl
theorem UB {u:TypeId}{a b:Int}(hx:bl s x=some (.int k a))(hy:bl s y=some (.int k b)):Ev P s C ⟨d,.binOp .gtr t x y u,ty,pos,af,gd⟩ (.bool (decide (b<a))):=
 fb hx hy fun w=>by cases k<;>rfl
theorem Sx {u:TypeId}{a b:Int}(hx:bl s x=some (.int k a))(hy:bl s y=some (.int k b)):Ev P s C ⟨d,.binOp .geq t x y u,ty,pos,af,gd⟩ (.bool (decide (b<=a))):=
 fb hx hy fun w=>by cases k<;>rfl
theorem Pz {u:TypeId}{a b:Int}(hx:bl s x=some (.int k a))(hy:bl s y=some (.int k b)):Ev P s C ⟨d,.binOp .eql t x y u,ty,pos,af,gd⟩ (.bool (decide (a=b))):=
 fb hx hy fun w=>by cases k<;>rfl
theorem Sw {u:TypeId}{a b:Int}(hx:bl s x=some (.int k a))(hy:bl s y=some (.int k b)):Ev P s C ⟨d,.binOp .neq t x y u,ty,pos,af,gd⟩ (.bool (!decide (a=b))):=
 fb hx hy fun w=>by cases k<;>rfl
end
def qQ:W9->Nat->bF
 | [],_=> []
 |v::r,i=>(i,v)::qQ r (i+1)
theorem Fj: ∀(l:W9) (i k:Nat) (v:Value),jP (qQ l i) k=some v->i<=k/\l[k - i]? =some v
 | [],_,_,_,h=>by cases h
 |u::r,i,k,v,h=>by
  unfold qQ at h;rw [lp] at h;by_cases e:i=k
  ·subst e;rw [if_pos rfl] at h;simpa using h
  rw [if_neg e] at h;obtain ⟨h1,h2⟩:=Fj r (i+1) k v h;refine ⟨by omega,?_⟩;rw [show k - i=(k - (i+1))+1 by omega,XJ];exact h2
section
variable {s:bF}
theorem ca (hg:g=true)(h:aD ops s o=some (g==true)):aD ops s o=some true:=by rw [h,hg];rfl
theorem dw (hg:g=false)(h:aD ops s o=some (g==false)):aD ops s o=some true:=by rw [h,hg];rfl
theorem uc (hg:g=false)(h:aD ops s o=some (g==true)):aD ops s o=some false:=by rw [h,hg];rfl
theorem DR (hg:g=true)(h:aD ops s o=some (g==false)):aD ops s o=some false:=by rw [h,hg];rfl
end
section
variable {s:bF}{d:Option Nat}
theorem iy {c:Operand}(hg:g=true)(hc:bl s c=some (.bool g))(hx:bl s x=some u):Ev P s C ⟨d,.pick c x y,ty,pos,af,gd⟩ u:=Hd (hg▸hc) hx
theorem jy {c:Operand}(hg:g=false)(hc:bl s c=some (.bool g))(hy:bl s y=some u):Ev P s C ⟨d,.pick c x y,ty,pos,af,gd⟩ u:=He (hg▸hc) hy
end
end
section
open Go.RowKit
def CellsAt (w:World)(b o:Nat)(l:W9):Prop:= ∀j u,l[j]? =some u->w.cell? ⟨b,o+j,none⟩=some u
def iv (P:Program)(t:TypeId):Bool:=match P.underlying t with|some (.struct _)|some (.array _ _)|none=>false|_=>true
def IF (P:Program)(t:TypeId)(sz:Nat):Bool:=(match P.underlying t with|some (.struct _)|some (.array _ _)=>true|_=>false)&&(match P.info? t with|some i=>Nat.beq i.size sz|none=>false)
def lg (P:Program)(t:TypeId)(sz:Nat):Bool:=match P.info? t with|some i=>Nat.beq i.size sz|none=>false
theorem Jx {w:World}{p:World->Prop}(h:p w): ∀w',w'=w->p w':=fun _ e=>e▸h
theorem ld {sz:Nat}(h:lg P t sz=true)(w:World):(sizeOf t).run P w=.ok sz w:=by
 unfold lg at h
 cases hi:P.info? t with
 |none=>rw [hi] at h;cases h
 |some i=>
  rw [hi] at h;have:=Yy h;rw [run_sizeOf w hi];simp [Program.cellsOf,hi,this]
theorem Blk.at {w:World}{b:Nat}(h:Blk w b t cs)(hj:cs[j]? =some u):w.cell? ⟨b,j,none⟩=some u:=(h.cells j).trans hj
theorem Blk.all {w:World}{b:Nat}{l:W9}(h:Blk w b t l.toArray):CellsAt w b 0 l:=fun j u hj=>by
 rw [YH];exact h.at (by simpa using hj)
theorem kz (b o j:Nat):(⟨b,o,none⟩:Addr).add j=⟨b,o+j,none⟩:=by unfold Addr.add;split<;>simp_all
section
variable {s:bF}{d:Option Nat}
theorem kH {t f b o o':Nat}(hx:bl s x=some (.pointer (some ⟨b,o,none⟩)))(hr:∀b o w,(Instr.fieldAt t (.pointer (some ⟨b,o,none⟩)) f).run P w=.ok (.pointer (some ⟨b,o+o',none⟩)) w):Ev P s C ⟨d,.fieldAddr t x f,ty,pos,af,gd⟩ (.pointer (some ⟨b,o+o',none⟩)):=fun ρ hρ w _=>by
 unfold execOp;simp only [hρ x _ hx,YQ,hr,YP];rfl
theorem qx {t f b o:Nat}(hx:bl s x=some (.pointer (some ⟨b,o,none⟩)))(hr:∀b o w,(Instr.fieldAt t (.pointer (some ⟨b,o,none⟩)) f).run P w=.ok (.pointer (some ⟨b,o,none⟩)) w):Ev P s C ⟨d,.fieldAddr t x f,ty,pos,af,gd⟩ (.pointer (some ⟨b,o,none⟩)):=fun ρ hρ w _=>by
 unfold execOp;simp only [hρ x _ hx,YQ,hr,YP];rfl
theorem FR {t e sz:Nat}{i:Operand}{b o len:Nat}{k:Int}(hx:bl s x=some (.slice (some ⟨b,o,none⟩) len cap))(hi:bl s i=some (.int .i64 k))(hu:P.underlying t=some (.slice e))(hs:lg P e sz=true)(h0:0<=k)(h1:k<len):Ev P s C ⟨d,.indexAddr t x i,ty,pos,af,gd⟩ (.pointer (some ⟨b,o+k.toNat*sz,none⟩)):=fun ρ hρ w _=>by
 have he:P.elem t=e:=by unfold Program.elem;rw [hu]
 unfold execOp;simp only [hρ x _ hx,hρ i _ hi,YQ];rw [run_indexAt_slice w t ⟨b,o,none⟩ len cap .i64 k (by rw [hu,he]),if_pos ⟨h0,h1⟩,he,ld hs w];simp only [YP,kz];rfl
theorem Ca {a:Addr}(hx:bl s x=some (.pointer (some a)))(hu:iv P t=true)(hc:∀w,C w->w.cell? a=some v):Ev P s C ⟨d,.load t x,ty,pos,af,gd⟩ v:=fun ρ hρ w hw=>by
 have h1:(isAgg t).run P w=.ok false w:=by
  unfold iv at hu;unfold isAgg
  cases hq:P.underlying t with
  |none=>rw [hq] at hu;cases hu
  |some u=>rw [hq] at hu;rw [YQ,YW hq];cases u<;>first|rfl|(cases hu)
 unfold execOp;simp only [hρ x _ hx,Instr.loadAt,Instr.sureAddr,loadVar,YQ,YR,YP,h1,Xh,if_false,run_load,hc w hw]
theorem GG {b o:Nat}{cs:W9}{w:World}(hu:IF P t cs.length=true)(hc:CellsAt w b o cs):(loadVar t ⟨b,o,none⟩).run P w=.ok (.agg cs.toArray) w:=by
 unfold IF at hu;rw [Y3] at hu
 have h1:(isAgg t).run P w=.ok true w:=by
  have hu:=hu.1;unfold isAgg
  cases hq:P.underlying t with
  |none=>rw [hq] at hu;cases hu
  |some u=>rw [hq] at hu;rw [YQ,YW hq];cases u<;>first|rfl|(cases hu)
 have h2:(sizeOf t).run P w=.ok cs.length w:=ld hu.2 w
 have h3:(loadCells ⟨b,o,none⟩ cs.length).run P w=.ok cs.toArray w:=run_loadCells_list w ⟨b,o,none⟩ cs fun j u hj=>by rw [kz];exact hc j u hj
 simp only [loadVar,YQ,YP,h1,if_true,h2,h3];rfl
theorem BZ {b o:Nat}{cs:W9}(hx:bl s x=some (.pointer (some ⟨b,o,none⟩)))(hc:∀w,C w->CellsAt w b o cs)(hu:IF P t cs.length=true):Ev P s C ⟨d,.load t x,ty,pos,af,gd⟩ (.agg cs.toArray):=fun ρ hρ w hw=>by
 unfold execOp;simp only [hρ x _ hx,Instr.loadAt,Instr.sureAddr,YQ,YR,YP,GG hu (hc w hw)]
theorem fO {b:Builtin}{vs:W9}(hv:xs.map ρ=vs)(w:World):
  (execOp ρ ⟨d,.call ⟨.builtin b,xs.toArray,ats⟩,ty,pos,af,gd⟩).run P w=(builtin b ats ty (xs.toArray.map fun| .const _=>true|_=>false) vs.toArray).run P w:=by
 unfold execOp;simp only [resolve,X6,hv];rfl
theorem FQ {len:Nat}(hx:bl s x=some (.slice A len cap))(hu:P.underlying t=some (.slice e)):Ev P s C ⟨d,.call ⟨.builtin .len, #[x], #[t]⟩,ty,pos,af,gd⟩ (.int .i64 len):=fun ρ hρ w _=>by
 have:=fO (P:=P) (d:=d) (ty:=ty) (pos:=pos) (af:=af) (gd:=gd) (ρ:=ρ) (b:=.len) (xs:=[x]) (ats:= #[t]) (vs:=[.slice A len cap]) (by simp [hρ x _ hx]) w;rw [this];simp [builtin,Builtin.len_,YW hu,goInt]
theorem qw {b:ByteArray}(hx:bl s x=some (.string b))(hu:P.underlying t=some .string):Ev P s C ⟨d,.call ⟨.builtin .len, #[x], #[t]⟩,ty,pos,af,gd⟩ (.int .i64 b.size):=fun ρ hρ w _=>by
 have:=fO (P:=P) (d:=d) (ty:=ty) (pos:=pos) (af:=af) (gd:=gd) (ρ:=ρ) (b:=.len) (xs:=[x]) (ats:= #[t]) (vs:=[.string b]) (by simp [hρ x _ hx]) w;rw [this];simp [builtin,Builtin.len_,YW hu,goInt]
theorem Py {t f:Nat}(hx:bl s x=some (.agg cs))(hr:∀w,(Instr.field t (.agg cs) f).run P w=.ok v w):Ev P s C ⟨d,.field t x f,ty,pos,af,gd⟩ v:=fun ρ hρ w _=>by
 unfold execOp;simp only [hρ x _ hx,YQ,hr,YP];rfl
theorem dL {u:TypeId}{p:Option Addr}(hx:bl s x=some (.pointer p))(hu:P.underlying t=some (.pointer e)):Ev P s C ⟨d,.binOp .eql t x (.const (.pointer none)) u,ty,pos,af,gd⟩ (.bool p.isNone):=
 fb hx rfl fun w=>by
  rw [YQ];show (binOp .eql t (.pointer p) (.pointer none)).run P w=_;rw [run_eql_pointer_nil w t p (by rw [hu,show P.pointee t=e by unfold Program.pointee;rw [hu]])]
theorem vQ {u:TypeId}{p:Option Addr}(hx:bl s x=some (.pointer p))(hu:P.underlying t=some (.pointer e)):Ev P s C ⟨d,.binOp .neq t x (.const (.pointer none)) u,ty,pos,af,gd⟩ (.bool p.isSome):=
 fb hx rfl fun w=>by
  rw [YQ];show (binOp .neq t (.pointer p) (.pointer none)).run P w=_;rw [run_neq_pointer_nil w t p (by rw [hu,show P.pointee t=e by unfold Program.pointee;rw [hu]])];cases p<;>rfl
theorem rZ {u:TypeId}{a b:ByteArray}(hx:bl s x=some (.string a))(hy:bl s y=some (.string b)):Ev P s C ⟨d,.binOp .eql t x y u,ty,pos,af,gd⟩ (.bool (a.toList==b.toList)):=
 fb hx hy fun w=>by
  rw [YQ];show (Op.stringOp .eql a b).run P w=_;rfl
theorem FO {u:TypeId}{a b:ByteArray}(hx:bl s x=some (.string a))(hy:bl s y=some (.string b)):Ev P s C ⟨d,.binOp .neq t x y u,ty,pos,af,gd⟩ (.bool (!(a.toList==b.toList))):=
 fb hx hy fun w=>by
  rw [YQ];show (Op.stringOp .neq a b).run P w=_;rfl
end
section
variable {s:bF}{d:Option Nat}
def NP (s:bF):List (Nat×Operand)->Option (List (Nat×Value))
 | []=>some []
 |(i,x)::r=>match bl s x,NP s r with
  |some v,some l=>some ((i,v)::l)
  |_,_=>none
theorem Ef {s:bF}(h:∀x u,bl s x=some u->ρ x=u): ∀{l:List (Nat×Operand)} {vs:List (Nat×Value)},NP s l=some vs->l.map (fun (i,x)=>(i,ρ x))=vs
 | [],vs,e=>by simp [NP] at e;simp [e]
 |(i,x)::r,vs,e=>by
  unfold NP at e
  cases hx:bl s x with
  |none=>rw [hx] at e;cases e
  | some v=>
   cases hr:NP s r with
   |none=>rw [hx,hr] at e;cases e
   |some l=>
    rw [hx,hr] at e;simp only [YN] at e;show (i,ρ x)::r.map (fun (i,x)=>(i,ρ x))=vs;rw [h x v hx,Ef h hr,e]
theorem nB (hp:NP s ps=some vs)(hr:∀w,(Instr.build t vs.toArray).run P w=.ok v w):Ev P s C ⟨d,.build t ps.toArray,ty,pos,af,gd⟩ v:=fun ρ hρ w _=>by
 unfold execOp;simp only [X6,Ef hρ hp,YQ,hr,YP];rfl
end
end
section
open Go.RowKit
structure Fr (S:Nat->Prop) (w w':World):Prop where
 os:w'.os=w.os
 tape:w'.tape=w.tape
 output:w'.output=w.output
 size:w.heap.size<=w'.heap.size
 block: ∀q,q<w.heap.size-> ¬S q->w'.heap[q]? =w.heap[q]?
theorem Fr.refl (S:Nat->Prop)(w:World):Fr S w w:=⟨rfl,rfl,rfl,YB _,fun _ _ _=>rfl⟩
theorem Fr.trans {a b c:World}(h:Fr S a b)(k:Fr S b c):Fr S a c:=
 ⟨k.os.trans h.os,k.tape.trans h.tape,k.output.trans h.output,YC h.size k.size,fun q hq hs=>(k.block q (YD hq h.size) hs).trans (h.block q hq hs)⟩
theorem PH (w:World):Ext w w.drew:=(Ext.refl w).drew
section
variable {w:World}
theorem Kg (w:World)(b o:Nat)(v:Value):Fr (· =b) w (w.setCell ⟨b,o,none⟩ v):=
 ⟨rfl,rfl,rfl,by unfold World.setCell;simp,fun q _ hn=>Below.heap_setCell w ⟨b,o,none⟩ v q hn⟩
end
end
section
open Go.RowKit
def tj {α:Type}:Sem α->Prop
 | .pure _=>True
 | .load _ _ k=> ∀v,tj (k v)
 | .store .. =>False
 | .new _ k=> ∀r,tj (k r)
 | .shape _ k=> ∀s,tj (k s)
 | .freeze .. =>False
 | .frozen _ k=> ∀b,tj (k b)
 | .getObj _ k=> ∀o,tj (k o)
 | .setObj .. =>False
 | .choose _ k=> ∀n,tj (k n)
 | .sys .. =>False
 | .program k=> ∀p,tj (k p)
 | .mark _ k=>tj k
 | .halt _=>True
theorem yL {e:Sem α}{f:α->Sem β}(h:tj e)(hf:∀a,tj (f a)):tj (e>>=f):=by
 show tj (Sem.bind e f)
 induction e with
 |pure a=>exact hf a
 |load m a k ih=>exact fun v=>ih v (h v)
 |store m a v k ih=>exact h.elim
 |new o k ih=>exact fun v=>ih v (h v)
 |shape r k ih=>exact fun v=>ih v (h v)
 |freeze a n k ih=>exact h.elim
 |frozen a k ih=>exact fun v=>ih v (h v)
 |getObj r k ih=>exact fun v=>ih v (h v)
 |setObj r o k ih=>exact h.elim
 |choose q k ih=>exact fun v=>ih v (h v)
 |sys c k ih=>exact h.elim
 |program k ih=>exact fun v=>ih v (h v)
 |mark m k ih=>exact ih h
 |halt x=>trivial
theorem IV {e:Sem α}(h:tj e): ∀{w w':World} {x:α},e.run P w=.ok x w'->Ext w w':=by
 induction e with
 |pure a=>intro w w' x hr;simp only [Sem.run,Result.ok.injEq] at hr;obtain ⟨-,rfl⟩:=hr;exact Ext.refl _
 |load m a k ih=>
  intro w w' x hr;simp only [Sem.run] at hr;split at hr
  ·exact ih _ (h _) hr
  split at hr
  ·exact ih _ (h _) hr
  cases hr
 |store m a v k ih=>exact h.elim
 |new o k ih=>intro w w' x hr;simp only [Sem.run] at hr;exact ((Ext.refl w).alloc o).trans (ih _ (h _) hr)
 |shape r k ih=>intro w w' x hr;simp only [Sem.run] at hr;exact ih _ (h _) hr
 |freeze a n k ih=>exact h.elim
 |frozen a k ih=>intro w w' x hr;simp only [Sem.run] at hr;exact ih _ (h _) hr
 |getObj r k ih=>
  intro w w' x hr;simp only [Sem.run] at hr;split at hr
  ·cases hr
  ·exact ih _ (h _) hr
  cases hr
 |setObj r o k ih=>exact h.elim
 |choose q k ih=>
  intro w w' x hr;simp only [Sem.run] at hr;split at hr
  ·exact ih _ (h _) hr
  exact (PH w).trans (ih _ (h _) hr)
 |sys c k ih=>exact h.elim
 |program k ih=>intro w w' x hr;simp only [Sem.run] at hr;exact ih _ (h _) hr
 |mark m k ih=>intro w w' x hr;simp only [Sem.run] at hr;exact ih h hr
 |halt x=>intro w w' x hr;simp only [Sem.run] at hr;cases hr
theorem uW (t:TypeId):tj (typeInfo t):=by
 unfold typeInfo
 refine yL (fun _=>trivial) fun p=> ?_
 split<;>trivial
theorem IU (t:TypeId):tj (sizeOf t):=yL (uW t) fun _=>trivial
theorem MS (a:Addr):tj (load a):=fun _=>trivial
theorem tx (a:Addr): ∀(n i:Nat) (acc:Array Value),tj (loadCellsFrom a i n acc)
 |0,_,_=>trivial
 |n+1,i,_=>yL (MS _) fun _=>tx a n (i+1) _
theorem MR (t:TypeId):tj (zeroValue t):=by
 unfold zeroValue
 refine yL (uW t) fun p=> ?_
 split<;>trivial
section
def YieldsC (P:Program)(ops:Array Oper)(C:World->Prop)(o:Oper)(v:Value)(a:Act):Prop:=
 (Region.wanted o (yielded ops a.tmps)=true/\ ∀w,C w->(execOp a.eval o).run P w=.ok (.value v) w)\/(Region.wanted o (yielded ops a.tmps)=false/\v=undef)
theorem YieldsC.of_same {a':Act}(hy:YieldsC P ops C o v a)(he:execOp a'.eval o=execOp a.eval o)(hw:Region.wanted o (yielded ops a'.tmps)=Region.wanted o (yielded ops a.tmps)):YieldsC P ops C o v a':=by
 unfold YieldsC at*;rw [he,hw];exact hy
end
end
section
open Go.RowKit
def Qh (h:Nat)(Q:α->Prop)(e:Sem α):Prop:= ∀(P:Program) (w w':World) (a:α),h<=w.heap.size->e.run P w=.ok a w'->Q a/\h<=w'.heap.size
def yF (h:Nat)(Q:α->Prop)(e:Sem α):Prop:= ∀(P:Program) (w w':World) (a:α),h<=w.heap.size->e.run P w=.ok a w'->Q a
theorem KW {e:Sem α}(ht:tj e):Qh h (fun _=>True) e:=fun _ _ _ _ hw hr=>⟨trivial,YC hw (IV ht hr).size⟩
theorem Ci {e:Sem α}{f:α->Sem β}{w:World}{b:β}(h:(e>>=f).run P w=.ok b w'): ∃a w1,e.run P w=.ok a w1/\(f a).run P w1=.ok b w':=by
 rw [YQ] at h
 cases he:e.run P w with
 |ok a w1=>rw [he,YP] at h;exact ⟨a,w1,J,h⟩
 |halt q w1=>rw [he] at h;simp [Result.andThen] at h
theorem FA {Q1:α->Prop}{Q:β->Prop}{e:Sem α}{f:α->Sem β}(he:Qh h Q1 e)(hf:∀a,Q1 a->yF h Q (f a)):yF h Q (e>>=f):=fun P w w' b hw hr=>by
 obtain ⟨a,w1,h1,h2⟩:=Ci hr;obtain ⟨h3,h4⟩:=he P w w1 a hw h1;exact hf a h3 P w1 w' b h4 h2
theorem rj {Q:β->Prop}{e:Sem α}{f:α->Sem β}(he:tj e)(hf:∀a,yF h Q (f a)):yF h Q (e>>=f):=FA (KW he) fun a _=>hf a
theorem K5 {Q:α->Prop}{a:α}(hq:Q a):yF h Q (pure a):=fun P w w' b _ hr=>by
 simp only [YR,Result.ok.injEq] at hr;rw [<-hr.1];exact hq
theorem K6 {Q:β->Prop}{e:Sem α}{v:β}(hq:Q v):yF h Q (e>>=fun _=>pure v):=fun P w w' b _ hr=>by
 obtain ⟨a,w1,h1,h2⟩:=Ci hr;simp only [YR,Result.ok.injEq] at h2;rw [<-h2.1];exact hq
theorem NN {Q:α->Prop}{c:Prop}[Decidable c]{x y:Sem α}(hx:yF h Q x)(hy:yF h Q y):yF h Q (if c then x else y):=by split<;>assumption
theorem En (a:Addr)(n:Nat):tj (loadCells a n):=tx a n 0 #[]
theorem DI (sz n:Nat)(v:Value):tj (Builtin.firstCells sz n v):=by unfold Builtin.firstCells;split<;>first|exact En _ _|trivial
def DG (e:Sem α):Prop:= ∀(P:Program) (w w':World) (a:α),e.run P w≠ .ok a w'
theorem Au {x:Halt}:DG (.halt x:Sem α):=fun P w w' a h=>by simp [Sem.run] at h
theorem Ax {e:Sem α}{f:α->Sem β}(hf:∀a,DG (f a)):DG (e>>=f):=fun P w w' b hr=>by
 obtain ⟨a,w1,h1,h2⟩:=Ci hr;exact hf a P w1 w' b h2
theorem Nw {c:Prop}[Decidable c]{x y:Sem α}(hx:DG x)(hy:DG y):DG (if c then x else y):=by split<;>assumption
theorem Jm (m:String):DG (runtimePanic (.error m):Sem α):=Ax fun _=>Au
theorem Dv {Q:β->Prop}{e:Sem α}{f:α->Sem β}(he:DG e):yF h Q (e>>=f):=fun P w w' b hw hr=>by
 obtain ⟨a,w1,h1,h2⟩:=Ci hr;exact absurd h1 (he P w w1 a)
theorem HI (n:Nat):tj (askRoom n):=by unfold askRoom;split<;>trivial
theorem Kc (v:Value):tj (Builtin.lenOf v):=by unfold Builtin.lenOf;split<;>trivial
theorem Ic (h:Nat)(e:TypeId)(cs:Array Value):Qh h (fun a=>h<=a.block) (newRow e cs):=fun P w w' a hw hr=>by
 have h1:(newRow e cs).run P w=.ok ⟨w.heap.size,0,none⟩ (w.alloc (.cells cs e)):=rfl;rw [h1] at hr;simp only [Result.ok.injEq] at hr;obtain ⟨rfl,rfl⟩:=hr;exact ⟨hw,by simp;omega⟩
theorem Hv {bb:Nat}{x:Value}{w:World}(ht:P.underlying t=some (.slice e))(hr:(Builtin.append_ #[t,t] ty #[.slice (some ⟨bb,0,none⟩) n cap,x]).run P w=.ok v w'):v.ownBlock=some bb\/ ∃q,v.ownBlock=some q/\w.heap.size<=q:=by
 unfold Builtin.append_ at hr;simp only [XT,XK,XJ] at hr;rw [YQ,YW ht,YP] at hr
 dsimp only at hr
 obtain ⟨sz,w1,h1,hr⟩:=Ci hr;have e1:=(IV (IU _) h1).size;rw [YQ,YW ht,YP] at hr
 dsimp only at hr
 rw [YQ,YR,YP] at hr;simp only [Xh,if_false,Bool.not_false,if_true,false_or] at hr
 revert hr
 refine fun hr=>(?_:yF w.heap.size (fun v=>v.ownBlock=some bb\/ ∃q,v.ownBlock=some q/\w.heap.size<=q) _) P w1 w' v e1 hr
 repeat' first
   |exact K6 (.inl rfl)
   |exact Dv (Jm _)
   |refine rj (Kc _) fun _=> ?_
   |refine rj (uW _) fun _=> ?_
   |refine rj (MR _) fun _=> ?_
   |refine rj (HI _) fun _=> ?_
   |refine rj (DI _ _ _) fun _=> ?_
   |refine rj (e:=choose _) (fun _=>trivial) fun _=> ?_
   |exact FA (Ic _ _ _) fun a ha=>K5 (.inr ⟨_,rfl,ha⟩)
   |exact Dv (Ax fun _=>Nw (Ax fun _=>Au) Au)
   |refine NN ?_ ?_
def of (A:Option Addr):Nat:=(A.getD ⟨0,0,none⟩).off
theorem Ar {xs:List α}{x:α}(h:xs[i]? =some x):0<xs.length:=Nat.lt_of_le_of_lt (YI _) (XO.1 h).1
theorem CellsAt.part {w:World}{b o:Nat}{l:W9}(h:CellsAt w b o l)(i n:Nat):CellsAt w b (o+i) ((l.drop i).take n):=fun j u hj=>by
 rw [XS] at hj;split at hj
 ·rw [XL] at hj;rw [Nat.add_assoc];exact h _ _ hj
 cases hj
section
variable {s:bF}{d:Option Nat}
def mM (A:Option Addr)(cap l sz:Nat):Option Addr:=if cap=l then A else A.map (·.add (l*sz))
theorem r7 {t e sz:Nat}{hi:Option Operand}{len l:Nat}(hx:bl s x=some (.slice A len cap))(hu:P.underlying t=some (.slice e))(hs:lg P e sz=true)(hl:match lo with|none=>l=0|some o=>bl s o=some (.int .i64 (l:Int)))(hh:match hi with|none=>h=len|some o=>bl s o=some (.int .i64 (h:Int)))(h1:l<=h)(h2:h<=cap):
  Ev P s C ⟨d,.slice t x lo hi none,ty,pos,af,gd⟩ (.slice (mM A cap l sz) (h - l) (cap - l)):=fun ρ hρ w _=>by
 have e1:(Instr.sliceBounds true len cap (lo.map ρ) (hi.map ρ) none).run P w=.ok (l,h,cap) w:=by
  have b1: ∀code,(Instr.sliceBound (.int .i64 (l:Int)) h code).run P w=.ok l w:=fun code=>by
   have:=run_sliceBound (P:=P) w .i64 (l:Int) h code I I;simpa using this
  have b2: ∀code,(Instr.sliceBound (.int .i64 (h:Int)) cap code).run P w=.ok h w:=fun code=>by
   have:=run_sliceBound (P:=P) w .i64 (h:Int) cap code I I;simpa using this
  cases lo with
  |none=>
   cases hi with
   |none=>simp only at hl hh;subst hl hh;simp [Instr.sliceBounds]
   |some y=>simp only at hl hh;subst hl;simp [Instr.sliceBounds,hρ y _ hh,b2]
  |some x=>
   cases hi with
   |none=>simp only at hl hh;subst hh;simp [Instr.sliceBounds,hρ x _ hl,b1]
   |some y=>simp only at hl hh;simp [Instr.sliceBounds,hρ x _ hl,hρ y _ hh,b1,b2]
 unfold execOp;simp only [hρ x _ hx,Instr.sliceAt,Instr.slice,YQ,YW hu,YP,Option.map_none,e1,ld hs w,YR];rfl
end
section
variable {w:World}
theorem I2 {b o:Nat}{old:Array Value}(h:Blk w b t old):Blk (w.setCell ⟨b,o,none⟩ v) b t (old.setIfInBounds o v):=by
 unfold Blk at h⊢;unfold World.setCell;simp only [Array.getElem?_modify,if_true,h,YL];rfl
def ow (old:Array Value):Nat->W9->Array Value
 |_,[]=>old
 |o,v::r=>ow (old.setIfInBounds o v) (o+1) r
theorem Bw: ∀(cs:W9) (old:Array Value) (o:Nat),(ow old o cs).size=old.size
 | [],_,_=>rfl
 |v::r,old,o=>by show (ow (old.setIfInBounds o v) (o+1) r).size=_;rw [Bw r];simp
theorem OP: ∀(cs:W9) (old:Array Value) (o j:Nat),o+cs.length<=old.size->(ow old o cs)[j]? =if o<=j/\j<o+cs.length then cs[j - o]? else old[j]?
 | [],old,o,j,_=>by rw [if_neg (by simp)];rfl
 | v::r,old,o,j,h=>by
  simp only [XW] at h;show (ow (old.setIfInBounds o v) (o+1) r)[j]? =_;rw [OP r _ _ _ (by simp;omega)];by_cases e:j=o
  ·subst e;rw [if_neg I,if_pos (by simp)];simp [show j<old.size by omega]
  simp only [XW];by_cases h2:o+1<=j/\j<o+1+r.length
  ·rw [if_pos h2,if_pos I,show j - o=(j - (o+1))+1 by omega,XJ]
  rw [if_neg h2,if_neg I,Xe I]
theorem gl: ∀(cs:W9) (w:World) (b o i:Nat) (old:Array Value),Blk w b t old->o+i+cs.length<=old.size->cs.all (·.oneCell')=true->
  ∃w',(storeCells ⟨b,o,none⟩ cs i).run P w=.ok () w'/\Fr (· =b) w w'/\Blk w' b t (ow old (o+i) cs)
 | [],w,b,o,i,old,hb,_,_=>⟨w,by unfold storeCells;rfl,Fr.refl _ _,hb⟩
 | v::r,w,b,o,i,old,hb,hl,h1=>by
  simp only [List.all_cons,Y3] at h1;simp only [XW] at hl
  have hlt:o+i<old.size:=by omega
  have hst:(store (⟨b,o+i,none⟩:Addr) v).run P w=.ok () (w.setCell ⟨b,o+i,none⟩ v):=by
   rw [run_store P w _ _ _ h1.1];simp [hb.cells (o+i),hb.free (o+i),hlt]
  obtain ⟨w',e1,e2,e3⟩:=gl r (w.setCell ⟨b,o+i,none⟩ v) b o (i+1) (old.setIfInBounds (o+i) v) (I2 hb) (by simp;omega) h1.2;refine ⟨w',?_,(Kg w b (o+i) v).trans e2,e3⟩;unfold storeCells;simp only [kz,YQ,hst,YP,e1]
end
end
section
open Go.RowKit
structure KeyOk (P:Program) (kt:TypeId) {α:Type} [DecidableEq α] (ek:α->Value):Prop where
 und: ∃d,P.underlying kt=some d/\ ∀a b,Instr.sameNow d (ek a) (ek b)=none\/Instr.sameNow d (ek a) (ek b)=some (decide (a=b))
 eq: ∀a b w,(Op.equal kt (ek a) (ek b)).run P w=.ok (decide (a=b)) w
 check: ∀e a w,(Instr.checkKey e 10000 kt (ek a)).run P w=.ok () w
 bits: ∀a,Instr.sameBits 10000 (ek a) (ek a)=true
def Mp (w:World)(m:Nat)(ek:α->Value)(ev:β->Value)(L:List (α×β)):Prop:=
 ∃es clk,w.heap[m]? =some (.map es clk)/\es.toList.map (fun e=>(e.key,e.val))=L.map (fun p=>(ek p.1,ev p.2))/\es.toList.Pairwise (fun a b=>a.born<b.born)/\ ∀e∈es.toList,e.born<clk
theorem Mp.lt {ek:α->Value}{ev:β->Value}{w:World}{L:List (α×β)}(h:Mp w m ek ev L):m<w.heap.size:=by
 obtain ⟨es,clk,h1,h2⟩:=h;rcases YE m w.heap.size with hlt|hge
 ·exact hlt
 rw [Xd hge] at h1;cases h1
def lk [DecidableEq α](L:List (α×β))(a:α):Option β:=(L.find? fun p=>p.1=a).map (·.2)
def fp {α β:Type}[DecidableEq α](a:α):List (α×β)->Nat->Option (Nat×β)
 | [],_=>none
 |(k,b)::r,i=>if a=k then some (i,b) else fp a r (i+1)
def yI [DecidableEq α](L:List (α×β))(a:α)(b:β):List (α×β):=match fp a L 0 with
 |some (i,_)=>L.set i (a,b)
 |none=>L++ [(a,b)]
theorem Mf [DecidableEq α](a:α): ∀(L:List (α×β)) (i:Nat),(fp a L i).map (·.2)=lk L a
 | [],_=>rfl
 |(k,b)::r,i=>by
  unfold fp lk;by_cases h:a=k
  ·simp [h]
  have h': ¬k=a:=fun e=>h e.symm
  rw [if_neg h,Mf a r,List.find?_cons];simp [h',lk]
theorem Mg [DecidableEq α](a:α): ∀(L:List (α×β)) (i j:Nat) (b:β),fp a L i=some (j,b)->i<=j/\L[j - i]? =some (a,b)
 | [],_,_,_,h=>by cases h
 |(k,c)::r,i,j,b,h=>by
  unfold fp at h;by_cases e:a=k
  ·rw [if_pos e] at h;cases h;simp [e]
  rw [if_neg e] at h;obtain ⟨h1,h2⟩:=Mg a r (i+1) j b h;refine ⟨by omega,?_⟩;rw [show j - i=(j - (i+1))+1 by omega,XJ];exact h2
theorem Me [DecidableEq α](a:α)(L:List (α×β)):fp a L 0=none↔ ∀p∈L,p.1≠a:=by
 have h:=Mf a L 0;constructor
 ·intro e p hp he;rw [e] at h;have:lk L a=none:=h.symm;unfold lk at this;rw [Option.map_eq_none_iff,List.find?_eq_none] at this;exact this p hp (by simpa using he)
 intro hn
 cases hf:fp a L 0 with
 |none=>rfl
 |some x=>
  obtain ⟨j,b⟩:=x;obtain ⟨-,h2⟩:=Mg a L 0 j b hf;exact absurd J (hn _ (Yd h2))
section
variable [DecidableEq α]{ek:α->Value}{ev:β->Value}
theorem Do (d:TypeDesc)(a:α)(hn:∀a b,Instr.sameNow d (ek a) (ek b)=none\/Instr.sameNow d (ek a) (ek b)=some (decide (a=b))): ∀(es:List MapEntry) (L:List (α×β)) (i:Nat),es.map (fun e=>(e.key,e.val))=L.map (fun p=>(ek p.1,ev p.2))->
  Instr.findNow d (ek a) es i=none\/Instr.findNow d (ek a) es i=some ((fp a L i).map fun p=>(p.1,ev p.2))
 | [],[],i,_=> .inr rfl
 | [],_::_,_,h=>by simp at h
 |_::_,[],_,h=>by simp at h
 |e::es,(k,b)::L,i,h=>by
  simp only [X5,Xt,Prod.mk.injEq] at h;obtain ⟨⟨h1,h2⟩,h3⟩:=h;unfold Instr.findNow fp;rw [h1];rcases hn a k with h4|h4
  ·rw [h4];exact .inl J
  rw [h4];by_cases e:a=k
  ·simp [e,h2]
  simp only [e,decide_false,if_false];exact Do d a hn es L (i+1) h3
theorem xC (a:α)(heq:∀a b w,(Op.equal kt (ek a) (ek b)).run P w=.ok (decide (a=b)) w)(w:World): ∀(es:List MapEntry) (L:List (α×β)) (i:Nat),es.map (fun e=>(e.key,e.val))=L.map (fun p=>(ek p.1,ev p.2))->
  (Instr.findAsking kt (ek a) es i).run P w=.ok ((fp a L i).map fun p=>(p.1,ev p.2)) w
 | [],[],i,_=>by unfold Instr.findAsking;rfl
 | [],_::_,_,h=>by simp at h
 |_::_,[],_,h=>by simp at h
 |e::es,(k,b)::L,i,h=>by
  simp only [X5,Xt,Prod.mk.injEq] at h;obtain ⟨⟨h1,h2⟩,h3⟩:=h;unfold Instr.findAsking fp;rw [h1,YQ,heq,YP];by_cases e:a=k
  ·simp [e,h2]
  simp only [e,decide_false,Xh,if_false];exact xC a heq w es L (i+1) h3
theorem py (hk:KeyOk P kt ek)(a:α)(w:World)(es:List MapEntry)(L:List (α×β))(h:es.map (fun e=>(e.key,e.val))=L.map (fun p=>(ek p.1,ev p.2))):
  (Instr.findKey kt (ek a) es).run P w=.ok ((fp a L 0).map fun p=>(p.1,ev p.2)) w:=by
 obtain ⟨d,hd,hn⟩:=hk.und;unfold Instr.findKey;rw [YQ,YW hd,YP];rcases Do (ev:=ev) d a hn es L 0 h with h1|h1
 ·rw [h1];exact xC a hk.eq w es L 0 h
 rw [h1];rfl
theorem Lb {s:bF}{d:Option Nat}{et:TypeId}{a:α}{L:List (α×β)}(hx:bl s x=some (.map (some m)))(hy:bl s y=some (ek a))(ht:P.underlying t=some (.map kt et))(hk:KeyOk P kt ek)(hz:∀w,(zeroValue et).run P w=.ok z w)(hm:∀w,C w->Mp w m ek ev L):
  Ev P s C ⟨d,.lookup t x y true,ty,pos,af,gd⟩ (.tuple #[match lk L a with|some b=>ev b|none=>z,.bool (lk L a).isSome]):=fun ρ hρ w hw=>by
 obtain ⟨es,clk,h1,h2, -⟩:=hm w hw
 have hg:(getObj m).run P w=.ok (.map es clk) w:=by simp [getObj,Sem.run,h1]
 unfold execOp;simp only [hρ x _ hx,hρ y _ hy,Instr.lookup,YQ,YW ht,YP,hg,YR,hk.check,py hk a w es.toList L h2, <-Mf a L 0]
 cases hf:fp a L 0 with
 |none=>simp [hz]
 |some p=>simp
theorem Lc {s:bF}{d:Option Nat}{et:TypeId}{a:α}{L:List (α×β)}(hx:bl s x=some (.map (some m)))(hy:bl s y=some (ek a))(ht:P.underlying t=some (.map kt et))(hk:KeyOk P kt ek)(hz:∀w,(zeroValue et).run P w=.ok z w)(hm:∀w,C w->Mp w m ek ev L):
  Ev P s C ⟨d,.lookup t x y false,ty,pos,af,gd⟩ (match lk L a with|some b=>ev b|none=>z):=fun ρ hρ w hw=>by
 obtain ⟨es,clk,h1,h2, -⟩:=hm w hw
 have hg:(getObj m).run P w=.ok (.map es clk) w:=by simp [getObj,Sem.run,h1]
 unfold execOp;simp only [hρ x _ hx,hρ y _ hy,Instr.lookup,YQ,YW ht,YP,hg,YR,hk.check,py hk a w es.toList L h2, <-Mf a L 0]
 cases hf:fp a L 0 with
 |none=>simp [hz]
 |some p=>simp
theorem MX (w:World)(m:Nat)(o:Obj):Fr (· =m) w {w with heap:=w.heap.setIfInBounds m o}:=
 ⟨rfl,rfl,rfl,by simp,fun q _ hn=>by simp [Xe (Ne.symm hn)]⟩
end
end
section
open Go.RowKit
theorem NA {en:α->W9}(x:α){z:Array Value}(hz:z=(en x).toArray)(n:Nat)(hp:0<(en x).length):madeCells z (n*(en x).length)=((List.replicate n x).flatMap en).toArray:=by
 subst hz;apply Array.ext_getElem?;intro j
 have hlen:((List.replicate n x).flatMap en).length=n*(en x).length:=by
  have: ∀n,((List.replicate n x).flatMap en).length=n*(en x).length:=fun n=>by
   induction n with
   |zero=>simp
   |succ n ih=>rw [List.replicate_succ,XF,YX,ih,Yx];omega
  exact this n
 rcases YE j (n*(en x).length) with hj|hj
 ·have hm:j%(en x).length<(en x).length:=Nat.mod_lt _ hp
  have key: ∀n j,j<n*(en x).length->((List.replicate n x).flatMap en)[j]? =(en x)[j%(en x).length]? :=by
   intro n
   induction n with
   |zero=>intro j hj;simp at hj
   |succ n ih=>
    intro j hj;rw [List.replicate_succ,XF];rcases YE j (en x).length with h|h
    ·rw [XH h,Nat.mod_eq_of_lt h]
    rw [XI h,ih _ (by rw [Yx] at hj;omega), <-Nat.mod_eq_sub_mod h]
  have h2:=key n j hj;rw [XM hm] at h2;simp only [madeCells,Array.getElem?_map,Array.getElem?_range,hj];simp [hm,h2]
 rw [Xd (by simp [madeCells];omega),Xd (by simp only [List.size_toArray];omega)]
def Wi (w0 w:World)(t:TypeId)(sz:Nat)(en:α->W9)(v:Value)(xs:List α):Prop:=w.ownsRow w0.heap.size t sz v xs.length (xs.flatMap en)
def rM (P:Program)(e:TypeId)(sz by_:Nat):Bool:=match P.info? e with
 |some i=>Nat.beq i.size sz&&Nat.beq i.bytes by_&&(match i.zero with|some z=>Nat.beq z.cells.size sz|none=>false)&&Nat.blt 0 sz
 |none=>false
end
section
open Go.RowKit
structure Agr (X:Nat->Prop) (w w':World):Prop where
 os:w'.os=w.os
 tape:w'.tape=w.tape
 output:w'.output=w.output
 size:w.heap.size<=w'.heap.size
 block: ∀q,q<w.heap.size->X q->w'.heap[q]? =w.heap[q]?
theorem Agr.refl (X:Nat->Prop)(w:World):Agr X w w:=⟨rfl,rfl,rfl,YB _,fun _ _ _=>rfl⟩
theorem Agr.mono {X hO:Nat->Prop}{w:World}(h:Agr X w w')(hx:∀q,hO q->X q):Agr hO w w':=⟨h.os,h.tape,h.output,h.size,fun q hq hy=>h.block q hq (hx q hy)⟩
theorem Agr.trans {X:Nat->Prop}{a b c:World}(h:Agr X a b)(k:Agr X b c):Agr X a c:=
 ⟨k.os.trans h.os,k.tape.trans h.tape,k.output.trans h.output,YC h.size k.size,fun q hq hx=>(k.block q (YD hq h.size) hx).trans (h.block q hq hx)⟩
theorem Agr.of_ext {X:Nat->Prop}{a b:World}(h:Ext a b):Agr X a b:=⟨h.os,h.tape,h.output,h.size,fun q hq _=>h.block q hq⟩
theorem Agr.of_fr {X:Nat->Prop}{a b:World}(h:Fr S a b)(hx:∀q,X q-> ¬S q):Agr X a b:=⟨h.os,h.tape,h.output,h.size,fun q hq hxq=>h.block q hq (hx q hxq)⟩
theorem Agr.cell {X:Nat->Prop}{w:World}(k:Agr X w w'){b:Nat}(hb:X b)(hlt:b<w.heap.size)(o:Nat):w'.cell? ⟨b,o,none⟩=w.cell? ⟨b,o,none⟩:=World.cell?_of_block (k.block b hlt hb)
theorem CellsAt.agr {X:Nat->Prop}{w:World}{b o:Nat}{l:W9}(h:CellsAt w b o l)(k:Agr X w w')(hb:X b)(hlt:b<w.heap.size):CellsAt w' b o l:=fun j u hj=>(k.cell hb hlt _).trans (h j u hj)
theorem Blk.agr {X:Nat->Prop}{w:World}{b:Nat}(h:Blk w b t cs)(k:Agr X w w')(hb:X b):Blk w' b t cs:=(k.block b h.lt hb).trans h
structure Chunk where
 ok:(Nat->Prop)->(Nat->Prop)->World->Prop
 loc: ∀{T S:Nat->Prop} {w w':World},Agr (fun q=>T q\/S q) w w'->ok T S w->ok T S w'
 mono: ∀{T S S':Nat->Prop} {w:World},(∀q,S q->S' q)->ok T S w->ok T S' w
 ro:Bool
 dup:ro=true-> ∀{T S:Nat->Prop} {w:World},ok T S w->ok (fun _=>False) S w
abbrev W8:=List Chunk
structure SepT (L:W8) (T:Nat->Nat->Prop) (S:Nat->Prop) (w:World):Prop where
 ok: ∀{i:Nat} {c:Chunk},L[i]? =some c->c.ok (T i) S w
 apart: ∀{i j q},i≠j->T i q->T j q->False
 ro: ∀{i q},T i q->S q->False
 lt: ∀{i q},T i q->q<w.heap.size
 lts: ∀{q},S q->q<w.heap.size
def SepL (L:W8)(w:World):Prop:= ∃T S,SepT L T S w
theorem SepL.get {L:W8}{w:World}(h:SepL L w){c:Chunk}(hi:L[i]? =some c): ∃T S,c.ok T S w:=by
 obtain ⟨T,S,h⟩:=h;exact ⟨_,_,h.ok hi⟩
theorem SepL.same {L:W8}{w:World}(h:SepL L w)(hx:Agr (fun _=>True) w w'):SepL L w':=by
 obtain ⟨T,S,h⟩:=h;exact ⟨T,S,fun hi=>Chunk.loc _ (hx.mono fun _ _=>trivial) (h.ok hi),h.apart,h.ro,fun h1=>YD (h.lt h1) hx.size,fun h1=>YD (h.lts h1) hx.size⟩
theorem SepL.new {L:W8}{w:World}(h:SepL L w)(hx:Agr (fun _=>True) w w'){c:Chunk}(hc:∀T0 S,SepT L T0 S w-> ∃T,(∀q,T q->w.heap.size<=q/\q<w'.heap.size)/\c.ok T S w'):SepL (c::L) w':=by
 obtain ⟨T,S,h⟩:=h;obtain ⟨Tc,h1,h2⟩:=hc T S h;refine ⟨fun i=>match i with|0=>Tc|i+1=>T i,S,?_,?_,?_,?_,fun h3=>YD (h.lts h3) hx.size⟩
 ·intro i d hi
  cases i with
  |zero=>simp only [XK,YN] at hi;subst hi;exact h2
  |succ i=>simp only [XJ] at hi;exact d.loc (hx.mono fun _ _=>trivial) (h.ok hi)
 ·intro i j q hij h3 h4
  cases i with
  |zero=>cases j with
   |zero=>exact hij rfl
   |succ j=>have:=(h1 q h3).1;have:=h.lt h4;omega
  |succ i=>cases j with
   |zero=>have:=(h1 q h4).1;have:=h.lt h3;omega
   |succ j=>exact h.apart I h3 h4
 ·intro i q h3 h4
  cases i with
  |zero=>have:=(h1 q h3).1;have:=h.lts h4;omega
  |succ i=>exact h.ro h3 h4
 intro i q h3
 cases i with
 |zero=>exact (h1 q h3).2
 |succ i=>exact YD (h.lt h3) hx.size
theorem SepL.fact {L:W8}{w:World}(h:SepL L w){c d:Chunk}(hi:L[i]? =some c)(hd:∀T S,c.ok T S w->d.ok (fun _=>False) S w):SepL (d::L) w:=by
 obtain ⟨T,S,h⟩:=h;refine ⟨fun i=>match i with|0=>fun _=>False|i+1=>T i,S,?_,?_,?_,?_,h.lts⟩
 ·intro j e hj
  cases j with
  |zero=>simp only [XK,YN] at hj;subst hj;exact hd _ _ (h.ok hi)
  |succ j=>simp only [XJ] at hj;exact h.ok hj
 ·intro i j q hij h3 h4
  cases i with
  |zero=>exact h3
  |succ i=>cases j with
   |zero=>exact h4
   |succ j=>exact h.apart I h3 h4
 ·intro i q h3 h4
  cases i with
  |zero=>exact h3
  |succ i=>exact h.ro h3 h4
 intro i q h3
 cases i with
 |zero=>exact h3.elim
 |succ i=>exact h.lt h3
theorem SepL.dup {L:W8}{w:World}(h:SepL L w){c:Chunk}(hi:L[i]? =some c)(hc:c.ro=true):SepL (c::L) w:=h.fact hi fun _ _ h1=>c.dup hc h1
theorem SepL.fact0 {L:W8}{w:World}(h:SepL L w){d:Chunk}(hd:∀S,d.ok (fun _=>False) S w):SepL (d::L) w:=
 h.new (Agr.refl _ _) fun _ S _=>⟨fun _=>False,fun _ h=>h.elim,hd S⟩
theorem SepT.upd {L:W8}{w:World}(h:SepT L T S w){c d:Chunk}(hi:L[i]? =some c)(hx:Agr (fun q=> ¬T i q) w w'){T':Nat->Prop}(h1:∀q,T' q->T i q\/w.heap.size<=q)(h2:∀q,T' q->q<w'.heap.size)(h3:d.ok T' S w'):SepL (L.set i d) w':=by
 have hil:i<L.length:=(XO.1 hi).1;refine ⟨fun j=>if j=i then T' else T j,S,?_,?_,?_,?_,fun h4=>YD (h.lts h4) hx.size⟩
 ·intro j e hj;by_cases e1:j=i
  ·subst e1;rw [XR hil] at hj;cases hj;simpa using h3
  rw [XQ I] at hj;simp only [e1,if_false];refine e.loc (hx.mono ?_) (h.ok hj);rintro q (h4|h4)
  ·exact fun h5=>h.apart e1 h4 h5
  exact fun h5=>h.ro h5 h4
 ·intro j k q hjk h4 h5;by_cases e1:j=i<;>by_cases e2:k=i
  ·omega
  ·simp only [e1,e2,if_true,if_false] at h4 h5;rcases h1 q h4 with h6|h6
   ·exact h.apart (fun e=>e2 e.symm) h6 h5
   have:=h.lt h5;omega
  ·simp only [e1,e2,if_true,if_false] at h4 h5;rcases h1 q h5 with h6|h6
   ·exact h.apart e1 h4 h6
   have:=h.lt h4;omega
  simp only [e1,e2,if_false] at h4 h5;exact h.apart hjk h4 h5
 ·intro j q h4 h5;by_cases e1:j=i
  ·simp only [e1,if_true] at h4;rcases h1 q h4 with h6|h6
   ·exact h.ro h6 h5
   have:=h.lts h5;omega
  simp only [e1,if_false] at h4;exact h.ro h4 h5
 intro j q h4;by_cases e1:j=i
 ·simp only [e1,if_true] at h4;exact h2 q h4
 simp only [e1,if_false] at h4;exact YD (h.lt h4) hx.size
theorem SepL.upd {L:W8}{w:World}(h:SepL L w){c d:Chunk}(hi:L[i]? =some c)(hd:∀T S,c.ok T S w->(∀q,T q->q<w.heap.size)->(∀q,S q->q<w.heap.size)->(∀q,T q->S q->False)->Agr (fun q=> ¬T q) w w'/\ ∃T',(∀q,T' q->T q\/w.heap.size<=q)/\(∀q,T' q->q<w'.heap.size)/\d.ok T' S w'):SepL (L.set i d) w':=by
 obtain ⟨T,S,h⟩:=h;obtain ⟨hx,T',h1,h2,h3⟩:=hd _ _ (h.ok hi) (fun _=>h.lt) (fun _=>h.lts) (fun _=>h.ro);exact h.upd hi hx h1 h2 h3
theorem SepL.frz {L:W8}{w:World}(h:SepL L w){c d:Chunk}(hi:L[i]? =some c)(hd:∀T S,c.ok T S w->d.ok (fun _=>False) (fun q=>S q\/T q) w):SepL (L.set i d) w:=by
 obtain ⟨T,S,h⟩:=h;have hil:i<L.length:=(XO.1 hi).1;refine ⟨fun j=>if j=i then fun _=>False else T j,fun q=>S q\/T i q,?_,?_,?_,?_,?_⟩
 ·intro j e hj;by_cases e1:j=i
  ·subst e1;rw [XR hil] at hj;cases hj;simpa using hd _ _ (h.ok hi)
  rw [XQ I] at hj;simp only [e1,if_false];exact e.mono (fun _=> .inl) (h.ok hj)
 ·intro j k q hjk h4 h5;by_cases e1:j=i
  ·simp only [e1,if_true] at h4
  by_cases e2:k=i
  ·simp only [e2,if_true] at h5
  simp only [e1,e2,if_false] at h4 h5;exact h.apart hjk h4 h5
 ·intro j q h4 h5;by_cases e1:j=i
  ·simp only [e1,if_true] at h4
  simp only [e1,if_false] at h4;rcases h5 with h5|h5
  ·exact h.ro h4 h5
  exact h.apart e1 h4 h5
 ·intro j q h4;by_cases e1:j=i
  ·simp only [e1,if_true] at h4
  simp only [e1,if_false] at h4;exact h.lt h4
 rintro q (h4|h4)
 ·exact h.lts h4
 exact h.lt h4
theorem SepL.weak {L:W8}{w:World}(h:SepL L w){c d:Chunk}(hi:L[i]? =some c)(hd:∀T S,c.ok T S w->d.ok T S w):SepL (L.set i d) w:=
 h.upd hi fun T S h1 h2 _ _=>⟨Agr.refl _ _,T,fun _=> .inl,h2,hd _ _ h1⟩
def DL (ix:List Nat)(k:Nat)(L:W8):W8:=ix.filterMap (fun i=>L[i]?)++L.drop k
def Gl (ix:List Nat)(k:Nat):Bool:=ix.all (fun i=>Nat.blt i k)&&decide ix.Nodup
theorem SepT.pick {L L':W8}{w:World}(h:SepT L T S w)(f:Nat->Nat)(hf:∀(j:Nat) (c:Chunk),L'[j]? =some c->L[f j]? =some c)(hi:∀i j,i<L'.length->j<L'.length->f i=f j->i=j):SepT L' (fun j q=>j<L'.length/\T (f j) q) S w:=by
 refine ⟨fun hj=> ?_,?_,fun h1 h2=>h.ro h1.2 h2,fun h1=>h.lt h1.2,h.lts⟩
 ·rename_i j c
  have hlt:=(XO.1 hj).1
  have:(fun q=>j<L'.length/\T (f j) q)=T (f j):=by funext q;simp [hlt]
  rw [this];exact h.ok (hf _ _ hj)
 rintro i j q hij ⟨h1,h2⟩ ⟨h3,h4⟩;exact h.apart (fun e=>hij (hi i j h1 h3 e)) h2 h4
theorem SepL.pick {L L':W8}{w:World}(h:SepL L w)(f:Nat->Nat)(hf:∀(j:Nat) (c:Chunk),L'[j]? =some c->L[f j]? =some c)(hi:∀i j,i<L'.length->j<L'.length->f i=f j->i=j):SepL L' w:=by
 obtain ⟨T,S,h⟩:=h;exact ⟨_,S,h.pick f hf hi⟩
theorem BW {L:W8}: ∀(ix:List Nat),(∀i∈ix,i<L.length)->(ix.filterMap (fun i=>L[i]?)).length=ix.length/\ ∀(j:Nat) (c:Chunk),(ix.filterMap (fun i=>L[i]?))[j]? =some c-> ∃i:Nat,ix[j]? =some i/\L[i]? =some c
 | [],_=>⟨rfl,fun j c h=>by simp at h⟩
 |i::r,h=>by
  have hi:i<L.length:=h i (by simp)
  obtain ⟨h1,h2⟩:=BW r fun k hk=>h k (by simp [hk])
  rw [List.filterMap_cons_some (b:=L[i]) (by simp [hi])];refine ⟨by simp [h1],fun j c hj=> ?_⟩
  cases j with
  |zero=>simp only [XK,YN] at hj;exact ⟨i,J,by simp [hi,hj]⟩
  |succ j=>simp only [XJ] at hj;obtain ⟨k,h3,h4⟩:=h2 j c hj;exact ⟨k,by simpa using h3,h4⟩
theorem SepT.sel {L:W8}{w:World}(h:SepT L T S w)(ix:List Nat)(k:Nat)(hk:Gl ix k=true)(hl:Nat.ble k L.length=true): ∃T',SepT (DL ix k L) T' S w:=by
 unfold Gl at hk;simp only [Y3,Xq,YT] at hk;obtain ⟨h1,h2⟩:=hk
 have h1': ∀i∈ix,i<k:=fun i hi=>by have h3:i+1<=k:=YA (h1 i hi);omega
 have hl':=YA hl
 obtain ⟨h3,h4⟩:=BW (L:=L) ix fun i hi=>by have:=h1' i hi;omega
 refine ⟨_,h.pick (fun j=>if j<ix.length then ix.getD j 0 else j - ix.length+k) ?_ ?_⟩
 ·intro j c hj;unfold DL at hj;by_cases hlt:j<ix.length
  ·rw [XH I] at hj;obtain ⟨i,h5,h6⟩:=h4 j c hj;simp [hlt];simp [hlt] at h5;rw [h5];exact h6
  rw [XI I,XL,h3] at hj;simp only [hlt,if_false];rw [Nat.add_comm];exact hj
 intro i j _ _ e;by_cases h5:i<ix.length<;>by_cases h6:j<ix.length
 ·simp only [h5,h6,if_true] at e;simp [h5,h6] at e;have h7:=Yl.1 h2;rcases Nat.lt_trichotomy i j with h8|h8|h8
  ·exact absurd e (h7 i j h5 h6 h8)
  ·exact h8
  exact absurd e.symm (h7 j i h6 h5 h8)
 ·simp only [h5,h6,if_true,if_false] at e
  have:ix.getD i 0<k:=by simp [h5];exact h1' _ (Y5 h5)
  omega
 ·simp only [h5,h6,if_true,if_false] at e
  have:ix.getD j 0<k:=by simp [h6];exact h1' _ (Y5 h6)
  omega
 simp only [h5,h6,if_false] at e;omega
theorem SepL.sel {L:W8}{w:World}(h:SepL L w)(ix:List Nat)(k:Nat)(hk:Gl ix k=true)(hl:Nat.ble k L.length=true):SepL (DL ix k L) w:=by
 obtain ⟨T,S,h⟩:=h;obtain ⟨T',h'⟩:=h.sel ix k hk hl;exact ⟨T',S,h'⟩
theorem aP {L Z:W8}{c:Chunk}(h:L[i]? =some c):(L++Z)[i]? =some c:=by
 rw [XH (XO.1 h).1];exact h
theorem jQ {L:W8}(Z:W8){c:Chunk}(h:L[i]? =some c)(d:Chunk):(L++Z).set i d=L.set i d++Z:=List.set_append_left _ _ (XO.1 h).1
def Sp (Z L:W8)(w:World):Prop:=SepL (L++Z) w
def Cv (L' L:W8):Prop:= ∀Z w,Sp Z L' w->Sp Z L w
theorem ad (L:W8):Cv L L:=fun _ _ h=>h
theorem Cv.trans {A B C:W8}(h:Cv A B)(k:Cv B C):Cv A C:=fun Z w x=>k Z w (h Z w x)
theorem yq {L:W8}(ix:List Nat)(k:Nat)(hk:Gl ix k=true)(hl:Nat.ble k L.length=true):Cv L (DL ix k L):=fun Z w h=>by
 have hl':k<=L.length:=YA hl;have h1:=SepL.sel h ix k hk (by simp;omega)
 have e:DL ix k (L++Z)=DL ix k L++Z:=by
  unfold DL;rw [List.drop_append_of_le_length hl',W2]
  congr 1
  unfold Gl at hk;simp only [Y3,Xq] at hk;have h3:=hk.1;clear h1 hk
  induction ix with
  |nil=>rfl
  |cons i r ih=>
   have h2:i+1<=k:=YA (h3 i (by simp))
   have h4:=ih fun j hj=>h3 j (by simp [hj])
   simp only [List.filterMap_cons,XH (show i<L.length by omega),h4]
 unfold Sp;rw [<-e];exact h1
structure Cx where
 P:Program
 n:Nat
 r:Option Nat
def DX (r:Option Nat):Fence:={Fence.wide with round:=r}
def wW (D:Nat):Deferred:={target:=.collected D,args:= #[]}
def cA (D:Nat):Chunk where
 ok T S w:=T D/\w.heap[D]? =some (.deferred (some []))
 loc:=fun {T S w w'} h ⟨h1,h2⟩=>⟨h1,(h.block D (by rcases YE D w.heap.size with hl|hl;exact hl;rw [Xd hl] at h2;cases h2) (.inl h1)).trans h2⟩
 mono:=fun _ h=>h
 ro:=false
 dup:=fun h=>Bool.noConfusion h
structure Fx (X:Cx) (s:bF) (a:Act):Prop where
 size:a.tmps.size=X.n
 at_: ∀k v,jP s k=some v->a.tmps.getD k undef=v
theorem Fx.sub {X:Cx}{s t:bF}(h:Fx X s a)(hs:AO s t):Fx X t a:=⟨h.size,fun k v hk=>h.at_ k v (O7 hs hk)⟩
theorem Fx.fits {X:Cx}{s:bF}(h:Fx X s a):Fits X.n s {a with defers:=[]}:=⟨h.size,rfl,h.at_⟩
theorem Fx.eval {X:Cx}{s:bF}(h:Fx X s a)(hx:bl s x=some v):a.eval x=v:=h.fits.eval hx
theorem Fx.put {X:Cx}{s:bF}(h:Fx X s a){d:Nat}(v:Value)(hd:d<X.n):Fx X ((d,v)::s) (a.put (some d) v):=
 have h1:=h.fits.put v hd
 ⟨h1.size,h1.at_⟩
abbrev K3:=Exit->bF->W8->Prop
def yG (X:Cx)(H:W8)(K:K3):Exit->Act->World->Prop:=fun e a w=> ∃(s:bF) (L:W8) (Ds:List Nat),Fx X s a/\a.defers=Ds.map wW/\Sp (Ds.map cA++H) L w/\K e s L
def Wq (X:Cx)(c:Code)(K:K3)(s:bF)(L:W8):Prop:= ∀(H:W8) (Ds:List Nat) (a:Act) (w:World),Fx X s a->a.defers=Ds.map wW->Sp (Ds.map cA++H) L w->c.wpIn (DX X.r) 0 X.P (yG X H K) a w
def nx (N:bF->W8->Prop)(K:K3):K3
 | .normal,s,w=>N s w
 |e,s,w=>K e s w
def bk (id:Nat)(K:K3):K3
 | .exit j,s,w=>bif Nat.beq j id then K .normal s w else K (.exit j) s w
 |e,s,w=>K e s w
section
variable {X:Cx}{K:K3}{s:bF}{L:W8}
theorem gw {t:bF}{L':W8}(h:Wq X c K t L')(hs:AO s t)(hl:Cv L L'):Wq X c K s L:=fun H Ds a w ha hd hw=>h H Ds a w (ha.sub hs) hd (hl _ _ hw)
theorem Qj {K':K3}(h:Wq X c K s L)(hk:∀e s L,K e s L->K' e s L):Wq X c K' s L:=fun H Ds a w ha hd hw=>wpIn_mono (h H Ds a w ha hd hw) fun e a' w' ⟨s',L',Ds',h1,h2,h3,h4⟩=>⟨s',L',Ds',h1,h2,h3,hk _ _ _ h4⟩
theorem aA {x y:Code}(h:Wq X x (nx (fun s L=>Wq X y K s L) K) s L):Wq X (.seq x y) K s L:=by
 intro H Ds a w ha hd hw;refine wpIn_seq (wpIn_mono (h H Ds a w ha hd hw) ?_);rintro e a' w' ⟨s',L',Ds',h1,h2,h3,h4⟩
 cases e with
 |normal=>exact h4 H Ds' a' w' h1 h2 h3
 |_=>exact ⟨s',L',Ds',h1,h2,h3,h4⟩
theorem IK (h:K .normal s L):Wq X .skip K s L:=fun H Ds _ _ ha hd hw=>wpIn_skip ⟨s,L,Ds,ha,hd,hw,h⟩
theorem J8 (h:K .ret s L):Wq X .ret K s L:=fun H Ds _ _ ha hd hw=>wpIn_ret ⟨s,L,Ds,ha,hd,hw,h⟩
theorem Ls {id:Nat}(h:K (.exit id) s L):Wq X (.exit id) K s L:=fun H Ds _ _ ha hd hw=>wpIn_exit ⟨s,L,Ds,ha,hd,hw,h⟩
theorem wM {id:Nat}(h:Wq X c (bk id K) s L):Wq X (.block id c) K s L:=by
 intro H Ds a w ha hd hw;refine wpIn_block (wpIn_mono (h H Ds a w ha hd hw) ?_);rintro e a' w' ⟨s',L',Ds',h1,h2,h3,h4⟩
 cases e with
 | exit j=>
  show if j=id then yG X H K .normal a' w' else yG X H K (.exit j) a' w'
  by_cases e:j=id
  ·subst e;rw [if_pos rfl];exact ⟨s',L',Ds',h1,h2,h3,by simpa [bk] using h4⟩
  rw [if_neg e]
  have:Nat.beq j id=false:=by cases hb:Nat.beq j id with
   |false=>rfl
   |true=>exact absurd (Yy hb) e
  exact ⟨s',L',Ds',h1,h2,h3,by simpa [bk,this] using h4⟩
 |_=>exact ⟨s',L',Ds',h1,h2,h3,h4⟩
theorem Lt {c:Operand}{x y:Code}{b:Bool}(hc:bl s c=some (.bool b))(ht:b=true->Wq X x K s L)(hf:b=false->Wq X y K s L):Wq X (.cond c x y) K s L:=
 fun H Ds a w ha hd hw=>wpIn_cond_split (ha.eval hc) (fun h=>ht h H Ds a w ha hd hw) (fun h=>hf h H Ds a w ha hd hw)
theorem iN {c:Operand}{x y:Code}(hc:bl s c=some (.bool true))(ht:Wq X x K s L):Wq X (.cond c x y) K s L:=
 fun H Ds a w ha hd hw=>wpIn_cond_true (ha.eval hc) (ht H Ds a w ha hd hw)
theorem fG {c:Operand}{x y:Code}(hc:bl s c=some (.bool false))(hf:Wq X y K s L):Wq X (.cond c x y) K s L:=
 fun H Ds a w ha hd hw=>wpIn_cond_false (ha.eval hc) (hf H Ds a w ha hd hw)
theorem qk {N:bF->W8->Prop}(h:N s L):nx N K .normal s L:=h
theorem Ta {N:bF->W8->Prop}(h:K (.exit i) s L):nx N K (.exit i) s L:=h
theorem QY {N:bF->W8->Prop}(h:K .ret s L):nx N K .ret s L:=h
theorem R5 (h:K .normal s L):bk i K .normal s L:=h
theorem TB (h:K .ret s L):bk i K .ret s L:=h
theorem TA (h:K .normal s L):bk i K (.exit i) s L:=by simpa [bk] using h
theorem Vx (hij:Nat.beq j i=false)(h:K (.exit j) s L):bk i K (.exit j) s L:=by simpa [bk,hij] using h
theorem TO (E:ι->bF)(M:ι->W8)(Hn:Nat->ι->Prop)(m0:Nat)(i0:ι)(h0:Hn m0 i0)(hs:AO s (E i0))(hl:Cv L (M i0))(round:∀m i,Hn m i->Wq X c (nx (fun s' L'=> ∃m' i',m'<m/\Hn m' i'/\AO s' (E i')/\Cv L' (M i')) K) (E i) (M i)):Wq X (.loop c) K s L:=by
 intro H Ds a w ha hd hw
 let hD:Nat->Act->World->Prop:=fun k a w=> ∃(i:ι) (Ds:List Nat),Hn k i/\Fx X (E i) a/\a.defers=Ds.map wW/\Sp (Ds.map cA++H) (M i) w
 refine wpIn_loop (fun a w=> ∃k,hD k a w) (fun a w=>leastOf fun k=>hD k a w) ⟨m0,i0,Ds,h0,ha.sub hs,hd,hl _ _ hw⟩ ?_;intro a w hI;obtain ⟨i,Ds,g1,g2,g3,g4⟩:=(leastOf_spec hI).1;refine wpIn_mono (round _ i g1 H Ds a w g2 g3 g4) ?_;rintro e a' w' ⟨s',L',Ds',h1,h2,h3,h4⟩
 cases e with
 |normal=>
  obtain ⟨m',i',q1,q2,q3,q4⟩:=h4;have hI':hD m' a' w':=⟨i',Ds',q2,h1.sub q3,h2,q4 _ _ h3⟩;exact ⟨⟨m',hI'⟩,Nat.lt_of_le_of_lt ((leastOf_spec ⟨m',hI'⟩).2 m' hI') q1⟩
 |_=>exact ⟨s',L',Ds',h1,h2,h3,h4⟩
end
def OpX (P:Program)(s:bF)(L:W8)(o:Oper)(R:Value->W8->Prop):Prop:=
 ∀ρ:Operand->Value,(∀x u,bl s x=some u->ρ x=u)-> ∀Z w,Sp Z L w->
  (∃v w' L',(execOp ρ o).run P w=.ok (.value v) w'/\Sp Z L' w'/\R v L')\/
  (∃w' L',(execOp ρ o).run P w=.ok .skip w'/\Sp Z L' w'/\R undef L')\/
  (∃f args,(execOp ρ o).run P w=.ok (.enter f args) w/\Calls P f args w fun e w'=> ∃v L',e=.returned v/\Sp Z L' w'/\R v L')\/
  (∃l f tmps assign body,(execOp ρ o).run P w=.ok (.round l f tmps assign body) w/\RoundIn Fence.wide 0 P l f tmps assign body w fun e w'=> ∃v L',e=.returned v/\Sp Z L' w'/\R v L')
def eZ (o:Oper):Bool:=match o.op with| .defer _=>false|_=>true
def putE (d:Option Nat)(v:Value)(s:bF):bF:=match d with|some d=>(d,v)::s|none=>s
def Hl (n:Nat):Option Nat->Bool
 |some d=>Nat.ble (d+1) n
 |none=>true
theorem Fx.putE {X:Cx}{s:bF}(h:Fx X s a){d:Option Nat}(v:Value)(hd:Hl X.n d=true):Fx X (putE d v s) (a.put d v):=by
 cases d with
 |none=>exact h
 |some d=>exact h.put v (YA hd)
theorem put_defers (a:Act)(d:Option Nat)(v:Value):(a.put d v).defers=a.defers:=by cases d<;>rfl
theorem OpX.wpIn {X:Cx}{s:bF}{L:W8}{R:Value->W8->Prop}(h:OpX X.P s L o R)(hn:eZ o=true){Z:W8}{w:World}(ha:Fx X s a)(hw:Sp Z L w){K:Act->World->Prop}(hK:∀v L' w',R v L'->Sp Z L' w'->K (a.put o.dst v) w'):o.wpIn (DX X.r) 0 X.P a w K Q:=by
 refine ⟨fun _ _=>trivial,?_⟩
 have e:o.semAt (DX X.r).round a.eval=execOp a.eval o:=Oper.semAt_eq _ _ _ fun c hc=>by unfold eZ at hn;rw [hc] at hn;cases hn
 rw [e];rcases h a.eval (fun x u hx=>ha.eval hx) _ w hw with ⟨v,w',L',h1,h2,h3⟩|⟨w',L',h1,h2,h3⟩|⟨f,args,h1,h2⟩|⟨l,f,tmps,assign,body,h1,h2⟩
 ·rw [h1];exact hK _ _ _ h3 h2
 ·rw [h1];exact hK _ _ _ h3 h2
 ·rw [h1];refine ⟨(by intro h;cases h),?_⟩;have h3:CallsIn (DX X.r) (0 - 1) X.P f args w _:=callsIn_wide.2 h2;refine h3.mono ?_;rintro e w' ⟨v,L',rfl,h4,h5⟩;exact hK _ _ _ h5 h4
 rw [h1];refine ⟨(by intro h;cases h),?_⟩;have h3:RoundIn (DX X.r) (0 - 1) X.P l f tmps assign body w _:=h2;refine h3.mono ?_;rintro e w' ⟨v,L',rfl,h4,h5⟩;exact hK _ _ _ h5 h4
def bm (X:Cx)(ops:Array Oper)(l:List Oper)(K:K3)(s:bF)(L:W8):Prop:= ∀(H:W8) (Ds:List Nat) (a:Act) (w:World),Fx X s a->a.defers=Ds.map wW->Sp (Ds.map cA++H) L w->wpListIn (DX X.r) 0 X.P ops (yG X H K) l a w
theorem fg {X:Cx}{s:bF}{b:Bool}(ha:Fx X s a)(h:aD ops s o=some b):Region.wanted o (yielded ops a.tmps)=b:=Ie (a:={a with defers:=[]}) ha.fits h
section
variable {X:Cx}{K:K3}{s:bF}{L:W8}{rest:List Oper}{d:Nat}{op:Op}
theorem jF {id:Nat}(h:bm X l.toArray l K s L):Wq X (.region id l.toArray false) K s L:=fun H Ds a w ha hd hw=>wpIn_region_lit (h H Ds a w ha hd hw)
theorem Aa (h:K .normal s L):bm X ops [] K s L:=fun H Ds _ _ ha hd hw=>wpListIn_nil ⟨s,L,Ds,ha,hd,hw,h⟩
theorem TL {t:bF}{L':W8}(h:bm X ops l K t L')(hs:AO s t)(hl:Cv L L'):bm X ops l K s L:=fun H Ds a w ha hd hw=>h H Ds a w (ha.sub hs) hd (hl _ _ hw)
theorem Sc {R:Value->W8->Prop}(h:OpX X.P s L o R)(hn:eZ o=true)(hg:aD ops s o=some true)(hd:Hl X.n o.dst=true)(k:∀v L',R v L'->bm X ops rest K (putE o.dst v s) L'):bm X ops (o::rest) K s L:=by
 intro H Ds a w ha hds hw
 refine wpListIn_step fun K' hK=> ?_
 rw [if_pos (fg ha hg)]
 exact h.wpIn hn ha hw fun v L' w' h1 h2=>hK _ _ (k v L' h1 H Ds _ _ (ha.putE v hd) ((put_defers _ _ _).trans hds) h2)
theorem VE (hg:aD ops s ⟨some d,op,ty,pos,af,gd⟩=some false)(hd:Nat.ble (d+1) X.n=true)(k:bm X ops rest K ((d,undef)::s) L):bm X ops (⟨some d,op,ty,pos,af,gd⟩::rest) K s L:=by
 intro H Ds a w ha hds hw
 refine wpListIn_step fun K' hK=> ?_
 rw [if_neg (by rw [fg ha hg];exact Bool.false_ne_true)];exact ⟨fun _ _=>trivial,hK _ _ (k H Ds _ _ (ha.put undef (YA hd)) hds hw)⟩
theorem OT (h:Ev P s (fun _=>True) o v):OpX P s L o fun u L'=>u=v/\L'=L:=fun ρ hρ Z w hw=> .inl ⟨v,w,L,h ρ hρ w trivial,hw,rfl,rfl⟩
theorem eW (h:Ev X.P s (fun _=>True) ⟨some d,op,ty,pos,af,gd⟩ v)(hn:eZ ⟨some d,op,ty,pos,af,gd⟩=true)(hg:aD ops s ⟨some d,op,ty,pos,af,gd⟩=some true)(hd:Nat.ble (d+1) X.n=true)(k:bm X ops rest K ((d,v)::s) L):bm X ops (⟨some d,op,ty,pos,af,gd⟩::rest) K s L:=
 Sc (OT h) hn hg hd fun _ _ ⟨e1,e2⟩=>by subst e1 e2;exact k
def Rd (P:Program)(s:bF)(L:W8)(o:Oper)(v:Value):Prop:= ∀Z w,Sp Z L w->Ev P s (· =w) o v
theorem vE (h:Rd P s L o v):OpX P s L o fun u L'=>u=v/\L'=L:=fun ρ hρ Z w hw=> .inl ⟨v,w,L,h Z w hw ρ hρ w rfl,hw,rfl,rfl⟩
theorem sc (h:Rd X.P s L ⟨some d,op,ty,pos,af,gd⟩ v)(hn:eZ ⟨some d,op,ty,pos,af,gd⟩=true)(hg:aD ops s ⟨some d,op,ty,pos,af,gd⟩=some true)(hd:Nat.ble (d+1) X.n=true)(k:bm X ops rest K ((d,v)::s) L):bm X ops (⟨some d,op,ty,pos,af,gd⟩::rest) K s L:=
 Sc (vE h) hn hg hd fun _ _ ⟨e1,e2⟩=>by subst e1 e2;exact k
theorem eC (d:Nat)(hl:jP s d=some (.bool g))(h1:g=true->bm X ops l K s L)(h2:g=false->bm X ops l K s L):bm X ops l K s L:=by
 cases g with
 |true=>exact h1 rfl
 |false=>exact h2 rfl
theorem mO {L':W8}(hl:Cv L L')(h:bm X ops l K s L'):bm X ops l K s L:=TL h bQ hl
def uU (s2:bF)(L2:W8):K3:=fun e s' L'=>e=.normal/\AO s' s2/\Cv L' L2
theorem vW {F:Fence}{Q':Exit->Act->World->Prop}: ∀(l1 l2:List Oper) (a:Act) (w:World),wpListIn F m P ops Q l1 a w->(∀a w,Q .normal a w->wpListIn F m P ops Q' l2 a w)->(∀e a w,e≠ .normal->Q e a w->Q' e a w)->wpListIn F m P ops Q' (l1++l2) a w
 | [],l2,a,w,h,h2,_=>h2 a w h
 | o ::r,l2,a,w,h,h2,h3=>by
  have hw: ∀{K K':Act->World->Prop},(∀a w,K a w->K' a w)->o.wpIn F m P a w K Q->o.wpIn F m P a w K' Q':=by
   intro K K' hK hh;unfold Oper.wpIn at*;refine ⟨hh.1,?_⟩;have hh:=hh.2
   have lets:LetsOut Q->LetsOut Q':=fun ⟨a0,w0,hq⟩=>⟨a0,w0,h3 _ _ _ (by simp) hq⟩
   generalize (o.semAt F.round a.eval).run P w=r at*
   cases r with
   | ok x w'=>
    cases x<;>simp only [Oper.uponIn] at hh⊢ <;>
     first
      |exact hK _ _ hh
      |exact ⟨hh.1,CallsIn.mono hh.2 (fun e w'' he=>by cases e<;>first|exact hK _ _ he|exact h3 _ _ _ (by simp) he|exact lets he)⟩
      |exact ⟨hh.1,RowsIn.mono hh.2 (fun _ _ he=>hK _ _ he)⟩
      |exact ⟨hh.1,RoundIn.mono hh.2 (fun e w'' he=>by cases e<;>first|exact hK _ _ he|exact h3 _ _ _ (by simp) he|exact lets he)⟩
   |halt x w'=>cases x<;>simp only [Oper.uponIn] at hh⊢ <;>first|exact h3 _ _ _ (by simp) hh|exact hh
  unfold wpListIn at h;show wpListIn F m P ops Q' (o::(r++l2)) a w;unfold wpListIn;split
  ·rename_i hwt
   rw [if_pos hwt] at h;exact hw (fun a w hh=>vW r l2 a w hh h2 h3) h
  rename_i hwt
  rw [if_neg hwt] at h;exact ⟨h.1,vW r l2 _ _ h.2 h2 h3⟩
theorem UN (k:Nat)(s2:bF)(L2:W8)(h1:bm X ops (l.take k) (uU s2 L2) s L)(h2:bm X ops (l.drop k) K s2 L2):bm X ops l K s L:=by
 intro H Ds a w ha hd hw;rw [<-Yq k l];refine vW _ _ a w (h1 H Ds a w ha hd hw) ?_ ?_
 ·rintro a w ⟨s',L',Ds',g1,g2,g3, -,g4,g5⟩;exact h2 H Ds' a w (g1.sub g4) g2 (g5 _ _ g3)
 rintro e a w hne ⟨s',L',Ds',g1,g2,g3,g4, -⟩;exact absurd g4 hne
theorem aU {s2:bF}{L2:W8}(hs:AO s s2)(hl:Cv L L2):bm X ops [] (uU s2 L2) s L:=Aa ⟨rfl,hs,hl⟩
end
structure Okc (P:Program) (f:FuncId) (args:W9) (L:W8) (R:Value->W8->Prop):Prop where
 cal:qH P f
 run: ∀Z w,Sp Z L w->Calls P f args.toArray w fun e w'=> ∃v L',e=.returned v/\Sp Z L' w'/\R v L'
def Oh (X:Cx)(fn:Func)(R:Value->W8->Prop):K3
 | .normal,s,L| .ret,s,L=> ∀a,Fx X s a-> ∃v L2,(∀Z w,Sp Z L w->(results fn a.tmps).run X.P w=.ok v w)/\Cv L L2/\R v L2
 |_,_,_=>False
theorem BH {tmps:Array Value}{R:Ending->World->Prop}{L Z:W8}(hR:∀w,Sp Z L w-> ∃v,(results fn tmps).run P w=.ok v w/\R (.returned v) w): ∀(Ds:List Nat) (w:World),Sp (Ds.map cA++Z) L w->LeavesInM Fence.wide 0 P fn tmps R (Ds.map wW) .returning w
 | [],w,hw=>hR w (by simpa using hw)
 | D::Ds,w,hw=>by
  have hg:(L++(cA D::(Ds.map cA++Z)))[L.length]? =some (cA D):=by simp
  have hw':SepL (L++(cA D::(Ds.map cA++Z))) w:=hw;obtain ⟨T,S,hT,hk⟩:=hw'.get hg;refine ⟨by simp,.inl ⟨D,_,rfl,run_takeDeferred hk,BH hR Ds _ ?_⟩⟩
  have h1:SepL ((L++(cA D::(Ds.map cA++Z))).set L.length ⟨fun _ _ _=>True,fun _ h=>h,fun _ h=>h,true,fun _ _ _ _ h=>h⟩) (w.putObj D (.deferred none)):=by
   refine hw'.upd hg fun T S h2 h3 _ _=> ?_
   have hx:=grownBy_putObj' w D (.deferred none);refine ⟨⟨hx.os,hx.tape,hx.output,hx.size,fun q hq hn=>hx.block q hq fun e=>hn ?_⟩,fun _=>False,fun _ h=>h.elim,fun _ h=>h.elim,trivial⟩;cases e;exact h2.1
  refine SepL.pick h1 (fun j=>if j<L.length then j else j+1) ?_ ?_
  ·intro j c hj;by_cases hlt:j<L.length
   ·simp only [hlt,if_true];rw [XH hlt] at hj;rw [XQ I,XH hlt];exact hj
   simp only [hlt,if_false];rw [XI I] at hj;rw [XQ I,XI I,show j+1 - L.length=(j - L.length)+1 by omega,XJ];exact hj
  intro i j _ _ e;split at e<;>split at e<;>omega
theorem CJ {R:Value->W8->Prop}{args:W9}{L:W8}(hf:P.funcs[f]? =some fn)(hb:fn.body=some c)(hn:Nat.ble args.length fn.ntmps=true)(h:Wq ⟨P,fn.ntmps,none⟩ c (Oh ⟨P,fn.ntmps,none⟩ fn R) (qQ args 0) L)(hm:(fn.name== "runtime.NumGoroutine")=false:=by rfl):Okc P f args L R:=by
 refine ⟨⟨fn,hf,by rw [hb];rfl,hm⟩,?_⟩;intro Z w hw;refine callsIn_wide.1 (callsIn_of_wp_marks (n:=0) hf hb trivial ?_ J);refine wpIn_mono (h Z [] _ w ⟨?_,?_⟩ J hw) ?_
 ·have:=YA hn;simp;omega
 ·intro k v hk;obtain ⟨-,h2⟩:=Fj args 0 k v hk
  have hlt:k<args.length:=by simpa using (XO.1 h2).1
  rw [Nat.sub_zero] at h2;have h3:=(XO.1 h2).2;simp [Array.getElem?_append,hlt,h3]
 rintro e a' w' ⟨s',L',Ds',h1,h2,h3,h4⟩
 have key:(∃v L2,(∀Z w,Sp Z L' w->(results fn a'.tmps).run P w=.ok v w)/\Cv L' L2/\R v L2)->LeavesInM Fence.wide 0 P fn a'.tmps (fun e w'=> ∃v L',e=.returned v/\Sp Z L' w'/\R v L') a'.defers .returning w':=by
  rintro ⟨v,L2,g1,g2,g3⟩;rw [h2];exact BH (Z:=Z) (L:=L') (fun w hw=>⟨v,g1 _ w hw,v,L2,J,g2 _ _ hw,g3⟩) Ds' w' h3
 cases e with
 |normal=>exact key (h4 a' h1)
 |ret=>exact key (h4 a' h1)
 |_=>exact h4.elim
end
section
open Go.RowKit
structure Rep (α:Type) where
 sz:Nat
 rel:(Nat->Prop)->World->W9->α->Prop
 loc: ∀{S:Nat->Prop} {w w':World} {vs:W9} {x:α},Agr S w w'->rel S w vs x->rel S w' vs x
 mono: ∀{S S':Nat->Prop} {w:World} {vs:W9} {x:α},(∀q,S q->S' q)->rel S w vs x->rel S' w vs x
 len: ∀{S:Nat->Prop} {w:World} {vs:W9} {x:α},rel S w vs x->vs.length=sz
 one: ∀{S:Nat->Prop} {w:World} {vs:W9} {x:α},rel S w vs x->vs.all (·.oneCell')=true
def Rep.flat (sz:Nat)(en:α->W9)(h1:∀x,(en x).length=sz)(h2:∀x,(en x).all (·.oneCell')=true):Rep α where
 sz:=sz
 rel _ _ vs x:=vs=en x
 loc:=fun _ h=>h
 mono:=fun _ h=>h
 len:=fun h=>h▸h1 _
 one:=fun h=>h▸h2 _
def nH (k:IntKind):Rep Int:=.flat 1 (fun x=> [.int k x]) (fun _=>rfl) (fun _=>rfl)
def sJ:Rep ByteArray:=.flat 1 (fun x=> [.string x]) (fun _=>rfl) (fun _=>rfl)
inductive All2 {α β:Type} (R:α->β->Prop):List α->List β->Prop
 |nil:All2 R [] []
 |cons {a b l m:_}:R a b->All2 R l m->All2 R (a::l) (b::m)
theorem All2.length {R:α->β->Prop}{l:List α}{m:List β}(h:All2 R l m):l.length=m.length:=by induction h with
 |nil=>rfl
 |cons _ _ ih=>simp [ih]
theorem All2.imp {R R':α->β->Prop}{l:List α}{m:List β}(h:All2 R l m)(hr:∀a b,R a b->R' a b):All2 R' l m:=by induction h with
 |nil=>exact .nil
 |cons h1 _ ih=>exact .cons (hr _ _ h1) ih
theorem All2.get {R:α->β->Prop}{l:List α}{m:List β}(h:All2 R l m){b:β}(hi:m[i]? =some b): ∃a,l[i]? =some a/\R a b:=by
 induction h generalizing i with
 |nil=>simp at hi
 |cons h1 _ ih=>
  cases i with
  |zero=>simp only [XK,YN] at hi⊢;subst hi;exact ⟨_,J,h1⟩
  |succ i=>simp only [XJ] at hi⊢;exact ih hi
theorem All2.append {R:α->β->Prop}{l l':List α}{m m':List β}(h:All2 R l m)(h':All2 R l' m'):All2 R (l++l') (m++m'):=by induction h with
 |nil=>exact h'
 |cons h1 _ ih=>exact .cons h1 ih
theorem All2.drop {R:α->β->Prop}{l:List α}{m:List β}(h:All2 R l m): ∀k,All2 R (l.drop k) (m.drop k):=by
 induction h with
 |nil=>intro k;simp;exact .nil
 |cons h1 h2 ih=>intro k;cases k with
  |zero=>exact .cons h1 h2
  |succ k=>exact ih k
theorem All2.take {R:α->β->Prop}{l:List α}{m:List β}(h:All2 R l m): ∀k,All2 R (l.take k) (m.take k):=by
 induction h with
 |nil=>intro k;simp;exact .nil
 |cons h1 h2 ih=>intro k;cases k with
  |zero=>exact .nil
  |succ k=>exact .cons h1 (ih k)
theorem All2.set {R:α->β->Prop}{l:List α}{m:List β}(h:All2 R l m){a:α}{b:β}(hab:R a b): ∀k,All2 R (l.set k a) (m.set k b):=by
 induction h with
 |nil=>intro k;exact .nil
 |cons h1 h2 ih=>intro k;cases k with
  |zero=>exact .cons hab h2
  |succ k=>exact .cons h1 (ih k)
section
variable {R:Rep α}
theorem oE {w:World}{vss:List W9}{xs:List α}(h:All2 (R.rel S w) vss xs):vss.flatten.length=xs.length*R.sz:=by
 induction h with
 |nil=>simp
 |cons h1 _ ih=>rw [XG,YX,ih,R.len h1,XW,Yx];omega
theorem vp {w:World}{vss:List W9}{xs:List α}(h:All2 (R.rel S w) vss xs):vss.flatten.all (·.oneCell')=true:=by
 induction h with
 |nil=>rfl
 |cons h1 _ ih=>rw [XG,List.all_append,R.one h1,ih];rfl
theorem xE {w:World}: ∀{vss:List W9} {xs:List α},All2 (R.rel S w) vss xs-> ∀{i:Nat} {vs:W9},vss[i]? =some vs-> ∀{j:Nat} {u:Value},vs[j]? =some u->vss.flatten[i*R.sz+j]? =some u
 |_,_,.nil,i,vs,h,_,_,_=>by simp at h
 |_,_,.cons (a:=a) h1 h2,0,vs,h,j,u,hu=>by
  simp only [XK,YN] at h;subst h;rw [XG,Nat.zero_mul,YH,XH (XO.1 hu).1];exact hu
 |_,_,.cons (a:=a) h1 h2,i+1,vs,h,j,u,hu=>by
  simp only [XJ] at h
  have e:(i+1)*R.sz+j=a.length+(i*R.sz+j):=by rw [R.len h1,Yx];omega
  rw [XG,e,XI I,Nat.add_sub_cancel_left];exact xE h2 h hu
theorem yR {w:World}: ∀{vss:List W9} {xs:List α},All2 (R.rel S w) vss xs-> ∀k,(vss.drop k).flatten=vss.flatten.drop (k*R.sz)
 |_,_,.nil,k=>by simp
 |_,_,.cons h1 h2,0=>by simp
 |_,_,.cons (a:=a) h1 h2,k+1=>by
  rw [Xx,yR h2 k,XG,show (k+1)*R.sz=a.length+k*R.sz by rw [R.len h1,Yx];omega, <-List.drop_drop,List.drop_left]
def SlR (R:Rep α)(S:Nat->Prop)(w:World)(v:Value)(xs:List α):Prop:= ∃A c,v=.slice A xs.length c/\xs.length<=c/\c<=9223372036854775807/\
 (0<xs.length-> ∃b o vss,A=some ⟨b,o,none⟩/\S b/\b<w.heap.size/\All2 (R.rel S w) vss xs/\CellsAt w b o vss.flatten)
theorem SlR.loc {w:World}{xs:List α}(h:SlR R S w v xs)(hx:Agr S w w'):SlR R S w' v xs:=by
 obtain ⟨A,c,h1,h2,h3,h4⟩:=h;refine ⟨A,c,h1,h2,h3,fun h0=> ?_⟩;obtain ⟨b,o,vss,g1,g2,g3,g4,g5⟩:=h4 h0;exact ⟨b,o,vss,g1,g2,YD g3 hx.size,g4.imp fun _ _=>R.loc hx,g5.agr hx g2 g3⟩
theorem SlR.mono {S':Nat->Prop}{w:World}{xs:List α}(h:SlR R S w v xs)(hs:∀q,S q->S' q):SlR R S' w v xs:=by
 obtain ⟨A,c,h1,h2,h3,h4⟩:=h;refine ⟨A,c,h1,h2,h3,fun h0=> ?_⟩;obtain ⟨b,o,vss,g1,g2,g3,g4,g5⟩:=h4 h0;exact ⟨b,o,vss,g1,hs _ g2,g3,g4.imp fun _ _=>R.mono hs,g5⟩
theorem SlR.one {w:World}{xs:List α}(h:SlR R S w v xs):v.oneCell'=true:=by
 obtain ⟨A,c,rfl, -⟩:=h;rfl
theorem LB (R:Rep α)(S:Nat->Prop)(w:World):SlR R S w (W none 0 0) []:=⟨none,0,rfl,YB _,by omega,fun h=>absurd h (by simp)⟩
end
def Rep.sl (R:Rep α):Rep (List α) where
 sz:=1
 rel S w vs xs:= ∃v,vs=[v]/\SlR R S w v xs
 loc:=fun h ⟨v,e,h1⟩=>⟨v,e,h1.loc h⟩
 mono:=fun h ⟨v,e,h1⟩=>⟨v,e,h1.mono h⟩
 len:=fun ⟨_,e,_⟩=>by rw [e];rfl
 one:=fun ⟨_,e,h⟩=>by rw [e];simp [h.one]
def gK (R:Rep α)(v:Value)(xs:List α):Chunk where
 ok _ S w:=SlR R S w v xs
 loc:=fun h h1=>h1.loc (h.mono fun _=> .inr)
 mono:=fun h h1=>h1.mono h
 ro:=true
 dup:=fun _ _ _ _ h=>h
def ah (b:Nat)(t:TypeId)(cs:W9):Chunk where
 ok T _ w:=T b/\Blk w b t cs.toArray
 loc:=fun h ⟨h1,h2⟩=>⟨h1,h2.agr h (.inl h1)⟩
 mono:=fun _ h=>h
 ro:=false
 dup:=fun h=>Bool.noConfusion h
def ownsX (w:World)(e:TypeId)(sz:Nat)(v:Value)(n:Nat)(cs:W9):Prop:=cs.length=n*sz/\((v=W none 0 0/\n=0)\/ ∃g cap cur,v=.slice (some ⟨g,0,none⟩) n cap/\0<=g/\w.heap[g]? =some (.cells cur e (0,0))/\n<=cap/\cap<=maxLen/\(∃c0,cap<=c0/\c0<=maxLen/\cur.size=c0*sz)/\cur.toList.take (n*sz)=cs)
theorem ownsX.of {w:World}{sz:Nat}{cs:W9}(h:w.ownsRow 0 e sz v n cs):ownsX w e sz v n cs:=⟨h.1,h.2.imp id fun ⟨g,cap,cur,a,b,c,d,f,k,i⟩=>⟨g,cap,cur,a,b,c,d,f,⟨cap,YB _,f,k⟩,i⟩⟩
theorem ownsX.lt {w:World}{sz:Nat}{cs:W9}(h:ownsX w e sz v n cs): ∀q,v.ownBlock=some q->q<w.heap.size:=fun q hq=>by
 rcases h.2 with ⟨rfl, -⟩|⟨g,cap,cur,rfl, -,h3, -⟩
 ·cases hq
 cases hq;exact Blk.lt (t:=e) (cs:=cur) h3
theorem GN {X:Nat->Prop}{w:World}{sz:Nat}{cs:W9}(h:ownsX w e sz v n cs)(hx:Agr X w w')(hv:∀q,v.ownBlock=some q->X q):ownsX w' e sz v n cs:=by
 refine ⟨h.1,?_⟩;rcases h.2 with h3|⟨g,cap,cur,e1,hg,hh,r⟩
 ·exact .inl h3
 exact .inr ⟨g,cap,cur,e1,hg,Blk.agr (t:=e) hh hx (hv g (by rw [e1];rfl)),r⟩
def bd (R:Rep α)(e:TypeId)(v:Value)(xs:List α):Chunk where
 ok T S w:= ∃vss,All2 (R.rel S w) vss xs/\((ownsX w e R.sz v xs.length vss.flatten/\ ∀q,v.ownBlock=some q->T q)\/(xs.length=0/\ ∃A,v=.slice A 0 0))
 loc:=fun h ⟨vss,h1,h2⟩=>⟨vss,h1.imp fun _ _=>R.loc (h.mono fun _=> .inr),h2.imp (fun ⟨h2,h3⟩=>⟨GN h2 h fun q hq=> .inl (h3 q hq),h3⟩) id⟩
 mono:=fun h ⟨vss,h1,h2⟩=>⟨vss,h1.imp fun _ _=>R.mono h,h2⟩
 ro:=false
 dup:=fun h=>Bool.noConfusion h
def Gk (w0:World):Chunk where
 ok _ S w:=Ext w0 w/\ ∀q,q<w0.heap.size->S q
 loc:=fun h ⟨h1,h2⟩=>⟨⟨h.os.trans h1.os,h.tape.trans h1.tape,h.output.trans h1.output,YC h1.size h.size,fun q hq=>(h.block q (YD hq h1.size) (.inr (h2 q hq))).trans (h1.block q hq)⟩,h2⟩
 mono:=fun h ⟨h1,h2⟩=>⟨h1,fun q hq=>h q (h2 q hq)⟩
 ro:=true
 dup:=fun _ _ _ _ h=>h
def HA (R:Rep α)(v:Value)(xs:List α)(c:Chunk):Prop:= ∀T S w,c.ok T S w-> ∃A cap,v=.slice A xs.length cap/\xs.length<=cap/\cap<=9223372036854775807/\
 (0<xs.length-> ∃b o vss,A=some ⟨b,o,none⟩/\All2 (R.rel S w) vss xs/\CellsAt w b o vss.flatten)
theorem bj {R:Rep α}{xs:List α}:HA R v xs (gK R v xs):=fun T S w ⟨A,c,h1,h2,h3,h4⟩=>⟨A,c,h1,h2,h3,fun h0=>by
 obtain ⟨b,o,vss,g1,g2,g3,g4,g5⟩:=h4 h0
 exact ⟨b,o,vss,g1,g4,g5⟩⟩
theorem mF {w:World}{sz g cap:Nat}{cur:Array Value}{cs:W9}(h:w.heap[g]? =some (.cells cur e (0,0)))(hc:cur.toList.take (n*sz)=cs):CellsAt w g 0 cs:=fun j u hj=>by
 have hb:Blk w g e cur:=h;rw [YH,hb.cells, <-Array.getElem?_toList];rw [<-hc,XS] at hj;split at hj
 ·exact hj
 cases hj
theorem ao {R:Rep α}{xs:List α}:HA R v xs (bd R e v xs):=fun T S w ⟨vss,h1,h2⟩=>by
 rcases h2 with ⟨h2, -⟩|⟨h0,A,rfl⟩
 ·rcases h2.2 with ⟨rfl,h0⟩|⟨g,cap,cur,rfl,g1,g2,g3,g4,g5,g6⟩
  ·rw [h0];exact ⟨none,0,J,by omega,by omega,fun h=>absurd h I⟩
  exact ⟨_,cap,J,g3,by unfold maxLen at g4;omega,fun _=>⟨g,0,vss,rfl,h1,mF (cap:=cap) g2 g6⟩⟩
 exact ⟨A,0,by rw [h0],by omega,by omega,fun h=>absurd h I⟩
theorem bv {R:Rep α}{xs:List α}{L:W8}(i:Nat)(hi:L[i]? =some (bd R e v xs)):Cv L (L.set i (gK R v xs)):=fun Z w h=>by
 have h1:=SepL.frz h (aP hi) (d:=gK R v xs) fun T S ⟨vss,h1,h2⟩=>by
  rcases h2 with ⟨h2,h3⟩|⟨h0,A,rfl⟩
  ·rcases h2.2 with ⟨rfl,h0⟩|⟨g,cap,cur,rfl,g1,g2,g3,g4,g5,g6⟩
   ·show SlR R _ w _ xs;exact ⟨none,0,by rw [h0],by omega,by omega,fun h=>absurd h I⟩
   exact ⟨_,cap,J,g3,by unfold maxLen at g4;omega,fun _=>⟨g,0,vss,rfl,.inr (h3 g rfl),Blk.lt (t:=e) (cs:=cur) g2,h1.imp fun _ _=>R.mono fun _=> .inl,mF (cap:=cap) g2 g6⟩⟩
  show SlR R _ w _ xs;exact ⟨A,0,by rw [h0],by omega,by omega,fun h=>absurd h I⟩
 rw [jQ Z hi] at h1;exact h1
theorem Lh {L:W8}(i:Nat){c:Chunk}(hi:L[i]? =some c)(hc:c.ro=true):Cv L (c::L):=fun _ _ h=>SepL.dup h (aP hi) hc
theorem ci (R:Rep α)(e:TypeId)(L:W8):Cv L (bd R e (W none 0 0) ([]:List α)::L):=fun Z w h=>SepL.fact0 h fun S=>⟨[],.nil,.inl ⟨.of (World.ownsRow_nil w 0 e R.sz),fun _ h=>by cases h⟩⟩
theorem qA (R:Rep α)(L:W8):Cv L (gK R (W none 0 0) ([]:List α)::L):=fun Z w h=>SepL.fact0 h fun S=>LB R S w
section
variable {s:bF}{L:W8}{d:Option Nat}
theorem lj {R:Rep α}{xs:List α}{c:Chunk}(i:Nat)(hi:L[i]? =some c)(he:HA R v xs c)(hx:bl s x=some v)(ht:P.underlying t=some (.slice e)):Rd P s L ⟨d,.call ⟨.builtin .len, #[x], #[t]⟩,ty,pos,af,gd⟩ (.int .i64 (xs.length:Int)):=fun Z w hw=>by
 obtain ⟨T,S,h⟩:=hw.get (aP hi);obtain ⟨A,cap,rfl, -⟩:=he _ _ _ h;exact FQ hx ht
def dF (v:Value)(k sz off:Nat):Value:=match v with
 | .slice (some ⟨b,o,none⟩) _ _=> .pointer (some ⟨b,o+k*sz+off,none⟩)
 |_=>undef
theorem cM {R:Rep α}{t e sz:Nat}{xs:List α}{c:Chunk}{k:Int}(i:Nat)(hi:L[i]? =some c)(he:HA R v xs c)(hx:bl s x=some v)(hy:bl s y=some (.int .i64 k))(ht:P.underlying t=some (.slice e))(hs:lg P e sz=true)(h0:0<=k)(h1:k<xs.length):Rd P s L ⟨d,.indexAddr t x y,ty,pos,af,gd⟩ (dF v k.toNat sz 0):=fun Z w hw=>by
 obtain ⟨T,S,h⟩:=hw.get (aP hi);obtain ⟨A,cap,rfl, -, -,h4⟩:=he _ _ _ h;obtain ⟨b,o,vss,rfl, -⟩:=h4 I;exact FR hx hy ht hs h0 h1
theorem uB {R:Rep α}{t f sz o':Nat}{xs:List α}{c:Chunk}{k:Nat}(i:Nat)(hi:L[i]? =some c)(he:HA R v xs c)(hx:bl s x=some (dF v k sz off))(h1:k<xs.length)(hr:∀b o w,(Instr.fieldAt t (.pointer (some ⟨b,o,none⟩)) f).run P w=.ok (.pointer (some ⟨b,o+o',none⟩)) w):Rd P s L ⟨d,.fieldAddr t x f,ty,pos,af,gd⟩ (dF v k sz (off+o')):=fun Z w hw=>by
 obtain ⟨T,S,h⟩:=hw.get (aP hi);obtain ⟨A,cap,rfl, -, -,h4⟩:=he _ _ _ h;obtain ⟨b,o,vss,rfl, -⟩:=h4 I;have h9:=kH (C:=(· =w)) (d:=d) (ty:=ty) (pos:=pos) (af:=af) (gd:=gd) (o:=o+k*sz+off) hx hr;rw [Nat.add_assoc (o+k*sz)] at h9;exact h9
theorem Ms {R:Rep α}{xs:List α}{c:Chunk}{Z:W8}{w:World}(hw:Sp Z L w)(hi:L[i]? =some c)(he:HA R v xs c){k:Nat}{x:α}(hx:xs[k]? =some x): ∃b o vs T S,c.ok T S w/\dF v k R.sz off=.pointer (some ⟨b,o+k*R.sz+off,none⟩)/\R.rel S w vs x/\CellsAt w b (o+k*R.sz) vs:=by
 obtain ⟨T,S,h⟩:=hw.get (aP hi);obtain ⟨A,cap,rfl, -, -,h4⟩:=he _ _ _ h;obtain ⟨b,o,vss,rfl,h5,h6⟩:=h4 (Ar hx);obtain ⟨vs,h7,h8⟩:=h5.get hx;exact ⟨b,o,vs,T,S,h,J,h8,fun j u hj=>by have:=h6 _ _ (xE h5 h7 hj);rw [Nat.add_assoc];exact this⟩
theorem mq {R:Rep α}{xs:List α}{c:Chunk}{k:Nat}{y:α}(i:Nat)(hi:L[i]? =some c)(he:HA R v xs c)(hx:bl s x=some (dF v k R.sz off))(hy:xs[k]? =some y)(hu:iv P t=true)(hl:∀S w vs,R.rel S w vs y->vs[off]? =some u):Rd P s L ⟨d,.load t x,ty,pos,af,gd⟩ u:=fun Z w hw=>by
 obtain ⟨b,o,vs,T,S,h1,h2,h3,h4⟩:=Ms (off:=off) hw hi he hy;rw [h2] at hx;exact Ca hx hu (Jx (p:=fun w=>w.cell? ⟨b,o+k*R.sz+off,none⟩=some u) (h4 _ _ (hl _ _ _ h3)))
theorem ee {R:Rep α}{us:W9}{xs:List α}{c:Chunk}{k:Nat}{y:α}(i:Nat)(hi:L[i]? =some c)(he:HA R v xs c)(hx:bl s x=some (dF v k R.sz off))(hy:xs[k]? =some y)(hu:IF P t us.length=true)(hl:∀S w vs,R.rel S w vs y->(vs.drop off).take us.length=us):Rd P s L ⟨d,.load t x,ty,pos,af,gd⟩ (.agg us.toArray):=fun Z w hw=>by
 obtain ⟨b,o,vs,T,S,h1,h2,h3,h4⟩:=Ms (off:=off) hw hi he hy;rw [h2] at hx;have h5:=h4.part off us.length;rw [hl _ _ _ h3] at h5;exact BZ hx (Jx (p:=fun w=>CellsAt w b (o+k*R.sz+off) us) h5) hu
theorem OV {R:Rep α}{R':Rep β}{xs:List α}{c:Chunk}{k:Nat}{y:α}{ys:List β}(i:Nat)(hi:L[i]? =some c)(he:HA R v xs c)(hx:bl s x=some (dF v k R.sz off))(hy:xs[k]? =some y)(hu:iv P t=true)(hl:∀S w vs,R.rel S w vs y-> ∃u,vs[off]? =some u/\SlR R' S w u ys):OpX P s L ⟨d,.load t x,ty,pos,af,gd⟩ fun u L'=> ∃A n c,u=.slice A n c/\L'=gK R' (.slice A n c) ys::L:=fun ρ hρ Z w hw=>by
 obtain ⟨T,S,h⟩:=hw;have hc:=h.ok (aP hi);obtain ⟨A,cap,rfl, -, -,h4⟩:=he _ _ _ hc;obtain ⟨b,o,vss,rfl,h5,h6⟩:=h4 (Ar hy);obtain ⟨vs,h7,h8⟩:=h5.get hy;obtain ⟨u,h9,h10⟩:=hl _ _ _ h8;obtain ⟨A',c',rfl,hrest⟩:=h10;have h10:SlR R' S w (.slice A' ys.length c') ys:=⟨A',c',rfl,hrest⟩;have h11:=h6 _ _ (xE h5 h7 h9);refine .inl ⟨_,w,_,Ca (C:=(· =w)) (a:=⟨b,o+k*R.sz+off,none⟩) hx hu (Jx (p:=fun w=>w.cell? ⟨b,o+k*R.sz+off,none⟩=some _) (by rw [Nat.add_assoc];exact h11)) ρ hρ w J,?_,_,_,_,J,J⟩;refine ⟨fun i=>match i with|0=>fun _=>False|i+1=>T i,S,?_,?_,?_,?_,h.lts⟩
 ·intro j e hj
  cases j with
  |zero=>simp only [Xu,XK,YN] at hj;subst hj;exact h10
  |succ j=>simp only [Xu,XJ] at hj;exact h.ok hj
 ·intro i j q hij h3 h4
  cases i with
  |zero=>exact h3
  |succ i=>cases j with
   |zero=>exact h4
   |succ j=>exact h.apart I h3 h4
 ·intro i q h3 h4
  cases i with
  |zero=>exact h3
  |succ i=>exact h.ro h3 h4
 intro i q h3
 cases i with
 |zero=>exact h3.elim
 |succ i=>exact h.lt h3
theorem SepL.facts {L:W8}{w:World}: ∀(cs:W8) {T:Nat->Nat->Prop} {S:Nat->Prop},SepT L T S w->(∀c∈cs,c.ok (fun _=>False) S w)-> ∃T',SepT (cs++L) T' S w
 | [],T,S,h,_=>⟨T,h⟩
 | c::cs,T,S,h,hc=>by
  obtain ⟨T',h'⟩:=SepL.facts cs h fun d hd=>hc d (by simp [hd])
  refine ⟨fun i=>match i with|0=>fun _=>False|i+1=>T' i,?_,?_,?_,?_,h'.lts⟩
  ·intro j e hj
   cases j with
   |zero=>simp only [Xu,XK,YN] at hj;subst hj;exact hc _ (by simp)
   |succ j=>simp only [Xu,XJ] at hj;exact h'.ok hj
  ·intro i j q hij h3 h4
   cases i with
   |zero=>exact h3
   |succ i=>cases j with
    |zero=>exact h4
    |succ j=>exact h'.apart I h3 h4
  ·intro i q h3 h4
   cases i with
   |zero=>exact h3
   |succ i=>exact h'.ro h3 h4
  intro i q h3
  cases i with
  |zero=>exact h3.elim
  |succ i=>exact h'.lt h3
def Qd (R:Rep α)(x:α)(Q:W9->W8->Prop):Prop:= ∀S w vs,R.rel S w vs x-> ∃cs,Q vs cs/\ ∀c∈cs,c.ok (fun _=>False) S w
theorem ck {b o:Nat}{cs:W9}(i:Nat)(hi:L[i]? =some (ah b bt cs))(hx:bl s x=some (.pointer (some ⟨b,o,none⟩)))(hu:iv P t=true)(hc:cs[o]? =some u):Rd P s L ⟨d,.load t x,ty,pos,af,gd⟩ u:=fun Z w hw=>by
 obtain ⟨T,S, -,h⟩:=hw.get (aP hi);exact Ca hx hu (Jx (p:=fun w=>w.cell? ⟨b,o,none⟩=some u) (h.at (by simpa using hc)))
theorem ax {b o:Nat}{cs us:W9}(i:Nat)(hi:L[i]? =some (ah b bt cs))(hx:bl s x=some (.pointer (some ⟨b,o,none⟩)))(hu:IF P t us.length=true)(hc:(cs.drop o).take us.length=us):Rd P s L ⟨d,.load t x,ty,pos,af,gd⟩ (.agg us.toArray):=fun Z w hw=>by
 obtain ⟨T,S, -,h⟩:=hw.get (aP hi);have h5:=h.all.part o us.length;rw [hc,YH] at h5;exact BZ hx (Jx (p:=fun w=>CellsAt w b o us) h5) hu
theorem rf {cs:W9}(hx:bl s x=some v)(hc:v.cells.toList=cs):OpX P s L ⟨d,.box t x,ty,pos,af,gd⟩ fun u L'=> ∃b,u=.pointer (some ⟨b,0,none⟩)/\L'=ah b t cs::L:=fun ρ hρ Z w hw=>by
 refine .inl ⟨.pointer (some ⟨w.heap.size,0,none⟩),w.alloc (.cells v.cells t),ah w.heap.size t cs::L,?_,SepL.new (c:=ah w.heap.size t cs) hw (Agr.of_ext ((Ext.refl w).alloc _)) fun _ S _=>⟨(· =w.heap.size),fun q hq=> ?_,J,?_⟩,_,J,J⟩
 ·unfold execOp;simp only [hρ x _ hx];rfl
 ·subst hq;simp
 subst hc;simpa using Blk.new w t v.cells
theorem bw {cs:W9}(hz:∀w,(zeroValue t).run P w=.ok v w)(hc:v.cells.toList=cs):OpX P s L ⟨d,.alloc t,ty,pos,af,gd⟩ fun u L'=> ∃b,u=.pointer (some ⟨b,0,none⟩)/\L'=ah b t cs::L:=fun ρ hρ Z w hw=>by
 refine .inl ⟨.pointer (some ⟨w.heap.size,0,none⟩),w.alloc (.cells v.cells t),ah w.heap.size t cs::L,?_,SepL.new (c:=ah w.heap.size t cs) hw (Agr.of_ext ((Ext.refl w).alloc _)) fun _ S _=>⟨(· =w.heap.size),fun q hq=> ?_,J,?_⟩,_,J,J⟩
 ·unfold execOp;simp only [Instr.alloc,YQ,hz,YP];rfl
 ·subst hq;simp
 subst hc;simpa using Blk.new w t v.cells
theorem LR: ∀(cs us:W9) (o:Nat),ow cs.toArray o us=(cs.take o++us++cs.drop (o+us.length)).toArray\/cs.length<o+us.length:=by
 intro cs us o;by_cases h:o+us.length<=cs.length
 ·left;apply Array.ext_getElem?;intro j;rw [OP us _ o j (by simpa using h)];simp only [XT,W2];by_cases h1:j<o
  ·rw [if_neg I,XH (by rw [YY];omega),XS,if_pos h1]
  rw [XI (by rw [YY];omega),YY,show min o cs.length=o by omega];by_cases h2:j<o+us.length
  ·rw [if_pos I,XH I]
  rw [if_neg I,XI I,XL]
  congr 1;omega
 right;omega
theorem aj {b o:Nat}{cs cs' us:W9}(i:Nat)(hi:L[i]? =some (ah b bt cs))(hx:bl s x=some (.pointer (some ⟨b,o,none⟩)))(hy:bl s y=some v)(hv:v.cells.toList=us)(hs:lg P t us.length=true)(h1:us.all (·.oneCell')=true)(hc:Nat.ble (o+us.length) cs.length=true)(hc':cs.take o++us++cs.drop (o+us.length)=cs'):OpX P s L ⟨d,.store t x y,ty,pos,af,gd⟩ fun _ L'=>L'=L.set i (ah b bt cs'):=fun ρ hρ Z w hw=>by
 obtain ⟨T,S,hT,h⟩:=hw.get (aP hi);have hle:=YA hc;obtain ⟨w',e1,e2,e3⟩:=gl (P:=P) us w b o 0 cs.toArray h (by simpa using hle) h1;refine .inr (.inl ⟨w',_,?_,?_,J⟩)
 ·unfold execOp
  have hcs:v.cells=us.toArray:=by rw [<-hv]
  simp only [hρ x _ hx,hρ y _ hy,Instr.storeAt,Instr.sureAddr,storeVar,YQ,YR,YP,ld hs w,hcs,List.size_toArray,ne_eq,not_true,if_false,e1]
 have h2:=SepL.upd (w':=w') hw (aP hi) (d:=ah b bt cs') fun T S ⟨g1,g2⟩ g3 _ _=>⟨Agr.of_fr e2 fun q hq e=>hq (e▸g1),T,fun _=> .inl,fun q hq=>YD (g3 q hq) e2.size,g1,by
   rcases LR cs us o with h3|h3
   ·rw [Nat.add_zero,h3,hc'] at e3;exact e3
   ·omega⟩
 rw [jQ Z hi] at h2;exact h2
end
end
section
open Go.RowKit
def Ro (L:W8)(S:Nat->Prop)(w:World):Prop:= ∀(i:Nat) (c:Chunk),L[i]? =some c->c.ro=true->c.ok (fun _=>False) S w
theorem SepT.ros {L:W8}{w:World}(h:SepT L T S w):Ro L S w:=fun _ c hi hc=>c.dup hc (h.ok hi)
theorem Ro.app {L Z:W8}{w:World}(h:Ro (L++Z) S w):Ro L S w:=fun i c hi hc=>h i c (aP hi) hc
theorem Ro.loc {L:W8}{w:World}(h:Ro L S w)(hx:Agr S w w'):Ro L S w':=fun i c hi hc=>c.loc (hx.mono fun _ h=>h.elim False.elim id) (h i c hi hc)
section
variable {s:bF}{L:W8}{d:Option Nat}
theorem aB {R:Rep α}{vss:List W9}{xs:List α}(hp:NP s ps=some vs)(hr:∀w,(Instr.buildSlice t m vs.toArray).run P w=.ok (.slice (some ⟨w.heap.size,0,none⟩) m m) (w.alloc (.cells vss.flatten.toArray e)))(hm:xs.length=m)(hmm:Nat.ble m maxLen=true)(hrel:∀S w,Ro L S w->All2 (R.rel S w) vss xs):OpX P s L ⟨d,.buildSlice t m ps.toArray,ty,pos,af,gd⟩ fun u L'=> ∃A n c,u=.slice A n c/\L'=bd R e (.slice A n c) xs::L:=fun ρ hρ Z w hw=>by
 have hx:Ext w (w.alloc (.cells vss.flatten.toArray e)):=(Ext.refl w).alloc _;refine .inl ⟨_,w.alloc (.cells vss.flatten.toArray e),bd R e (.slice (some ⟨w.heap.size,0,none⟩) m m) xs::L,?_,?_,_,_,_,J,J⟩
 ·unfold execOp;simp only [X6,Ef hρ hp,YQ,hr,YP];rfl
 refine SepL.new hw (Agr.of_ext hx) fun T S h=>⟨(· =w.heap.size),fun q hq=>by subst hq;simp,vss,hrel S _ (h.ros.app.loc (Agr.of_ext hx)),.inl ⟨?_,fun q hq=>by cases hq;rfl⟩⟩
 subst hm;have hl:=oE (hrel S w h.ros.app);exact .of ⟨hl,.inr ⟨w.heap.size,xs.length,vss.flatten.toArray,J,YI _,Blk.new w e _,YB _,YA hmm,by simpa using hl,by rw [<-hl];exact Y0⟩⟩
theorem ud (sz:Nat)(w:World)(A:Option Addr)(c:Nat):(Builtin.firstCells sz 0 (.slice A 0 c)).run P w=.ok #[] w:=by
 unfold Builtin.firstCells;cases A
 ·simp
 simp [loadCells,loadCellsFrom]
theorem DN {sz:TypeId}{cs:W9}{c:Nat}(ht:P.underlying t=some (.slice e))(hs:lg P e sz=true)(w:World)(hown:ownsX w e sz v n cs):(Builtin.append_ #[t,t] ty #[v,.slice A2 0 c]).run P w=.ok v w:=by
 have key: ∀(A:Option Addr) (cap:Nat),n<=cap->v=.slice A n cap->(Builtin.append_ #[t,t] ty #[v,.slice A2 0 c]).run P w=.ok v w:=by
  rintro A cap hle rfl;unfold Builtin.append_;simp only [XT,XK,XJ];rw [YQ,YW ht,YP]
  dsimp only
  rw [YQ,ld hs,YP];rw [YQ,YW ht,YP]
  dsimp only
  rw [YQ,YR,YP];simp only [Xh,if_false,Bool.not_false,if_true];have h1:(Builtin.lenOf (.slice A2 0 c)).run P w=.ok 0 w:=rfl;rw [YQ,h1,YP];rw [if_pos I];rw [YQ,ud sz w A2 c,YP]
  cases A with
  |none=>rfl
  |some a=>simp [storeCells]
 rcases hown.2 with ⟨rfl,h0⟩|⟨g,cap,cur,rfl, -, -,h3, -⟩
 ·subst h0;exact key none 0 (YB _) J
 exact key _ cap h3 J
theorem DM (w:World)(inf:TypeInfo)(z:Value)(sz by_:Nat)(ht:P.underlying t=some (.slice e))(hi:P.info? e=some inf)(hz:inf.zero=some z)(e2:inf.size=sz)(e3:inf.bytes=by_)(e4:z.cells.size=sz)(e5:0<sz)(a:Addr)(m c:Nat)(news:W9)(hl:news.length=m*sz)(hnews:∀j u,news[j]? =some u->w.cell? (a.add j)=some u)(h1:∀u∈news,u.oneCell'=true)(hm:0<m)(h63:m<=maxLen)(hb:m*by_<=140737488355328):
  ∃v' w',(Builtin.append_ #[t,t] ty #[.slice A 0 0,.slice (some a) m c]).run P w=.ok v' w'/\w'.ownsRow w.heap.size e sz v' m news/\w.grownBy w' none:=by
 cases A with
 |none=>
  obtain ⟨v',w',r1,r2,r3, -⟩:=run_append_own w w.heap.size t ty e inf z sz by_ ht hi hz e2 e3 e4 e5 (W none 0 0) 0 [] (World.ownsRow_nil ..) a m c news hl hnews h1 I (by simpa using hb) (YB _);exact ⟨v',w',r1,by simpa using r2,r3⟩
 | some b=>
  have hmm:m<=9223372036854775807:=by unfold maxLen at h63;omega
  have hr:=run_append_grow (P:=P) w t ty e inf z ht hi hz b 0 0 [] (by simp) (fun j u hj=>by simp at hj) a m c news (by rw [e2];exact hl) hnews I I (by rw [e3];exact growslice_fits I (by simpa using hb));have hge:=grownCap_ge w (0+m) 0 e;have hcm:=grownCap_le_maxLen w (0+m) 0 e (by simpa using h63);refine ⟨_,_,hr,⟨hl,.inr ⟨w.heap.size,grownCap w (0+m) 0 e,_,by simp only [YH],YB _,heap_alloc_new w.drew _,by simpa using hge,by simpa using hcm,?_,?_⟩⟩,⟨J,J,J,by simp,fun k hk _=>heap_alloc_old w.drew _ hk⟩⟩
  ·simp only [Array.size_append,List.size_toArray,size_zeroCells,e4,hl,XZ,YH, <-Yx] at hge⊢
   congr 1
   omega
  simp only [Array.toList_append,Y4];rw [<-hl];exact List.take_left
theorem Cz {sz:TypeId}{c:Nat}(ht:P.underlying t=some (.slice e))(hs:lg P e sz=true)(w:World):(Builtin.append_ #[t,t] ty #[.slice A 0 0,.slice A2 0 c]).run P w=.ok (.slice A 0 0) w:=by
 unfold Builtin.append_;simp only [XT,XK,XJ];rw [YQ,YW ht,YP]
 dsimp only
 rw [YQ,ld hs,YP];rw [YQ,YW ht,YP]
 dsimp only
 rw [YQ,YR,YP];simp only [Xh,if_false,Bool.not_false,if_true];have h1:(Builtin.lenOf (.slice A2 0 c)).run P w=.ok 0 w:=rfl;rw [YQ,h1,YP];rw [if_pos I];rw [YQ,ud sz w A2 c,YP]
 cases A with
 |none=>rfl
 |some a=>simp [storeCells]
theorem D5 (cs us:W9)(o:Nat)(h:o+us.length<=cs.length):(ow cs.toArray o us).toList=cs.take o++us++cs.drop (o+us.length):=by
 rcases LR cs us o with h1|h1
 ·rw [h1]
 omega
theorem P7 {cs:W9}(w:World)(inf:TypeInfo)(z:Value)(sz by_:Nat)(ht:P.underlying t=some (.slice e))(hi:P.info? e=some inf)(hz:inf.zero=some z)(e2:inf.size=sz)(e3:inf.bytes=by_)(e4:z.cells.size=sz)(e5:0<sz)(g2:ownsX w e sz v n cs)(a:Addr)(m c:Nat)(news:W9)(hl:news.length=m*sz)(hnews:∀j u,news[j]? =some u->w.cell? (a.add j)=some u)(h1:∀u∈news,u.oneCell'=true)(h0:0<m)(h63:n+m<=maxLen)(hb:(n+m)*by_<=140737488355328):
  ∃v' w',(Builtin.append_ #[t,t] ty #[v,.slice (some a) m c]).run P w=.ok v' w'/\ownsX w' e sz v' (n+m) (cs++news)/\w.grownBy w' v.ownBlock/\ ∀q,v'.ownBlock=some q->v.ownBlock=some q\/w.heap.size<=q:=by
 have row:w.ownsRow 0 e sz v n cs-> ∃v' w',(Builtin.append_ #[t,t] ty #[v,.slice (some a) m c]).run P w=.ok v' w'/\w'.ownsRow 0 e sz v' (n+m) (cs++news)/\w.grownBy w' v.ownBlock/\ ∀q,v'.ownBlock=some q->v.ownBlock=some q\/w.heap.size<=q:=fun g2=>by
  obtain ⟨v',w',r1,r2,r3, -⟩:=run_append_own w 0 t ty e inf z sz by_ ht hi hz e2 e3 e4 e5 v n cs g2 a m c news hl hnews h1 h63 hb (YI _);refine ⟨v',w',r1,r2,r3,fun q hq=> ?_⟩;rcases g2.2 with ⟨rfl,a6⟩|⟨g,cap,cur,rfl, -⟩
  ·rcases YE q w.heap.size with hlt|hge
   ·exfalso;subst a6;obtain ⟨v3,w3,e1',e2', -⟩:=run_append_own w w.heap.size t ty e inf z sz by_ ht hi hz e2 e3 e4 e5 (W none 0 0) 0 [] (World.ownsRow_nil ..) a m c news hl hnews h1 I (by simpa using hb) (YB _);rw [r1] at e1';simp only [Result.ok.injEq] at e1';obtain ⟨rfl,rfl⟩:=e1';have:=(World.ownsRow.lt e2' q hq).1;omega
   exact .inr hge
  rcases Hv ht r1 with h|⟨q',h,h'⟩
  ·rw [h] at hq;cases hq;exact .inl J
  rw [h] at hq;cases hq;exact .inr h'
 rcases g2.2 with ⟨rfl,a6⟩|⟨g,cap,cur,rfl,q1,q2,q3,q4,⟨c0,c1,c2,c3⟩,q6⟩
 ·obtain ⟨v',w',r1,r2,r3,r4⟩:=row ⟨g2.1,.inl ⟨rfl,a6⟩⟩;exact ⟨v',w',r1,.of r2,r3,r4⟩
 rcases YE cap (n+m) with hlt|hge
 ·have hmm:n+m<=9223372036854775807:=by unfold maxLen at h63;omega
  have hr:=run_append_grow (P:=P) w t ty e inf z ht hi hz ⟨g,0,none⟩ n cap cs (by rw [e2];exact g2.1) (fun j u hj=>by rw [kz];exact mF (cap:=cap) q2 q6 j u hj) a m c news (by rw [e2];exact hl) hnews hlt I (by rw [e3];exact growslice_fits hlt hb);have hge:=grownCap_ge w (n+m) cap e;have hcm:=grownCap_le_maxLen w (n+m) cap e h63
  have hlen:(cs++news).length=(n+m)*sz:=by rw [YX,g2.1,hl,Yx]
  refine ⟨_,_,hr,.of ⟨hlen,.inr ⟨w.heap.size,grownCap w (n+m) cap e,_,J,YI _,heap_alloc_new w.drew _,hge,hcm,?_,?_⟩⟩,⟨J,J,J,by simp,fun k hk _=>heap_alloc_old w.drew _ hk⟩,fun q hq=>by cases hq;exact .inr (YB _)⟩
  ·simp only [Array.size_append,List.size_toArray,size_zeroCells,e4,g2.1,hl, <-Yx] at hge⊢
   congr 1
   omega
  simp only [Array.toList_append,W2];rw [<-W2, <-hlen];exact List.take_left
 subst e2;have hfc:=run_firstCells_some (P:=P) w inf.size m a m c news hl hnews
 have hle:(n+m)*inf.size<=cur.size:=by rw [c3];exact YF _ I
 have hsum:n*inf.size+news.length<=cur.size:=by rw [hl, <-Yx];exact hle
 obtain ⟨w',s1,s2,s3⟩:=gl (P:=P) (t:=e) news w g (n*inf.size) 0 cur q2 I (Xq.2 h1)
 have hlen:(cs++news).length=(n+m)*inf.size:=by rw [YX,g2.1,hl,Yx]
 refine ⟨.slice (some ⟨g,0,none⟩) (n+m) cap,w',?_,⟨hlen,.inr ⟨g,cap,_,J,YI _,s3,hge,q4,⟨c0,c1,c2,by rw [Bw];exact c3⟩,?_⟩⟩,⟨s2.os,s2.tape,s2.output,s2.size,fun k hk hn=>s2.block k hk fun e=>hn (by rw [e];rfl)⟩,fun q hq=> .inl hq⟩
 ·simp [Builtin.append_,YW ht,sizeOf,typeInfo,hi,Builtin.lenOf,hge,hfc,Addr.add_lit,s1]
 have hcur:cur=cur.toList.toArray:=by simp
 rw [Nat.add_zero,hcur,D5 _ _ _ (by simp;omega),q6, <-hlen,W2, <-W2];exact List.take_left
theorem t6 {R:Rep α}{v2:Value}{xs ys:List α}{c2:Chunk}{sz by_ M:Nat}(i j:Nat)(hi:L[i]? =some (bd R e v xs))(hj:L[j]? =some c2)(he:HA R v2 ys c2)(hx:bl s x=some v)(hy:bl s y=some v2)(ht:P.underlying t=some (.slice e))(hz:rM P e sz by_=true)(hsz:R.sz=sz)(hM:Nat.ble M 1099511627776=true)(hby:Nat.ble (M*by_) 140737488355328=true)(hb:xs.length+ys.length<=M):OpX P s L ⟨d,.call ⟨.builtin .append, #[x,y], #[t,t]⟩,ty,pos,af,gd⟩ fun u L'=> ∃A n c,u=.slice A n c/\L'=L.set i (bd R e (.slice A n c) (xs++ys)):=fun ρ hρ Z w hw=>by
 have hbuilt:=fO (P:=P) (ρ:=ρ) (d:=d) (ty:=ty) (pos:=pos) (af:=af) (gd:=gd) (b:=.append) (xs:=[x,y]) (ats:= #[t,t]) (vs:=[v,v2]) (by simp [hρ x _ hx,hρ y _ hy]) w
 have hby':=YA hby
 have hM':=YA hM;unfold rM at hz
 cases hinfo:P.info? e with
 |none=>rw [hinfo] at hz;cases hz
 | some inf=>
  rw [hinfo] at hz;simp only [Y3] at hz;obtain ⟨⟨⟨q2,q3⟩,q4⟩,q5⟩:=hz
  cases hzz:inf.zero with
  |none=>rw [hzz] at q4;cases q4
  | some z=>
   rw [hzz] at q4;have e2:=Yy q2;have e3:=Yy q3;have e4:=Yy q4
   have e5:0<sz:=by have h6:1<=sz:=(by simpa [Nat.blt] using q5);omega
   have hsB:lg P e sz=true:=by unfold lg;rw [hinfo];exact q2
   subst hsz;have hw0:=hw;obtain ⟨T,S,hT⟩:=hw;have hc2:=hT.ok (aP hj);obtain ⟨vss1,g1,a6⟩:=hT.ok (aP hi);obtain ⟨A2,cap2,rfl,k2,k3,k4⟩:=he _ _ _ hc2;rcases a6 with ⟨g2,g3⟩|⟨a7,A0,rfl⟩
   rotate_left
   ·obtain rfl:xs=[]:=Xz a7;rcases Yz ys.length with h0|h0
    ·have hys:ys=[]:=Xz h0;subst hys;refine .inl ⟨.slice A0 0 0,w,L,?_,hw0,A0,0,0,J,?_⟩
     ·rw [hbuilt];simp only [builtin,YQ];have r1':(Builtin.append_ #[t,t] ty [Value.slice A0 0 0,.slice A2 ([]:List α).length cap2].toArray).run P w=.ok (.slice A0 0 0) w:=Cz ht hsB w;rw [r1'];rfl
     apply XA;intro q;by_cases e:i=q
     ·subst e;rw [XR (XO.1 hi).1,hi];rfl
     rw [XQ e]
    obtain ⟨b,o,vss2,rfl,k5,k6⟩:=k4 h0;have hm:ys.length*by_<=140737488355328:=YC (YF by_ (by simpa using hb)) hby';obtain ⟨v',w',r1,r2,r3⟩:=DM (ty:=ty) (A:=A0) w inf z R.sz by_ ht hinfo hzz e2 e3 e4 e5 ⟨b,o,none⟩ ys.length cap2 vss2.flatten (oE k5) (fun j u hj=>by rw [kz];exact k6 j u hj) (Xq.1 (vp k5)) h0 (by simp only [XZ] at hb;unfold maxLen;omega) hm
    have hsh: ∃A c,v'=.slice A ys.length c:=by
     rcases r2.2 with ⟨rfl,h9⟩|⟨g,cap,cur,rfl, -⟩
     ·omega
     exact ⟨_,cap,J⟩
    obtain ⟨A',c',hv'⟩:=hsh;refine .inl ⟨v',w',L.set i (bd R e v' ([]++ys)),?_,?_,A',_,c',hv',by rw [hv']⟩
    ·rw [hbuilt];simp only [builtin,YQ];have r1':(Builtin.append_ #[t,t] ty [Value.slice A0 0 0,.slice (some ⟨b,o,none⟩) ys.length cap2].toArray).run P w=.ok v' w':=r1;rw [r1'];rfl
    have hfin:SepL ((L++Z).set i (bd R e v' ([]++ys))) w':=by
     refine hT.upd (aP hi) (T':=fun q=>v'.ownBlock=some q) ⟨r3.os,r3.tape,r3.output,r3.size,fun q hq _=>r3.block q hq fun e=>by cases e⟩ (fun q hq=> .inr (World.ownsRow.lt r2 q hq).1) (fun q hq=>(World.ownsRow.lt r2 q hq).2) ?_;have hS:Agr S w w':=⟨r3.os,r3.tape,r3.output,r3.size,fun q hq _=>r3.block q hq fun e=>by cases e⟩;refine ⟨vss2,by rw [Y4];exact k5.imp fun _ _=>R.loc hS,.inl ⟨?_,fun _ h=>h⟩⟩;have r2':w'.ownsRow 0 e R.sz v' ys.length vss2.flatten:=⟨r2.1,r2.2.imp id fun ⟨g,cap,cur,q1,_,q3⟩=>⟨g,cap,cur,q1,YI _,q3⟩⟩;simpa using ownsX.of r2'
    rw [jQ Z hi] at hfin;exact hfin
   have hv: ∃A cap,v=.slice A xs.length cap:=by
    rcases g2.2 with ⟨rfl,h0⟩|⟨g,cap,cur,rfl, -⟩
    ·exact ⟨none,0,by rw [h0]⟩
    exact ⟨_,cap,J⟩
   rcases Yz ys.length with h0|h0
   ·-- nothing is appended
    have hys:ys=[]:=Xz h0;subst hys;obtain ⟨Av,capv,hv⟩:=hv
    have hset:L.set i (bd R e (.slice Av xs.length capv) (xs++ []))=L:=by
     rw [Xr, <-hv];apply XA;intro q;by_cases e:i=q
     ·subst e;rw [XR (XO.1 hi).1,hi]
     rw [XQ e]
    refine .inl ⟨v,w,L,?_,hw0,Av,_,capv,hv,hset.symm⟩;rw [hbuilt];simp only [builtin,YQ];have r1':(Builtin.append_ #[t,t] ty [v,.slice A2 ([]:List α).length cap2].toArray).run P w=.ok v w:=DN ht hsB w g2;rw [r1'];rfl
   obtain ⟨b,o,vss2,rfl,k5,k6⟩:=k4 h0;have hm:(xs.length+ys.length)*by_<=140737488355328:=YC (YF by_ hb) hby';obtain ⟨v',w',r1,r2,r3,hnew⟩:=P7 w inf z R.sz by_ (ty:=ty) ht hinfo hzz e2 e3 e4 e5 g2 ⟨b,o,none⟩ ys.length cap2 vss2.flatten (oE k5) (fun j u hj=>by rw [kz];exact k6 j u hj) (Xq.1 (vp k5)) h0 (by unfold maxLen;omega) hm
   have hsh: ∃A c,v'=.slice A (xs.length+ys.length) c:=by
    rcases r2.2 with ⟨rfl,h9⟩|⟨g,cap,cur,rfl, -⟩
    ·omega
    exact ⟨_,cap,J⟩
   obtain ⟨A',c',hv'⟩:=hsh;refine .inl ⟨v',w',L.set i (bd R e v' (xs++ys)),?_,?_,A',_,c',hv',by rw [hv']⟩
   ·rw [hbuilt];simp only [builtin,YQ];have r1':(Builtin.append_ #[t,t] ty [v,.slice (some ⟨b,o,none⟩) ys.length cap2].toArray).run P w=.ok v' w':=r1;rw [r1'];rfl
   have hfin:SepL ((L++Z).set i (bd R e v' (xs++ys))) w':=by
    refine hT.upd (aP hi) (T':=fun q=>v'.ownBlock=some q) ⟨r3.os,r3.tape,r3.output,r3.size,fun q hq hn=>r3.block q hq fun e=>hn (g3 q e.symm)⟩ (fun q hq=>(hnew q hq).elim (fun h=> .inl (g3 q h)) .inr) (fun q hq=>ownsX.lt r2 q hq) ?_;have hS:Agr S w w':=⟨r3.os,r3.tape,r3.output,r3.size,fun q hq hn=>r3.block q hq fun e=>hT.ro (g3 q e.symm) hn⟩;exact ⟨vss1++vss2,(g1.imp fun _ _=>R.loc hS).append (k5.imp fun _ _=>R.loc hS),.inl ⟨by rw [List.flatten_append,YX];exact r2,fun _ h=>h⟩⟩
   rw [jQ Z hi] at hfin;exact hfin
theorem aX {R:Rep α}{v2:Value}{xs ys:List α}{c2:Chunk}{sz by_:Nat}(i j:Nat)(hi:L[i]? =some (bd R e v xs))(hj:L[j]? =some c2)(he:HA R v2 ys c2)(hx:bl s x=some v)(hy:bl s y=some v2)(ht:P.underlying t=some (.slice e))(hz:rM P e sz by_=true)(hsz:R.sz=sz)(hby:Nat.ble by_ 127=true)(hb:xs.length+ys.length<=1099511627776):OpX P s L ⟨d,.call ⟨.builtin .append, #[x,y], #[t,t]⟩,ty,pos,af,gd⟩ fun u L'=> ∃A n c,u=.slice A n c/\L'=L.set i (bd R e (.slice A n c) (xs++ys)):=
 t6 (M:=1099511627776) i j hi hj he hx hy ht hz hsz (by decide) (by have h:=YA hby;apply Nat.ble_eq_true_of_le;omega) hb
end
end
section
open Go.RowKit
theorem CellsAt.left {w:World}{b o:Nat}{l m:W9}(h:CellsAt w b o (l++m)):CellsAt w b o l:=fun j u hj=>h j u (by rw [XH (XO.1 hj).1];exact hj)
theorem CellsAt.drop {w:World}{b o:Nat}{l:W9}(h:CellsAt w b o l)(k:Nat):CellsAt w b (o+k) (l.drop k):=fun j u hj=>by
 rw [XL] at hj;rw [Nat.add_assoc];exact h _ _ hj
theorem SlR.cut {R:Rep α}{w:World}{c:Nat}{xs:List α}(h:SlR R S w (.slice A n c) xs)(l m:Nat)(h1:l<=m)(h2:m<=xs.length):SlR R S w (.slice (mM A c l R.sz) (m - l) (c - l)) ((xs.drop l).take (m - l)):=by
 obtain ⟨A',c',e,g1,g2,g3⟩:=h
 injection e with e1 e2 e3
 subst e1 e2 e3
 have hlen:((xs.drop l).take (m - l)).length=m - l:=by rw [YY,XX];omega
 refine ⟨mM A c l R.sz,c - l,by rw [hlen],by omega,by omega,fun h0=> ?_⟩;rw [hlen] at h0;obtain ⟨b,o,vss,rfl,k1,k2,k3,k4⟩:=g3 I
 have hcl: ¬c=l:=by omega
 refine ⟨b,o+l*R.sz,(vss.drop l).take (m - l),?_,k1,k2,(k3.drop l).take _,?_⟩
 ·unfold mM;rw [if_neg hcl];simp [kz]
 have h5:=k4.drop (l*R.sz);rw [<-yR k3 l, <-Yq (m - l) (vss.drop l),List.flatten_append] at h5;exact h5.left
section
variable {s:bF}{L:W8}{d:Option Nat}
def Sh (ro rw:List Nat)(L:W8):W8:=ro.filterMap (fun i=>L[i]?)++rw.filterMap (fun i=>L[i]?)
def OE (keep:List Nat)(k:Nat)(L:W8):W8:=keep.filterMap (fun i=>L[i]?)++L.drop k
def OY (ro rw keep:List Nat)(k:Nat)(L:W8):Bool:=ro.all (fun i=>match L[i]? with|some c=>c.ro|none=>false)&&Gl (rw++keep) k&&Nat.ble k L.length
theorem bH (ro rw keep:List Nat)(k:Nat)(h:OY ro rw keep k L=true):Cv L (Sh ro rw L++OE keep k L):=fun Z w hw=>by
 unfold OY at h;simp only [Y3,Xq] at h;obtain ⟨⟨h1,h2⟩,h3⟩:=h;obtain ⟨T,S,hT⟩:=hw;have hro:=hT.ros.app;have hsel:=yq (rw++keep) k h2 h3;have hl':k<=L.length:=YA h3;obtain ⟨T',h4⟩:=hT.sel (rw++keep) k h2 (by simp;omega)
 have e:DL (rw++keep) k (L++Z)=(rw.filterMap (fun i=>L[i]?)++OE keep k L)++Z:=by
  have e1: ∀ix:List Nat,(∀i∈ix,i<L.length)->ix.filterMap (fun i=>(L++Z)[i]?)=ix.filterMap (fun i=>L[i]?):=by
   intro ix
   induction ix with
   |nil=>intro _;rfl
   |cons i r ih=>intro hi;have:=ih fun j hj=>hi j (by simp [hj]);simp only [List.filterMap_cons,XH (hi i (by simp)),this]
  unfold Gl at h2;simp only [Y3,Xq] at h2
  have h5: ∀i∈rw++keep,i<L.length:=fun i hi=>by have h6:i+1<=k:=YA (h2.1 i hi);omega
  unfold DL OE;rw [List.drop_append_of_le_length hl',e1 _ h5,List.filterMap_append];simp only [W2]
 rw [e] at h4
 obtain ⟨T'',h5⟩:=SepL.facts (ro.filterMap (fun i=>L[i]?)) h4 (fun c hc=>by
  obtain ⟨i,hi,hic⟩:=List.mem_filterMap.1 hc;have:=h1 i hi;rw [hic] at this
  exact hro i c hic this)
 refine ⟨T'',S,?_⟩;unfold Sh;simpa only [W2] using h5
theorem dq {vs:W9}{pre rest:W8}{R:Value->W8->Prop}(hc:Okc P f vs pre R)(hv:FN s xs=some vs)(hL:Cv L (pre++rest)):OpX P s L ⟨d,.call ⟨.value (.func f),xs.toArray,ats⟩,ty,pos,af,gd⟩ fun u L'=> ∃post,R u post/\L'=post++rest:=fun ρ hρ Z w hw=>by
 refine .inr (.inr (.inl ⟨f,vs.toArray,xD hc.cal (rG hρ hv) (hρ _ _ J),?_⟩))
 have h1:Sp (rest++Z) pre w:=by have:=hL Z w hw;unfold Sp at*;simpa only [W2] using this
 refine (hc.run _ w h1).mono ?_;rintro e w' ⟨v,post,rfl,h2,h3⟩;exact ⟨v,post++rest,J,by unfold Sp at*;simpa only [W2] using h2,post,h3,rfl⟩
def ij (c:Chunk):Prop:= ∀T S S' w,c.ok T S w->c.ok T S' w
theorem qv {sz:Nat}{en:α->W9}{h1:∀x,(en x).length=sz}{h2:∀x,(en x).all (·.oneCell')=true}{xs:List α}:ij (bd (Rep.flat sz en h1 h2) e v xs):=fun T S S' w ⟨vss,g1,g2⟩=>⟨vss,g1.imp fun _ _ h=>h,g2⟩
def xo (L:W8)(c:Chunk):Prop:= ∀T S w,SepT L T S w->c.ok (fun _=>False) (fun q=>q<w.heap.size) w
theorem dc {c:Chunk}(hi:L[i]? =some c)(hc:c.ro=true):xo L c:=fun T S w h=>c.mono (fun _ hq=>h.lts hq) (c.dup hc (h.ok hi))
theorem jw {R:Rep α}{xs:List α}(hi:L[i]? =some (bd R e v xs)):xo L (gK R v xs):=fun T S w h=>by
 obtain ⟨vss,h1,h2⟩:=h.ok hi;rcases h2 with ⟨h2, -⟩|⟨h0,A,rfl⟩
 ·rcases h2.2 with ⟨rfl,h0⟩|⟨g,cap,cur,rfl,g1,g2,g3,g4,g5,g6⟩
  ·exact ⟨none,0,by rw [h0],by omega,by omega,fun h=>absurd h I⟩
  exact ⟨_,cap,J,g3,by unfold maxLen at g4;omega,fun _=>⟨g,0,vss,rfl,Blk.lt (t:=e) (cs:=cur) g2,Blk.lt (t:=e) (cs:=cur) g2,h1.imp fun _ _=>R.mono fun _ hq=>h.lts hq,mF (cap:=cap) g2 g6⟩⟩
 exact ⟨A,0,by rw [h0],by omega,by omega,fun h=>absurd h I⟩
theorem Fb {vs:W9}{pre:W8}{R:Value->W8->Prop}(hc:Okc P f vs pre R)(hp:∀c∈pre,xo L c)(hfr:∀v post,R v post-> ∀c∈post,ij c): ∀Z w,Sp Z L w->Calls P f vs.toArray w fun e w'=> ∃v post,e=.returned v/\Sp Z (post++L) w'/\R v post:=fun Z w hw=>by
 obtain ⟨T,S,hT⟩:=hw;have hTL:SepT L T S w:=⟨fun hi=>hT.ok (aP hi),hT.apart,hT.ro,hT.lt,hT.lts⟩
 have h1:Sp [Gk w] pre w:=by
  refine ⟨fun _ _=>False,fun q=>q<w.heap.size,?_,fun _ h=>h.elim,fun h=>h.elim,fun h=>h.elim,fun h=>h⟩;intro i c hi;rcases YE i pre.length with hlt|hge
  ·rw [XH hlt] at hi;exact hp c (Yd hi) T S w hTL
  rw [XI hge] at hi
  have hc:c=Gk w:=by
   cases hk:i - pre.length with
   |zero=>rw [hk] at hi;simpa using hi.symm
   |succ k=>rw [hk] at hi;simp at hi
  subst hc;exact ⟨Ext.refl w,fun _ h=>h⟩
 refine (hc.run _ w h1).mono ?_;rintro e w' ⟨v,post,rfl,⟨T',S',h2⟩,h3⟩;have hold:(Gk w).ok (T' post.length) S' w':=h2.ok (by simp);obtain ⟨hx,hS⟩:=hold;refine ⟨v,post,J,⟨fun i q=>if i<post.length then T' i q else T (i - post.length) q,S,?_,?_,?_,?_,fun hq=>YD (hT.lts hq) hx.size⟩,h3⟩
 ·intro i c hi;rw [W2] at hi;rcases YE i post.length with hlt|hge
  ·rw [XH hlt] at hi;have h4:=h2.ok (show (post++ [Gk w])[i]? =some c by rw [XH hlt];exact hi);simp only [hlt,if_true];exact hfr v post h3 c (Yd hi) _ _ _ _ h4
  rw [XI hge] at hi;simp only [show¬i<post.length by omega,if_false];exact c.loc (Agr.of_ext hx) (hT.ok hi)
 ·intro i j q hij h4 h5;by_cases e1:i<post.length<;>by_cases e2:j<post.length
  ·simp only [e1,e2,if_true] at h4 h5;exact h2.apart hij h4 h5
  ·simp only [e1,e2,if_true,if_false] at h4 h5;exact h2.ro h4 (hS q (hT.lt h5))
  ·simp only [e1,e2,if_true,if_false] at h4 h5;exact h2.ro h5 (hS q (hT.lt h4))
  simp only [e1,e2,if_false] at h4 h5;exact hT.apart I h4 h5
 ·intro i q h4 h5;by_cases e1:i<post.length
  ·simp only [e1,if_true] at h4;exact h2.ro h4 (hS q (hT.lts h5))
  simp only [e1,if_false] at h4;exact hT.ro h4 h5
 intro i q h4;by_cases e1:i<post.length
 ·simp only [e1,if_true] at h4;exact h2.lt h4
 simp only [e1,if_false] at h4;exact YD (hT.lt h4) hx.size
theorem aH {vs:W9}{pre:W8}{R:Value->W8->Prop}(hc:Okc P f vs pre R)(hv:FN s xs=some vs)(hp:∀c∈pre,xo L c)(hfr:∀v post,R v post-> ∀c∈post,ij c):OpX P s L ⟨d,.call ⟨.value (.func f),xs.toArray,ats⟩,ty,pos,af,gd⟩ fun u L'=> ∃post,R u post/\L'=post++L:=fun ρ hρ Z w hw=>by
 refine .inr (.inr (.inl ⟨f,vs.toArray,xD hc.cal (rG hρ hv) (hρ _ _ J),?_⟩));refine (Fb hc hp hfr Z w hw).mono ?_;rintro e w' ⟨v,post,rfl,h2,h3⟩;exact ⟨v,post++L,J,h2,post,h3,J⟩
theorem au {p:Chunk->Prop}: ∀c∈([]:W8),p c:=fun _ h=>by cases h
theorem t5 {p:Chunk->Prop}{c:Chunk}{l:W8}(h1:p c)(h2:∀c∈l,p c): ∀d∈c::l,p d:=fun d h=>by
 rcases X8.1 h with rfl|h
 ·exact h1
 exact h2 d h
end
section
variable {X:Cx}{R:Value->W8->Prop}{s:bF}{L L2:W8}
theorem od {t:Nat}(hr:fn.results= #[.tmp t])(hl:jP s t=some v)(hc:Cv L L2)(h:R v L2):Oh X fn R .ret s L:=fun a ha=>⟨v,L2,fun _ _ _=>by unfold results;rw [hr];simpa using ha.at_ t v hl,hc,h⟩
theorem PG {t u:Nat}{x:Value}(hr:fn.results= #[.tmp t,.tmp u])(hl:jP s t=some v)(hm:jP s u=some x)(hc:Cv L L2)(h:R (.tuple #[v,x]) L2):Oh X fn R .ret s L:=fun a ha=>⟨_,L2,fun _ _ _=>by unfold results;rw [hr];simpa using And.intro (ha.at_ t v hl) (ha.at_ u x hm),hc,h⟩
end
def aq (xs:List α)(i:Int):Option α:=if i<0 then none else xs[i.toNat]?
theorem jZ {xs:List α}{i:Int}{x:α}(h:aq xs i=some x):0<=i/\i<xs.length/\xs[i.toNat]? =some x:=by
 unfold aq at h;split at h
 ·cases h
 have:=(XO.1 h).1;exact ⟨by omega,by omega,h⟩
def aL {ρ:Type}(b:Prop)[Decidable b](m:Option ρ):Option ρ:=if b then m else none
theorem ae {ρ:Type}{b:Prop}[Decidable b]{m:Option ρ}{r:ρ}(h:aL b m=some r):b/\m=some r:=by
 unfold aL at h;split at h
 ·exact ⟨‹_›,h⟩
 cases h
abbrev in64 (z:Int):Prop:= -9223372036854775808<=z/\z<=9223372036854775807
abbrev cF (n:Nat):Prop:=n<=1099511627776
theorem aa {m:Option α}{f:α->Option β}{r:β}(h:m.bind f=some r): ∃x,m=some x/\f x=some r:=Option.bind_eq_some_iff.1 h
theorem cG {ρ:Type}{b:Bool}{x y r:Option ρ}(hb:b=true)(h:(bif b then x else y)=r):x=r:=by rw [hb] at h;exact h
theorem cH {ρ:Type}{b:Bool}{x y r:Option ρ}(hb:b=false)(h:(bif b then x else y)=r):y=r:=by rw [hb] at h;exact h
end
section
open Go.RowKit
section
variable {r:Option Nat}
theorem HQ (r:Option Nat)(ρ:Operand->Value)(hn:eZ o=true):o.semAt (DX r).round ρ=execOp ρ o:=Oper.semAt_eq _ _ _ fun c hc=>by unfold eZ at hn;rw [hc] at hn;cases hn
theorem Lu (hi:ops[i]? =some o)(hn:eZ o=true)(hy:YieldsC P ops C o v a){K:Act->World->Prop}{w:World}(hC:C w)(h:K (a.put o.dst v) w):wpOpIn (DX r) 0 P ops Q i K a w:=by
 unfold Go.wpOpIn;simp only [hi];rcases hy with ⟨hw,hv⟩|⟨hw,rfl⟩
 ·simp only [hw,if_true,Oper.wpIn,HQ r _ hn,hv w hC,Oper.uponIn];exact ⟨fun _ _=>trivial,h⟩
 simp only [hw,Xh,if_false];exact ⟨fun _ _=>trivial,h⟩
theorem IL (hj:ops[j]? =some oj)(hnj:eZ oj=true)(hap:oi.apart ops oj=true)(hsi:∀cs b,oi.op≠ .select cs b)(hsj:∀cs b,oj.op≠ .select cs b)(hQ:∀c a w, ¬Q (.panic c) a w){K:Act->World->Prop}{w:World}(hy:YieldsC P ops C oi v a)(h:wpOpIn (DX r) 0 P ops Q j (fun a w=>C w/\K a w) (a.put oi.dst v) w):wpOpIn (DX r) 0 P ops Q j (fun a' w'=>C w'/\YieldsC P ops C oi v a'/\K (a'.put oi.dst v) w') a w:=by
 obtain ⟨h1,h2,h3⟩:=Oper.apart_spec hap
 have keep: ∀(a:Act),YieldsC P ops C oi v a-> ∀u,YieldsC P ops C oi v (a.put oj.dst u):=fun a hy u=>hy.of_same (execOp_put oi hsi a oj.dst u h3) (wanted_put oi a oj.dst u h3)
 have keepD: ∀d,YieldsC P ops C oi v {a with defers:=d::a.defers}:=fun d=>hy.of_same rfl rfl
 unfold wpOpIn at*;simp only [hj] at*;rw [wanted_put oj a oi.dst v h1] at h;split
 ·rename_i hw
  simp only [hw,if_true] at h;unfold Oper.wpIn at*;refine ⟨fun _ _=>trivial,?_⟩;have h:=h.2;rw [HQ r _ hnj,execOp_put oj hsj a oi.dst v h1] at h;rw [HQ r _ hnj];generalize (execOp a.eval oj).run P w=rr at*
  cases rr with
  | ok x w'=>
   cases x<;>simp only [Oper.uponIn] at h⊢
   case value u=>exact ⟨h.1,keep a hy u,by rw [<-Act.put_comm a v u h2];exact h.2⟩
   case skip=>exact ⟨h.1,keep a hy _,by rw [<-Act.put_comm a v undef h2];exact h.2⟩
   case defer d=>
    refine ⟨h.1,keep _ (keepD d) _,?_⟩;rw [<-Act.put_comm _ v undef h2, <-Act.put_defers];exact h.2
   case enter f args=>
    refine ⟨h.1,CallsIn.mono h.2 fun e w'' he=> ?_⟩
    cases e with
    |returned u=>exact ⟨he.1,keep a hy u,by rw [<-Act.put_comm a v u h2];exact he.2⟩
    |panicked c=>exact absurd he (hQ _ _ _)
    |outgrown=>exact he
   case row row args=>exact ⟨h.1,RowsIn.mono h.2 fun u w'' he=>⟨he.1,keep a hy u,by rw [<-Act.put_comm a v u h2];exact he.2⟩⟩
   case round l f tmps assign body=>
    refine ⟨h.1,RoundIn.mono h.2 fun e w'' he=> ?_⟩
    cases e with
    |returned u=>exact ⟨he.1,keep a hy u,by rw [<-Act.put_comm a v u h2];exact he.2⟩
    |panicked c=>exact absurd he (hQ _ _ _)
    |outgrown=>exact he
  |halt x w'=>
   cases x<;>simp only [Oper.uponIn] at h⊢
   case panic u=>exact absurd h (hQ _ _ _)
 rename_i hw
 simp only [hw] at h;exact ⟨fun _ _=>trivial,h.2.1,keep a hy _,by rw [<-Act.put_comm a v undef h2];exact h.2.2⟩
def Lo (ops:Array Oper)(listed:Array Bool)(i:Nat):Bool:=match ops[i]? with
 |some o=>(List.range listed.size).all fun j=> !listed.getD j false||o.after.any fun e=>Region.binds .any e&&e.on==j
 |none=>false
theorem R7 (hj:ops[j]? =some oj)(hi:i<listed.size)(hno:∀e∈oj.after,Region.binds .any e=true->e.on≠i): ¬Lo ops (listed.setIfInBounds i true) j=true:=by
 unfold Lo;rw [hj];intro h;have h1:=Xq.1 h i (by simpa using hi)
 have h2:(listed.setIfInBounds i true).getD i false=true:=by simp [hi]
 rw [h2] at h1;simp only [Bool.not_true,Bool.false_or,Array.any_eq_true,Y3,beq_iff_eq] at h1;obtain ⟨k,hk,h3,h4⟩:=h1;exact hno _ (Array.getElem_mem hk) h3 h4
def HD (r:Option Nat)(P:Program)(ops:Array Oper)(Q:Exit->Act->World->Prop)(C:World->Prop):Nat->Array Bool->Act->World->Prop
 |0,listed,a,w=>Region.ready .any ops listed=[]/\Q .normal a w
 |fuel+1,listed,a,w=>(Region.ready .any ops listed=[]->Q .normal a w)/\ ∀i∈Region.ready .any ops listed,wpOpIn (DX r) 0 P ops Q i (fun a' w'=>(C w'/\HD r P ops Q C fuel (listed.setIfInBounds i true) a' w')\/(Lo ops listed i=true/\wpAnyIn (DX r) 0 P .any ops Q fuel (listed.setIfInBounds i true) a' w')) a w
theorem AP: ∀(fuel:Nat) (listed:Array Bool) (a:Act) (w:World),HD r P ops Q C fuel listed a w->wpAnyIn (DX r) 0 P .any ops Q fuel listed a w
 |0,_,_,_,h=>h
 |fuel+1,listed,a,w,h=>⟨h.1,fun i hi=>wpOpIn_mono (fun a w hh=>hh.elim (fun hh=>AP fuel _ a w hh.2) (fun hh=>hh.2)) (h.2 i hi)⟩
theorem Cq {C':World->Prop}(hC:∀w,C' w->C w): ∀(fuel:Nat) (listed:Array Bool) (a:Act) (w:World),HD r P ops Q C' fuel listed a w->HD r P ops Q C fuel listed a w
 |0,_,_,_,h=>h
 |fuel+1,listed,a,w,h=>⟨h.1,fun i hi=>wpOpIn_mono (fun a w hh=>hh.imp (fun hh=>⟨hC _ hh.1,Cq hC fuel _ a w hh.2⟩) id) (h.2 i hi)⟩
theorem Ab (hi:ops[i]? =some oi)(hni:∀(j:Nat) (o:Oper),ops[j]? =some o->eZ o=true)(hsel:∀(j:Nat) (o:Oper) cs b,ops[j]? =some o->o.op≠ .select cs b)(hQ:∀c a w, ¬Q (.panic c) a w):
  ∀(fuel:Nat) (listed:Array Bool) (a:Act) (w:World),C w->
   (∀j oj,ops[j]? =some oj->j≠i->listed.getD j true=false->(∀e∈oj.after,Region.binds .any e=true->e.on≠i)->oi.apart ops oj=true)->
   i∈Region.ready .any ops listed->YieldsC P ops C oi v a->
   HD r P ops Q C fuel (listed.setIfInBounds i true) (a.put oi.dst v) w->HD r P ops Q C (fuel+1) listed a w:=by
 intro fuel
 induction fuel with
 |zero=>
  intro listed a w hC _ hr hy H;refine ⟨fun h=>(by rw [h] at hr;cases hr),fun j hj=> ?_⟩;by_cases hji:j=i
  ·subst hji;exact Lu hi (hni _ _ hi) hy hC (.inl ⟨hC,H⟩)
  have:=ready_mono hj hji;rw [H.1] at this;cases this
 | succ fuel ih=>
  intro listed a w hC hfree hr hy H;refine ⟨fun h=>(by rw [h] at hr;cases hr),fun j hj=> ?_⟩;by_cases hji:j=i
  ·subst hji;exact Lu hi (hni _ _ hi) hy hC (.inl ⟨hC,H⟩)
  have h1:=H.2 j (ready_mono hj hji);obtain ⟨hjun,oj,hoj,hall⟩:=mem_ready.1 hj
  have hnot: ∀e∈oj.after,Region.binds .any e=true->e.on≠i:=fun e he hb heq=>by
   have h1:=hall e he hb;have h0:=(mem_ready.1 hr).1;rw [heq] at h1;rcases YE i listed.size with h'|h'
   ·simp [h'] at h0 h1;rw [h0] at h1;cases h1
   simp [Xd h'] at h1
  have hlt:i<listed.size:=by
   have h0:=(mem_ready.1 hr).1;rcases YE i listed.size with h'|h'
   ·exact h'
   simp [Xd h'] at h0
  replace h1:=wpOpIn_mono (fun a w hh=>hh.resolve_right fun hb=>R7 hoj hlt hnot hb.1) h1;have h2:=IL hoj (hni _ _ hoj) (hfree j oj hoj hji hjun hnot) (fun cs b=>hsel i oi cs b hi) (fun cs b=>hsel j oj cs b hoj) hQ hy h1
  have hfree': ∀k ok,ops[k]? =some ok->k≠i->(listed.setIfInBounds j true).getD k true=false->
    (∀e∈ok.after,Region.binds .any e=true->e.on≠i)->oi.apart ops ok=true:=fun k ok hk hki hun hno=>by
   refine hfree k ok hk hki ?_ hno;by_cases hjk:j=k
   ·subst hjk;exact hjun
   rw [getD_set_ne true hjk] at hun;exact hun
  refine wpOpIn_mono (fun a' w' h3=> .inl ⟨h3.1,ih (listed.setIfInBounds j true) a' w' h3.1 hfree' (ready_mono hr (Ne.symm hji)) h3.2.1 ?_⟩) h2;rw [Array.setIfInBounds_comm _ _ hji];exact h3.2.2
end
def CM (M:W8)(w:World):Prop:= ∃Z,Sp Z M w
def zT (K:K3):K3:=fun e s L=>e=.normal/\K .normal s L
def O0 (ops:Array Oper):Bool:=ops.all eZ
def mN (X:Cx)(ops:Array Oper)(K:K3)(M:W8)(fuel:Nat)(listed:Array Bool)(s:bF)(L:W8):Prop:=Cv L M-> ∀(H:W8) (Ds:List Nat) (a:Act) (w:World),Fx X s a->a.defers=Ds.map wW->Sp (Ds.map cA++H) L w->HD X.r X.P ops (yG X H (zT K)) (CM M) fuel listed a w
def Oi (ops:Array Oper)(listed:Array Bool)(i:Nat):Bool:=O0 ops&&Region.noSelect ops&&Region.free .any ops listed i&&(Region.ready .any ops listed).contains i
theorem zb (h:O0 ops=true)(j:Nat)(o:Oper)(hj:ops[j]? =some o):eZ o=true:=Array.all_eq_true_iff_forall_mem.1 h o (Array.mem_of_getElem? hj)
section
variable {X:Cx}{K:K3}{M:W8}{s:bF}{L:W8}{d:Nat}{op:Op}
theorem sF (i:Nat)(hi:ops[i]? =some ⟨some d,op,ty,pos,af,gd⟩)(hk:Oi ops listed i=true)(h:Rd X.P s M ⟨some d,op,ty,pos,af,gd⟩ v)(hg:aD ops s ⟨some d,op,ty,pos,af,gd⟩=some true)(hd:Nat.ble (d+1) X.n=true)(k:mN X ops K M fuel (listed.setIfInBounds i true) ((d,v)::s) L):mN X ops K M (fuel+1) listed s L:=by
 intro hc H Ds a w ha hds hw;unfold Oi at hk;simp only [Y3] at hk;obtain ⟨⟨⟨h0,h1⟩,h2⟩,h3⟩:=hk;refine Ab hi (zb h0) (Region.noSelect_spec h1) (fun c a w ⟨_,_,_,_,_,_,he,_⟩=>(by cases he)) fuel listed a w ⟨_,hc _ _ hw⟩ (Region.free_spec hi h2) (by simpa using h3) (.inl ⟨fg ha hg,fun w ⟨Z,hZ⟩=>h Z w hZ a.eval (fun x u hx=>ha.eval hx) w J⟩) ?_;exact k hc H Ds _ _ (ha.put v (YA hd)) hds hw
theorem io (i:Nat)(hi:ops[i]? =some ⟨some d,op,ty,pos,af,gd⟩)(hk:Oi ops listed i=true)(h:Ev X.P s (fun _=>True) ⟨some d,op,ty,pos,af,gd⟩ v)(hg:aD ops s ⟨some d,op,ty,pos,af,gd⟩=some true)(hd:Nat.ble (d+1) X.n=true)(k:mN X ops K M fuel (listed.setIfInBounds i true) ((d,v)::s) L):mN X ops K M (fuel+1) listed s L:=sF i hi hk (fun _ _ _ ρ hρ w _=>h ρ hρ w trivial) hg hd k
theorem iM (i:Nat)(hi:ops[i]? =some ⟨some d,op,ty,pos,af,gd⟩)(hk:Oi ops listed i=true)(hg:aD ops s ⟨some d,op,ty,pos,af,gd⟩=some false)(hd:Nat.ble (d+1) X.n=true)(k:mN X ops K M fuel (listed.setIfInBounds i true) ((d,undef)::s) L):mN X ops K M (fuel+1) listed s L:=by
 intro hc H Ds a w ha hds hw;unfold Oi at hk;simp only [Y3] at hk;obtain ⟨⟨⟨h0,h1⟩,h2⟩,h3⟩:=hk;refine Ab hi (zb h0) (Region.noSelect_spec h1) (fun c a w ⟨_,_,_,_,_,_,he,_⟩=>(by cases he)) fuel listed a w ⟨_,hc _ _ hw⟩ (Region.free_spec hi h2) (by simpa using h3) (.inr ⟨fg ha hg,J⟩) ?_;exact k hc H Ds _ _ (ha.put undef (YA hd)) hds hw
def J2 (X:Cx)(ops:Array Oper)(K:K3)(M:W8)(fuel:Nat)(listed:Array Bool)(s:bF)(L:W8)(i:Nat):Prop:=Cv L M-> ∀(H:W8) (Ds:List Nat) (a:Act) (w:World),Fx X s a->a.defers=Ds.map wW->Sp (Ds.map cA++H) L w->wpOpIn (DX X.r) 0 X.P ops (yG X H (zT K)) i (fun a' w'=>(CM M w'/\HD X.r X.P ops (yG X H (zT K)) (CM M) fuel (listed.setIfInBounds i true) a' w')\/(Lo ops listed i=true/\wpAnyIn (DX X.r) 0 X.P .any ops (yG X H (zT K)) fuel (listed.setIfInBounds i true) a' w')) a w
theorem Lz {R:Value->W8->Prop}(hi:ops[i]? =some o)(h:OpX X.P s L o R)(hn:eZ o=true)(hg:aD ops s o=some true)(hd:Hl X.n o.dst=true)(k:∀v L',R v L'-> ∃M',Cv L' M'/\Cv M' M/\mN X ops K M' fuel (listed.setIfInBounds i true) (putE o.dst v s) L'):J2 X ops K M fuel listed s L i:=by
 intro hc H Ds a w ha hds hw;unfold wpOpIn;rw [hi];simp only [fg ha hg,if_true]
 refine h.wpIn hn ha hw fun v L' w' h1 h2=> ?_
 obtain ⟨M',h3,h4,h5⟩:=k v L' h1;exact .inl ⟨⟨_,h4 _ _ (h3 _ _ h2)⟩,Cq (fun w ⟨Z,hZ⟩=>⟨Z,h4 _ _ hZ⟩) _ _ _ _ (h5 h3 H Ds _ _ (ha.putE v hd) ((put_defers _ _ _).trans hds) h2)⟩
theorem SD (i:Nat){R:Value->W8->Prop}(hi:ops[i]? =some o)(hr:Region.ready .any ops listed=[i])(h:OpX X.P s L o R)(hn:eZ o=true)(hg:aD ops s o=some true)(hd:Hl X.n o.dst=true)(k:∀v L',R v L'-> ∃M',Cv L' M'/\Cv M' M/\mN X ops K M' fuel (listed.setIfInBounds i true) (putE o.dst v s) L'):mN X ops K M (fuel+1) listed s L:=
 fun hc H Ds a w ha hds hw=>⟨fun h=>absurd (hr.symm.trans h) (by simp),fun j hj=>by
  rw [hr,Yh] at hj;subst hj
  exact Lz hi h hn hg hd k hc H Ds a w ha hds hw⟩
theorem Qc (i:Nat){R:Value->W8->Prop}(hi:ops[i]? =some o)(hr:Region.ready .any ops listed=[i])(hb:Lo ops listed i=true)(h:OpX X.P s L o R)(hn:eZ o=true)(hg:aD ops s o=some true)(hd:Hl X.n o.dst=true)(k:∀v L',R v L'->mN X ops K L' fuel (listed.setIfInBounds i true) (putE o.dst v s) L'):mN X ops K M (fuel+1) listed s L:=
 fun hc H Ds a w ha hds hw=>⟨fun h=>absurd (hr.symm.trans h) (by simp),fun j hj=>by
  rw [hr,Yh] at hj;subst hj;unfold wpOpIn;rw [hi];simp only [fg ha hg,if_true]
  refine h.wpIn hn ha hw fun v L' w' h1 h2=> ?_
  exact .inr ⟨hb,AP _ _ _ _ (k v L' h1 (ad _) H Ds _ _ (ha.putE v hd) ((put_defers _ _ _).trans hds) h2)⟩⟩
theorem oA (i j:Nat)(hr:Region.ready .any ops listed=[i,j])(h1:J2 X ops K M fuel listed s L i)(h2:J2 X ops K M fuel listed s L j):mN X ops K M (fuel+1) listed s L:=
 fun hc H Ds a w ha hds hw=>⟨fun h=>absurd (hr.symm.trans h) (by simp),fun q hq=>by
  rw [hr] at hq;simp only [X8,List.not_mem_nil,or_false] at hq;rcases hq with rfl|rfl
  ·exact h1 hc H Ds a w ha hds hw
  ·exact h2 hc H Ds a w ha hds hw⟩
theorem bq (hr:Region.ready .any ops listed=[])(h:K .normal s L):mN X ops K M fuel listed s L:=by
 intro hc H Ds a w ha hds hw;have hq:yG X H (zT K) .normal a w:=⟨s,L,Ds,ha,hds,hw,rfl,h⟩
 cases fuel with
 |zero=>exact ⟨hr,hq⟩
 |succ n=>exact ⟨fun _=>hq,by rw [hr];simp⟩
theorem qF {t:bF}{L':W8}(h:mN X ops K M fuel listed t L')(hs:AO s t)(hl:Cv L L')(hm:Cv L' M):mN X ops K M fuel listed s L:=fun _ H Ds a w ha hds hw=>h hm H Ds a w (ha.sub hs) hds (hl _ _ hw)
def pW (l:Array Bool)(ix:List Nat):Array Bool:=ix.foldl (fun l i=>l.setIfInBounds i true) l
theorem zo (d:Nat)(hl:jP s d=some (.bool g))(h1:g=true->mN X ops K M fuel listed s L)(h2:g=false->mN X ops K M fuel listed s L):mN X ops K M fuel listed s L:=by
 cases g with
 |true=>exact h1 rfl
 |false=>exact h2 rfl
theorem kJ {L':W8}(hl:Cv L L')(hm:Cv L' M)(h:mN X ops K M fuel listed s L'):mN X ops K M fuel listed s L:=qF h bQ hl hm
theorem cv_tl {c:Chunk}:Cv (c::L) L:=fun Z w h=>by
 have:=SepL.pick (L':=L++Z) h (· +1) (fun j c hj=>by simpa using hj) (fun i j _ _ e=>by omega);exact this
theorem bh {id:Nat}(hm:X.P.follows .mixedOrders=true)(M:W8)(hM:Cv L M)(h:mN X l.toArray K M l.length (Array.replicate l.length false) s L):Wq X (.region id l.toArray true) K s L:=by
 intro H Ds a w ha hds hw;have hw1:Sp (Ds.map cA++H) L {w with drawn:=w.drawn+1}:=SepL.same hw ⟨rfl,rfl,rfl,YB _,fun _ _ _=>rfl⟩;have h1:=AP _ _ _ _ (h hM H Ds a _ ha hds hw1);refine wpIn_mono (wpIn_region_any hm (by simpa using h1)) ?_;rintro e a' w' ⟨s',L',Ds',g1,g2,g3,rfl,g4⟩;exact ⟨s',L',Ds',g1,g2,g3,g4⟩
end
end
section
open Go.RowKit
section
variable {X:Cx}{K:K3}{s:bF}{L:W8}{rest:List Oper}{d:Nat}{op:Op}
theorem Cp {R:Value->W8->Prop}(h:OpX X.P s L ⟨some d,op,ty,pos,af,gd⟩ R)(hn:eZ ⟨some d,op,ty,pos,af,gd⟩=true)(hg:aD ops s ⟨some d,op,ty,pos,af,gd⟩=some true)(hd:Nat.ble (d+1) X.n=true)(k:∀v L',R v L'->bm X ops rest K ((d,v)::s) L'):bm X ops (⟨some d,op,ty,pos,af,gd⟩::rest) K s L:=Sc h hn hg hd k
theorem SF {R:Value->W8->Prop}(h:OpX X.P s L ⟨none,op,ty,pos,af,gd⟩ R)(hn:eZ ⟨none,op,ty,pos,af,gd⟩=true)(hg:aD ops s ⟨none,op,ty,pos,af,gd⟩=some true)(k:∀v L',R v L'->bm X ops rest K s L'):bm X ops (⟨none,op,ty,pos,af,gd⟩::rest) K s L:=Sc h hn hg rfl k
theorem pt {M:W8}(i:Nat){R:Value->W8->Prop}(hi:ops[i]? =some ⟨some d,op,ty,pos,af,gd⟩)(hr:Region.ready .any ops listed=[i])(h:OpX X.P s L ⟨some d,op,ty,pos,af,gd⟩ R)(hn:eZ ⟨some d,op,ty,pos,af,gd⟩=true)(hg:aD ops s ⟨some d,op,ty,pos,af,gd⟩=some true)(hd:Nat.ble (d+1) X.n=true)(k:∀v L',R v L'-> ∃M',Cv L' M'/\Cv M' M/\mN X ops K M' fuel (listed.setIfInBounds i true) ((d,v)::s) L'):mN X ops K M (fuel+1) listed s L:=SD i hi hr h hn hg hd k
theorem TJ {M:W8}(i:Nat){R:Value->W8->Prop}(hi:ops[i]? =some ⟨none,op,ty,pos,af,gd⟩)(hr:Region.ready .any ops listed=[i])(h:OpX X.P s L ⟨none,op,ty,pos,af,gd⟩ R)(hn:eZ ⟨none,op,ty,pos,af,gd⟩=true)(hg:aD ops s ⟨none,op,ty,pos,af,gd⟩=some true)(k:∀v L',R v L'-> ∃M',Cv L' M'/\Cv M' M/\mN X ops K M' fuel (listed.setIfInBounds i true) s L'):mN X ops K M (fuel+1) listed s L:=SD i hi hr h hn hg rfl k
theorem IJ {M:W8}(i:Nat){R:Value->W8->Prop}(hi:ops[i]? =some ⟨some d,op,ty,pos,af,gd⟩)(hr:Region.ready .any ops listed=[i])(hb:Lo ops listed i=true)(h:OpX X.P s L ⟨some d,op,ty,pos,af,gd⟩ R)(k:∀v L',R v L'->mN X ops K L' fuel (listed.setIfInBounds i true) ((d,v)::s) L')(hn:eZ ⟨some d,op,ty,pos,af,gd⟩=true:=by rfl)(hg:aD ops s ⟨some d,op,ty,pos,af,gd⟩=some true:=by rfl)(hd:Nat.ble (d+1) X.n=true:=by rfl):mN X ops K M (fuel+1) listed s L:=Qc i hi hr hb h hn hg hd k
theorem gI {M:W8}(i:Nat){R:Value->W8->Prop}(hi:ops[i]? =some ⟨none,op,ty,pos,af,gd⟩)(hr:Region.ready .any ops listed=[i])(hb:Lo ops listed i=true)(h:OpX X.P s L ⟨none,op,ty,pos,af,gd⟩ R)(k:∀v L',R v L'->mN X ops K L' fuel (listed.setIfInBounds i true) s L')(hn:eZ ⟨none,op,ty,pos,af,gd⟩=true:=by rfl)(hg:aD ops s ⟨none,op,ty,pos,af,gd⟩=some true:=by rfl):mN X ops K M (fuel+1) listed s L:=Qc i hi hr hb h hn hg rfl k
theorem bL {M:W8}{R:Value->W8->Prop}(hi:ops[i]? =some ⟨some d,op,ty,pos,af,gd⟩)(h:OpX X.P s L ⟨some d,op,ty,pos,af,gd⟩ R)(hn:eZ ⟨some d,op,ty,pos,af,gd⟩=true)(hg:aD ops s ⟨some d,op,ty,pos,af,gd⟩=some true)(hd:Nat.ble (d+1) X.n=true)(k:∀v L',R v L'-> ∃M',Cv L' M'/\Cv M' M/\mN X ops K M' fuel (listed.setIfInBounds i true) ((d,v)::s) L'):J2 X ops K M fuel listed s L i:=Lz hi h hn hg hd k
theorem fd (k pd:Nat)(b:Bool)(h1:bm X ops (l.take k) (uU ((pd,.bool b)::s) L) s L)(h2:bm X ops (l.drop k) K ((pd,.bool b)::s) L):bm X ops l K s L:=UN k _ _ h1 h2
theorem am {x y:Code}(Fam:bF->W8->Prop)(h1:Wq X x (nx (fun s L=> ∃s2 L2,Fam s2 L2/\AO s s2/\Cv L L2) K) s L)(h2:∀s2 L2,Fam s2 L2->Wq X y K s2 L2):Wq X (.seq x y) K s L:=
 aA (Qj h1 fun e s L h=>by
  cases e with
  |normal=>obtain ⟨s2,L2,g1,g2,g3⟩:=h;exact gw (h2 s2 L2 g1) g2 g3
  |_=>exact h)
theorem iX (Fam:Nat->bF->W8->Prop)(m0:Nat)(s0:bF)(L0:W8)(h0:Fam m0 s0 L0)(hs:AO s s0)(hl:Cv L L0)(round:∀m s2 L2,Fam m s2 L2->Wq X c (nx (fun s' L'=> ∃m' s3 L3,m'<m/\Fam m' s3 L3/\AO s' s3/\Cv L' L3) K) s2 L2):Wq X (.loop c) K s L:=
 TO (ι:=bF×W8) (fun i=>i.1) (fun i=>i.2) (fun m i=>Fam m i.1 i.2) m0 (s0,L0) h0 hs hl fun m i hi=>Qj (round m i.1 i.2 hi) fun e s L h=>by
  cases e with
  |normal=>obtain ⟨m',s3,L3,h1,h2,h3,h4⟩:=h;exact ⟨m',(s3,L3),h1,h2,h3,h4⟩
  |_=>exact h
end
section
variable {s:bF}{d:Option Nat}
theorem C4 {u:TypeId}{a b:Bool}(hx:bl s x=some (.bool a))(hy:bl s y=some (.bool b))(ht:P.underlying t=some .bool):Ev P s C ⟨d,.binOp .eql t x y u,ty,pos,af,gd⟩ (.bool (a==b)):=
 fb hx hy fun w=>by rw [YQ];show (binOp .eql t (.bool a) (.bool b)).run P w=_;exact run_eql_bool w t a b ht
theorem PA {u:TypeId}{a b:Bool}(hx:bl s x=some (.bool a))(hy:bl s y=some (.bool b))(ht:P.underlying t=some .bool):Ev P s C ⟨d,.binOp .neq t x y u,ty,pos,af,gd⟩ (.bool (!(a==b))):=
 fb hx hy fun w=>by rw [YQ];show (binOp .neq t (.bool a) (.bool b)).run P w=_;exact run_neq_bool w t a b ht
end
theorem aJ {r:α}(h:none=some r):p:=by cases h
theorem toNat_lt {k:Int}(h0:0<=k)(h1:k<n):k.toNat<n:=by omega
section
variable {s:bF}{L:W8}{d:Option Nat}
theorem sg {R:Rep α}{t f sz:Nat}{xs:List α}{c:Chunk}{k:Nat}(i:Nat)(hi:L[i]? =some c)(he:HA R v xs c)(hx:bl s x=some (dF v k sz off))(h1:k<xs.length)(hr:∀b o w,(Instr.fieldAt t (.pointer (some ⟨b,o,none⟩)) f).run P w=.ok (.pointer (some ⟨b,o,none⟩)) w):Rd P s L ⟨d,.fieldAddr t x f,ty,pos,af,gd⟩ (dF v k sz off):=fun Z w hw=>by
 obtain ⟨T,S,h⟩:=hw.get (aP hi);obtain ⟨A,cap,rfl, -, -,h4⟩:=he _ _ _ h;obtain ⟨b,o,vss,rfl, -⟩:=h4 I;exact qx (o:=o+k*sz+off) hx hr
end
end
section
open Go.RowKit
def OD (p:Value)(vs:W9):Chunk where
 ok _ S w:= ∃b o,p=.pointer (some ⟨b,o,none⟩)/\S b/\b<w.heap.size/\CellsAt w b o vs
 loc:=fun h ⟨b,o,h1,h2,h3,h4⟩=>⟨b,o,h1,h2,YD h3 h.size,h4.agr h (.inr h2) h3⟩
 mono:=fun h ⟨b,o,h1,h2,h3,h4⟩=>⟨b,o,h1,h _ h2,h3,h4⟩
 ro:=true
 dup:=fun _ _ _ _ h=>h
theorem Na {R:Rep α}{L Z:W8}{w:World}{xs:List α}{k:Nat}{x:α}{Q:W9->W8->Prop}(hw:Sp Z L w)(hi:L[i]? =some (gK R v xs))(hx:xs[k]? =some x)(ho:Qd R x Q): ∃vs cs,Q vs cs/\Sp Z (OD (dF v k R.sz 0) vs::(cs++L)) w:=by
 obtain ⟨T,S,h⟩:=hw;obtain ⟨A,c,rfl, -, -,h4⟩:=h.ok (aP hi);obtain ⟨b,o,vss,rfl,h5,h6,h7,h8⟩:=h4 (Ar hx);obtain ⟨vs,h9,h10⟩:=h7.get hx;obtain ⟨cs,h11,h12⟩:=ho _ _ _ h10;refine ⟨vs,cs,h11,?_⟩;obtain ⟨T',h13⟩:=SepL.facts (OD (dF (.slice (some ⟨b,o,none⟩) xs.length c) k R.sz 0) vs::cs) h (t5 ⟨b,o+k*R.sz,rfl,h5,h6,fun j u hj=>by have:=h8 _ _ (xE h7 h9 hj);rw [Nat.add_assoc];exact this⟩ h12);refine ⟨T',S,?_⟩;simpa using h13
section
variable {s:bF}{L:W8}{d:Option Nat}
theorem NV {k sz b o:Nat}(h:dF v k sz 0=.pointer (some ⟨b,o,none⟩)):dF v k sz off=.pointer (some ⟨b,o+off,none⟩):=by
 unfold dF at*;split at h
 ·injection h with h;injection h with h;injection h with h1 h2;subst h1 h2;rfl
 cases h
theorem Bf {k sz:Nat}{vs us:W9}(i:Nat)(hi:L[i]? =some (OD (dF v k sz 0) vs))(hx:bl s x=some (dF v k sz off))(hu:IF P t us.length=true)(hv:(vs.drop off).take us.length=us):Rd P s L ⟨d,.load t x,ty,pos,af,gd⟩ (.agg us.toArray):=fun Z w hw=>by
 obtain ⟨T,S,b,o,h1,h2,h3,h4⟩:=hw.get (aP hi);rw [NV h1] at hx;have h5:=h4.part off us.length;rw [hv] at h5;exact BZ hx (Jx (p:=fun w=>CellsAt w b (o+off) us) h5) hu
theorem wV {u:TypeId}{k':IntKind}{z:Int}(hx:bl s x=some (.int k z))(ht:(P.underlying t).isSome=true)(hu:P.underlying u=some (.int k')):Ev P s C ⟨d,.convert t u x,ty,pos,af,gd⟩ (.int k' (k'.wrap z)):=fun ρ hρ w _=>by
 obtain ⟨q,hq⟩:=Option.isSome_iff_exists.1 ht;unfold execOp;simp only [hρ x _ hx,convert,YQ,YW hq,YW hu,YP];cases q<;>simp [Conv.intToInt]
theorem RY {u:TypeId}{a b:Int}(hx:bl s x=some (.int k a))(hy:bl s y=some (.int k b)):Ev P s C ⟨d,.binOp .sub t x y u,ty,pos,af,gd⟩ (.int k (k.wrap (a - b))):=fb hx hy fun w=>by cases k<;>rfl
end
section
variable {X:Cx}{K:K3}{M:W8}{s:bF}{L:W8}
theorem vU (ix:Array Bool->Array Bool)(n2 pd:Nat)(b:Bool)(k:mN X ops K M n2 (ix listed) ((pd,.bool b)::s) L->mN X ops K M fuel listed s L)(h:mN X ops K M n2 (ix listed) ((pd,.bool b)::s) L):mN X ops K M fuel listed s L:=k h
theorem J6 {R:Rep α}{xs:List α}{k:Nat}{x:α}{Q:W9->W8->Prop}(i:Nat)(hi:L[i]? =some (gK R v xs))(hx:xs[k]? =some x)(ho:Qd R x Q)(h:∀vs cs,Q vs cs->bm X ops l K s (OD (dF v k R.sz 0) vs::(cs++L))):bm X ops l K s L:=fun H Ds a w ha hd hw=>by
 obtain ⟨vs,cs,h1,h2⟩:=Na hw hi hx ho;exact h vs cs h1 H Ds a w ha hd h2
theorem mZ {L L':W8}(c:Chunk)(h:Cv L L'):Cv (c::L) (c::L'):=fun Z w hw=>by
 have h1:Sp (Z++ [c]) L w:=by
  refine SepL.pick (L:=(c::L)++Z) hw (fun j=>if j<L.length+Z.length then j+1 else 0) ?_ ?_
  ·intro j d hj;rw [<-W2] at hj;by_cases hlt:j<L.length+Z.length
   ·simp only [hlt,if_true,Xu,XJ];rw [XH (by simpa using hlt)] at hj;exact hj
   rw [XI (by simp;omega)] at hj
   have:j - (L++Z).length=0:=by
    rcases Yz (j - (L++Z).length) with h0|h0
    ·exact h0
    rw [show j - (L++Z).length=(j - (L++Z).length - 1)+1 by omega] at hj;simp at hj
   rw [this] at hj;simp only [hlt,if_false];simpa using hj
  intro i j h1 h2 e;simp only [YX,XW,XZ] at h1 h2;split at e<;>split at e<;>omega
 have h2:SepL (L'++(Z++ [c])) w:=h _ _ h1;refine SepL.pick h2 (fun j=>if j=0 then L'.length+Z.length else j - 1) ?_ ?_
 ·intro j d hj
  cases j with
  |zero=>
   simp only [Xu,XK,YN] at hj;subst hj;simp only [if_true];rw [XI I,XI I];simp
  |succ j=>
   simp only [Xu,XJ] at hj;have hlt:j<(L'++Z).length:=(XO.1 hj).1;simp only [Nat.succ_ne_zero,if_false,Nat.add_sub_cancel];rw [<-W2,XH hlt];exact hj
 intro i j h1 h2 e;simp only [YX,XW] at h1 h2;split at e<;>split at e<;>omega
theorem vh {L L':W8}: ∀(cs:W8),Cv L L'->Cv (cs++L) (cs++L')
 | [],h=>h
 |c::cs,h=>mZ c (vh cs h)
end
end
section
open Go.RowKit
theorem Mp.agr {ek:α->Value}{ev:β->Value}{X:Nat->Prop}{w:World}{L:List (α×β)}(h:Mp w m ek ev L)(hx:Agr X w w')(hm:X m):Mp w' m ek ev L:=by
 have hlt:=h.lt;obtain ⟨es,clk,h1,h2⟩:=h;exact ⟨es,clk,(hx.block m hlt hm).trans h1,h2⟩
def bB (ek:α->Value)(ev:β->Value)(m:Nat)(kv:List (α×β)):Chunk where
 ok T _ w:=T m/\Mp w m ek ev kv
 loc:=fun h ⟨h1,h2⟩=>⟨h1,h2.agr h (.inl h1)⟩
 mono:=fun _ h=>h
 ro:=false
 dup:=fun h=>Bool.noConfusion h
def qJ (ek:α->Value)(ev:β->Value)(m:Nat)(kv:List (α×β)):Chunk where
 ok _ S w:=S m/\Mp w m ek ev kv
 loc:=fun h ⟨h1,h2⟩=>⟨h1,h2.agr h (.inr h1)⟩
 mono:=fun h ⟨h1,h2⟩=>⟨h _ h1,h2⟩
 ro:=true
 dup:=fun _ _ _ _ h=>h
def RBlk (w:World)(b:Nat)(cs:Array Value):Prop:= ∃t p,w.heap[b]? =some (.cells cs t p)
theorem Blk.r {w:World}{b:Nat}(h:Blk w b t cs):RBlk w b cs:=⟨t,(0,0),h⟩
theorem RBlk.lt {w:World}{b:Nat}(h:RBlk w b cs):b<w.heap.size:=by
 obtain ⟨t,p,h⟩:=h;rcases YE b w.heap.size with hlt|hge
 ·exact hlt
 rw [Xd hge] at h;cases h
theorem RBlk.cells {w:World}{b:Nat}(h:RBlk w b cs)(j:Nat):w.cell? ⟨b,j,none⟩=cs[j]? :=by
 obtain ⟨t,p,h⟩:=h;exact cell_of_row w b j cs t p h
def aW (b:Nat)(_t:TypeId)(cs:W9):Chunk where
 ok _ S w:=S b/\RBlk w b cs.toArray
 loc:=fun h ⟨h1,h2⟩=>⟨h1,by obtain ⟨t,p,h3⟩:=h2;exact ⟨t,p,(h.block _ (RBlk.lt ⟨t,p,h3⟩) (.inr h1)).trans h3⟩⟩
 mono:=fun h ⟨h1,h2⟩=>⟨h _ h1,h2⟩
 ro:=true
 dup:=fun _ _ _ _ h=>h
def MK (ek:α->Value)(ev:β->Value)(m:Nat)(kv:List (α×β))(c:Chunk):Prop:= ∀T S w,c.ok T S w->Mp w m ek ev kv
theorem CP {ek:α->Value}{ev:β->Value}{kv:List (α×β)}:MK ek ev m kv (bB ek ev m kv):=fun _ _ _ h=>h.2
theorem Td {ek:α->Value}{ev:β->Value}{kv:List (α×β)}:MK ek ev m kv (qJ ek ev m kv):=fun _ _ _ h=>h.2
theorem yd {L:W8}{b:Nat}{cs:W9}(hi:L[i]? =some (ah b t cs)):xo L (aW b t cs):=fun _ _ _ h=>⟨(h.ok hi).2.lt,(h.ok hi).2.r⟩
theorem Fl {ek:α->Value}{ev:β->Value}{L:W8}{kv:List (α×β)}(hi:L[i]? =some (bB ek ev m kv)):xo L (qJ ek ev m kv):=fun _ _ _ h=>⟨(h.ok hi).2.lt,(h.ok hi).2⟩
def jK (a:Int):Value:=.int .i64 a
def qP (b:Bool):Value:=.bool b
def vV (a:Int):Value:=.int .i64 a
def Dx (_:Unit):Value:=.agg #[]
def yp [DecidableEq α](L:List (α×β))(a:α):List (α×β):=match fp a L 0 with
 |some (i,_)=>L.eraseIdx i
 |none=>L
theorem ts (f:α->β): ∀(l:List α) (q:Nat),(l.map f).eraseIdx q=(l.eraseIdx q).map f
 | [],_=>rfl
 |_::_,0=>rfl
 |a::l,q+1=>by simp only [X5,List.eraseIdx_cons_succ,ts f l q]
theorem Ki {et:TypeId}(ht:P.underlying t=some (.map kt et))(m:Nat)(w:World):(Op.equal t (.map (some m)) (.map none)).run P w=.ok false w:=by
 show (Op.equalIn (9999+1) t (.map (some m)) (.map none)).run P w=_;unfold Op.equalIn;rw [YQ,YW ht,YP];rfl
section
theorem lq (hu:P.underlying kt=some (.int .i64)):KeyOk P kt jK where
 und:=⟨_,hu,fun a b=>by
  unfold jK Instr.sameNow
  first
   |exact .inr (by simp;rfl)
   |exact .inl rfl⟩
 eq:=fun a b w=>by
  have h:=run_equalIn_int (P:=P) w 9999 kt .i64 .i64 a b hu;show (Op.equalIn 10000 kt (.int .i64 a) (.int .i64 b)).run P w=_;rw [h];rfl
 check:=fun e a w=>by
  show (Instr.checkKey e (9999+1) kt (.int .i64 a)).run P w=_;unfold Instr.checkKey;rw [YQ,YW hu,YP];rfl
 bits:=fun a=>by
  show Instr.sameBits (9999+1) (.int .i64 a) (.int .i64 a)=true;unfold Instr.sameBits;simp
variable {s:bF}{L:W8}{d:Option Nat}
theorem Bg {b o:Nat}{cs:W9}(i:Nat)(hi:L[i]? =some (aW b bt cs))(hx:bl s x=some (.pointer (some ⟨b,o,none⟩)))(hu:iv P t=true)(hc:cs[o]? =some u):Rd P s L ⟨d,.load t x,ty,pos,af,gd⟩ u:=fun Z w hw=>by
 obtain ⟨T,S, -,h⟩:=hw.get (aP hi);exact Ca hx hu (Jx (p:=fun w=>w.cell? ⟨b,o,none⟩=some u) ((h.cells o).trans (by simpa using hc)))
theorem OF {b o:Nat}{cs us:W9}(i:Nat)(hi:L[i]? =some (aW b bt cs))(hx:bl s x=some (.pointer (some ⟨b,o,none⟩)))(hu:IF P t us.length=true)(hc:(cs.drop o).take us.length=us):Rd P s L ⟨d,.load t x,ty,pos,af,gd⟩ (.agg us.toArray):=fun Z w hw=>by
 obtain ⟨T,S, -,h⟩:=hw.get (aP hi)
 have h4:CellsAt w b 0 cs:=fun j u hj=>by rw [YH,h.cells];simpa using hj
 have h5:=h4.part o us.length;rw [hc,YH] at h5;exact BZ hx (Jx (p:=fun w=>CellsAt w b o us) h5) hu
variable [DecidableEq α]{ek:α->Value}{ev:β->Value}{et:TypeId}
theorem O9 (kv:List (α×β))(a:α)(z:β):(match lk kv a with|some b=>ev b|none=>ev z)=ev ((lk kv a).getD z):=by cases lk kv a<;>rfl
theorem EK {a:α}{kv:List (α×β)}{z:β}{c:Chunk}(i:Nat)(hi:L[i]? =some c)(hm:MK ek ev m kv c)(hx:bl s x=some (.map (some m)))(hy:bl s y=some (ek a))(ht:P.underlying t=some (.map kt et))(hk:KeyOk P kt ek)(hz:∀w,(zeroValue et).run P w=.ok (ev z) w):Rd P s L ⟨d,.lookup t x y false,ty,pos,af,gd⟩ (ev ((lk kv a).getD z)):=fun Z w hw=>by
 obtain ⟨T,S,h⟩:=hw.get (aP hi);rw [<-O9 (ev:=ev)];exact Lc hx hy ht hk hz (fun w' e=>by subst e;exact hm _ _ _ h)
theorem Bh {a:α}{kv:List (α×β)}{z:β}{c:Chunk}(i:Nat)(hi:L[i]? =some c)(hm:MK ek ev m kv c)(hx:bl s x=some (.map (some m)))(hy:bl s y=some (ek a))(ht:P.underlying t=some (.map kt et))(hk:KeyOk P kt ek)(hz:∀w,(zeroValue et).run P w=.ok (ev z) w):Rd P s L ⟨d,.lookup t x y true,ty,pos,af,gd⟩ (.tuple #[ev ((lk kv a).getD z),.bool (lk kv a).isSome]):=fun Z w hw=>by
 obtain ⟨T,S,h⟩:=hw.get (aP hi);rw [<-O9 (ev:=ev)];exact Lb hx hy ht hk hz (fun w' e=>by subst e;exact hm _ _ _ h)
omit [DecidableEq α] in
theorem BC {Z:W8}{w:World}{kv kv':List (α×β)}(i:Nat)(hw:Sp Z L w)(hi:L[i]? =some (bB ek ev m kv)){o:Obj}(h:Mp {w with heap:=w.heap.setIfInBounds m o} m ek ev kv'):Sp Z (L.set i (bB ek ev m kv')) {w with heap:=w.heap.setIfInBounds m o}:=by
 have hf:=MX w m o
 have h2:=SepL.upd (w':={w with heap:=w.heap.setIfInBounds m o}) hw (aP hi) (d:=bB ek ev m kv') fun T S ⟨g1,g2⟩ g3 _ _=>⟨Agr.of_fr hf fun q hq e=>hq (e▸g1),T,fun _=> .inl,fun q hq=>YD (g3 q hq) hf.size,g1,h⟩
 rw [jQ Z hi] at h2;exact h2
theorem md {u:Operand}{a:α}{b:β}{kv:List (α×β)}(i:Nat)(hi:L[i]? =some (bB ek ev m kv))(hx:bl s x=some (.map (some m)))(hy:bl s y=some (ek a))(hu:bl s u=some (ev b))(ht:P.underlying t=some (.map kt et))(hk:KeyOk P kt ek):OpX P s L ⟨d,.mapUpdate t x y u,ty,pos,af,gd⟩ fun _ L'=>L'=L.set i (bB ek ev m (yI kv a b)):=fun ρ hρ Z w hw=>by
 obtain ⟨T,S, -,hm⟩:=hw.get (aP hi);have hlt:=hm.lt;obtain ⟨es,clk,h1,h2,h3,h4⟩:=hm
 have hget:(getObj m).run P w=.ok (.map es clk) w:=by simp [getObj,Sem.run,h1]
 have hset: ∀o,(setObj m o).run P w=.ok () {w with heap:=w.heap.setIfInBounds m o}:=fun o=>by simp [setObj,Sem.run,h1]
 cases hf:fp a kv 0 with
 | none=>
  refine .inr (.inl ⟨{w with heap:=w.heap.setIfInBounds m (.map (es.push ⟨ek a,ev b,clk⟩) (clk+1))},_,?_,BC i hw hi (kv':=yI kv a b) ⟨es.push ⟨ek a,ev b,clk⟩,clk+1,by simp [hlt],?_,?_,?_⟩,J⟩)
  ·unfold execOp;simp only [hρ x _ hx,hρ y _ hy,hρ u _ hu,Instr.mapUpdate,YQ,YW ht,YP,hget,hk.check,py hk a w es.toList kv h2,hf,Option.map_none,hset];rfl
  ·simp [yI,hf,h2]
  ·simp only [Array.toList_push];rw [List.pairwise_append];exact ⟨h3,by simp,fun e he e' he'=>by simp only [Yh] at he';subst he';exact h4 e he⟩
  intro e he;simp only [Array.toList_push,X7,Yh] at he;rcases he with he|rfl
  ·have:=h4 e he;omega
  simp
 | some p=>
  obtain ⟨q,c⟩:=p;obtain ⟨-,hq⟩:=Mg a kv 0 q c hf;rw [Nat.sub_zero] at hq;have hil:q<kv.length:=(XO.1 hq).1
  have hlen:es.size=kv.length:=by simpa using congrArg List.length h2
  have hei:q<es.size:=by omega
  have hkey:es[q].key=ek a:=by
   have h5:=congrArg (fun l=>l[q]?) h2;simp only [XP,hq,YL] at h5;simp [hei] at h5;exact h5.1
  refine .inr (.inl ⟨{w with heap:=w.heap.setIfInBounds m (.map (es.modify q fun e=>{e with key:=ek a,val:=ev b}) clk)},_,?_,BC i hw hi (kv':=yI kv a b) ⟨es.modify q fun e=>{e with key:=ek a,val:=ev b},clk,by simp [hlt],?_,?_,?_⟩,J⟩)
  ·unfold execOp
   have hst:(Instr.keyThatStays (ek a) (ek a)).run P w=.ok (ek a) w:=by unfold Instr.keyThatStays;rw [if_pos (hk.bits a)];rfl
   simp only [hρ x _ hx,hρ y _ hy,hρ u _ hu,Instr.mapUpdate,YQ,YW ht,YP,hget,hk.check,py hk a w es.toList kv h2,hf,YL,Xc hei,YK,hkey,hst,hset];rfl
  ·simp only [yI,hf,Array.toList_modify];apply XA;intro j;have h5:=congrArg (fun l=>l[j]?) h2;simp only [XP] at h5;simp only [XP,List.getElem?_modify,List.getElem?_set];by_cases e:q=j
   ·subst e;simp [hil,hei]
   simp [e];simpa using h5
  ·simp only [Array.toList_modify];rw [Yl] at h3⊢;intro j j' hj hj' hlt';simp only [List.length_modify] at hj hj';have:=h3 j j' hj hj' hlt';simp only [List.getElem_modify];split<;>split<;>exact this
  intro e he;simp only [Array.toList_modify] at he;obtain ⟨j,hj,rfl⟩:=XV he;simp only [List.length_modify] at hj;have:=h4 _ (Y5 hj);simp only [List.getElem_modify];split<;>exact this
theorem GS {a:α}{kv:List (α×β)}{t2:TypeId}(i:Nat)(hi:L[i]? =some (bB ek ev m kv))(hx:bl s x=some (.map (some m)))(hy:bl s y=some (ek a))(ht:P.underlying t=some (.map kt et))(hk:KeyOk P kt ek):OpX P s L ⟨d,.call ⟨.builtin .delete, #[x,y], #[t,t2]⟩,ty,pos,af,gd⟩ fun _ L'=>L'=L.set i (bB ek ev m (yp kv a)):=fun ρ hρ Z w hw=>by
 have hw0:=hw;obtain ⟨T,S, -,hm⟩:=hw.get (aP hi);have hlt:=hm.lt;obtain ⟨es,clk,h1,h2,h3,h4⟩:=hm
 have hget:(getObj m).run P w=.ok (.map es clk) w:=by simp [getObj,Sem.run,h1]
 have hset: ∀o,(setObj m o).run P w=.ok () {w with heap:=w.heap.setIfInBounds m o}:=fun o=>by simp [setObj,Sem.run,h1]
 have hb:=fO (P:=P) (ρ:=ρ) (d:=d) (ty:=ty) (pos:=pos) (af:=af) (gd:=gd) (b:=.delete) (xs:=[x,y]) (ats:= #[t,t2]) (vs:=[.map (some m),ek a]) (by simp [hρ x _ hx,hρ y _ hy]) w
 cases hf:fp a kv 0 with
 |none=>
  refine .inl ⟨.tuple #[],{w with heap:=w.heap.setIfInBounds m (.map es clk)},_,?_,BC i hw0 hi (kv':=yp kv a) ⟨es,clk,by simp [hlt],by simp [yp,hf,h2],h3,h4⟩,J⟩;rw [hb];simp only [builtin,Builtin.delete_,YQ,XT,XK,XJ,YW ht,YP,hget,hk.check,py hk a w es.toList kv h2,hf,Option.map_none,hset];rfl
 | some p=>
  obtain ⟨q,c⟩:=p
  have hlen:es.size=kv.length:=by simpa using congrArg List.length h2
  refine .inl ⟨.tuple #[],{w with heap:=w.heap.setIfInBounds m (.map (es.eraseIdxIfInBounds q) clk)},_,?_,BC i hw0 hi (kv':=yp kv a) ⟨es.eraseIdxIfInBounds q,clk,by simp [hlt],?_,?_,?_⟩,J⟩
  ·rw [hb];simp only [builtin,Builtin.delete_,YQ,XT,XK,XJ,YW ht,YP,hget,hk.check,py hk a w es.toList kv h2,hf,YL,hset];rfl
  ·have e1:(es.eraseIdxIfInBounds q).toList=es.toList.eraseIdx q:=by simp [Array.eraseIdxIfInBounds];split<;>simp_all [List.eraseIdx_of_length_le]
   rw [e1];simp only [yp,hf];have h5:=congrArg (fun l=>List.eraseIdx l q) h2;simp only [ts] at h5;exact h5
  ·have e1:(es.eraseIdxIfInBounds q).toList=es.toList.eraseIdx q:=by simp [Array.eraseIdxIfInBounds];split<;>simp_all [List.eraseIdx_of_length_le]
   rw [e1];exact h3.sublist (List.eraseIdx_sublist ..)
  have e1:(es.eraseIdxIfInBounds q).toList=es.toList.eraseIdx q:=by simp [Array.eraseIdxIfInBounds];split<;>simp_all [List.eraseIdx_of_length_le]
  rw [e1]
  exact fun e he=>h4 e (List.mem_of_mem_eraseIdx he)
omit [DecidableEq α] in
theorem OW {kv:List (α×β)}{q:TypeDesc}(i:Nat)(hi:L[i]? =some (bB ek ev m kv))(hx:bl s x=some (.map (some m)))(ht:P.underlying t=some q):OpX P s L ⟨d,.call ⟨.builtin .clear, #[x], #[t]⟩,ty,pos,af,gd⟩ fun _ L'=>L'=L.set i (bB ek ev m ([]:List (α×β))):=fun ρ hρ Z w hw=>by
 have hw0:=hw;obtain ⟨T,S, -,hm⟩:=hw.get (aP hi);have hlt:=hm.lt;obtain ⟨es,clk,h1,h2,h3,h4⟩:=hm
 have hget:(getObj m).run P w=.ok (.map es clk) w:=by simp [getObj,Sem.run,h1]
 have hset: ∀o,(setObj m o).run P w=.ok () {w with heap:=w.heap.setIfInBounds m o}:=fun o=>by simp [setObj,Sem.run,h1]
 refine .inl ⟨.tuple #[],{w with heap:=w.heap.setIfInBounds m (.map #[] clk)},_,?_,BC i hw0 hi (kv':=[]) ⟨#[],clk,by simp [hlt],by simp,by simp,by simp⟩,J⟩;rw [fO (P:=P) (ρ:=ρ) (xs:=[x]) (vs:=[.map (some m)]) (by simp [hρ x _ hx]) w];simp only [builtin,Builtin.clear_,YQ,XT,XK,YW ht,YP];cases q<;>simp [hget,hset]
omit [DecidableEq α] in
theorem tY:OpX P s L ⟨d,.makeMap t none,ty,pos,af,gd⟩ fun u L'=> ∃m,u=.map (some m)/\L'=bB ek ev m ([]:List (α×β))::L:=fun ρ hρ Z w hw=>by
 refine .inl ⟨.map (some w.heap.size),w.alloc (.map #[] 0),bB ek ev w.heap.size []::L,J,SepL.new hw (Agr.of_ext ((Ext.refl w).alloc _)) fun _ S _=>⟨(· =w.heap.size),fun q hq=>by subst hq;simp,rfl, #[],0,heap_alloc_new w _,by simp,by simp,by simp⟩,_,J,J⟩
theorem NT {u:TypeId}(hx:bl s x=some (.map (some m)))(ht:P.underlying t=some (.map kt et)):Ev P s C ⟨d,.binOp .eql t x (.const (.map none)) u,ty,pos,af,gd⟩ (.bool false):=
 fb hx rfl fun w=>by
  rw [YQ];show (binOp .eql t (.map (some m)) (.map none)).run P w=_;simp only [binOp,YQ,Ki ht m w,YP];rfl
end
end
section
open Go.RowKit
def Qm (P:Program)(v:Value)(G:W8)(en:α->W9)(ev:β->Value)(φ:α->Option β):Prop:=
 (∀c∈G,c.ro=true)/\ ∃f bs caps,v=.func (.func f) bs caps/\qH P f/\ ∀x r,φ x=some r->Okc P f (bs.toList++(en x++caps.toList)) G fun u post=>u=ev r/\post=[]
theorem Cy {d:Option Nat}{w:World}{vs:W9}{bs:Array Value}(hf:qH P f)(hv:xs.map ρ=vs)(hρ:ρ x=.func (.func f) bs caps):
  (execOp ρ ⟨d,.call ⟨.value x,xs.toArray,ats⟩,ty,pos,af,gd⟩).run P w=.ok (.enter f (bs.toList++(vs++caps.toList)).toArray) w:=by
 unfold execOp;simp only [resolve,hρ,Deferred.ofValue,X6,hv];obtain ⟨fn,hf,hb,hn⟩:=hf
 have hn': ¬fn.name= "runtime.NumGoroutine" :=by simpa using hn
 have hb': ¬fn.body=none:=by intro h;rw [h] at hb;cases hb
 simp [invoke,callFunc,hf,hb',hn',YQ]
theorem PN (E G Z:W8):Cv (E++(G++Z)) (G++(E++Z)):=fun Z2 w h=>by
 refine SepL.pick (L:=(E++(G++Z))++Z2) h (fun j=>if j<G.length then j+E.length else if j<G.length+E.length then j - G.length else j) ?_ ?_
 ·intro j c hj;simp only [W2] at hj⊢;by_cases h1:j<G.length
  ·rw [XH h1] at hj;simp only [h1,if_true];rw [XI I,Nat.add_sub_cancel,XH h1];exact hj
  simp only [h1,if_false];rw [XI I] at hj;by_cases h2:j<G.length+E.length
  ·simp only [h2,if_true];rw [XH I] at hj;rw [XH I];exact hj
  simp only [h2,if_false];rw [XI I] at hj;rw [XI I,XI I];rw [show j - E.length - G.length=j - G.length - E.length by omega];exact hj
 intro i j _ _ e;split at e<;>split at e<;>(try split at e)<;>(try split at e)<;>omega
section
variable {s:bF}{d:Option Nat}
theorem Rb {L:W8}{c:Chunk}(h:c∈L)(hc:c.ro=true):xo L c:=by
 obtain ⟨i,hi⟩:=List.getElem?_of_mem h;exact dc hi hc
theorem G0 {E G:W8}(hG:∀c∈G,c.ro=true): ∀c∈G,xo (E++G) c:=fun c hc=>Rb (W4 _ hc) (hG c hc)
theorem R2 {L:W8}(ix:List Nat)(k:Nat)(hk:Gl ix k=true)(hl:Nat.ble k L.length=true):Cv L (ix.filterMap fun i=>L[i]?):=(yq ix k hk hl).trans fun Z w h=>by
 unfold DL at h;refine SepL.pick (L':=(ix.filterMap fun i=>L[i]?)++Z) h (fun j=>if j<(ix.filterMap fun i=>L[i]?).length then j else j+(L.drop k).length) ?_ ?_
 ·intro j c hj;by_cases hlt:j<(ix.filterMap fun i=>L[i]?).length
  ·simp only [hlt,if_true];rw [XH hlt] at hj;rw [W2,XH hlt];exact hj
  simp only [hlt,if_false];rw [XI I] at hj;rw [W2,XI I,XI I];rw [show j+(L.drop k).length - (ix.filterMap fun i=>L[i]?).length - (L.drop k).length=j - (ix.filterMap fun i=>L[i]?).length by omega];exact hj
 intro i j _ _ e;split at e<;>split at e<;>omega
def tg {σ:Type}(P:Program)(l:Nat)(G:σ->W8)(en:α->W9)(φ:α->σ->Option (Bool×σ)):Prop:=
 ∀x σ₁ b σ₂,φ x σ₁=some (b,σ₂)-> ∀Z w,Sp Z (G σ₁) w-> ∃fn tmps assign body,(Instr.yield l (en x).toArray).run P w=.ok (.round l fn tmps assign body) w/\RoundIn Fence.wide 0 P l fn tmps assign body w fun e w'=>e=.returned (.bool b)/\Sp Z (G σ₂) w'
theorem OR {σ:Type}{l:Nat}{G:σ->W8}{E Z:W8}{en:α->W9}{φ:α->σ->Option (Bool×σ)}{a:α}{σ₁:σ}{y:Bool×σ}(hY:tg P l G en φ)(hr:φ a σ₁=some y)(hx:bl s x=some (.func (.yield l) #[] #[]))(hv:FN s xs=some (en a)):OpX P s (E++(G σ₁++Z)) ⟨d,.call ⟨.value x,xs.toArray,ats⟩,ty,pos,af,gd⟩ fun u L'=>u=.bool y.1/\L'=E++(G y.2++Z):=fun ρ hρ Z2 w hw=>by
 obtain ⟨b,σ₂⟩:=y
 have h1:Sp ((E++Z)++Z2) (G σ₁) w:=by have:=PN E (G σ₁) Z _ _ hw;unfold Sp at*;simpa only [W2] using this
 obtain ⟨fn,tmps,assign,body,h2,h3⟩:=hY a σ₁ b σ₂ hr _ w h1;refine .inr (.inr (.inr ⟨l,fn,tmps,assign,body,?_,?_⟩))
 ·unfold execOp;simp only [resolve,hρ x _ hx,Deferred.ofValue,X6,rG hρ hv];simp only [invoke,YQ,YR,YP];simpa using h2
 refine h3.mono ?_;rintro e w' ⟨rfl,h4⟩;refine ⟨_,_,J,?_,J,J⟩
 have h5:Sp Z2 (G σ₂++(E++Z)) w':=by unfold Sp at*;simpa only [W2] using h4
 exact PN (G σ₂) E Z _ _ h5
end
section
variable {s:bF}{d:Option Nat}
theorem Ji {G:W8}(E:W8){en:α->W9}{ev:β->Value}{φ:α->Option β}{a:α}{r:β}(hφ:Qm P v G en ev φ)(hr:φ a=some r)(hx:bl s x=some v)(hv:FN s xs=some (en a)):OpX P s (E++G) ⟨d,.call ⟨.value x,xs.toArray,ats⟩,ty,pos,af,gd⟩ fun u L'=>u=ev r/\L'=E++G:=fun ρ hρ Z w hw=>by
 obtain ⟨hG,f,bs,caps,rfl,hf,hok⟩:=hφ;refine .inr (.inr (.inl ⟨f,_,Cy hf (rG hρ hv) (hρ _ _ hx),?_⟩));refine (Fb (hok a r hr) (G0 hG) (by rintro _ _ ⟨-,rfl⟩;exact au) Z w hw).mono ?_;rintro e w' ⟨u,post,rfl,h2,rfl,rfl⟩;exact ⟨_,_,J,h2,J,J⟩
theorem vD {σ:Type}{l:Nat}{G:σ->W8}(E:W8){en:α->W9}{φ:α->σ->Option (Bool×σ)}{a:α}{σ₁:σ}{y:Bool×σ}(hY:tg P l G en φ)(hr:φ a σ₁=some y)(hx:bl s x=some (.func (.yield l) #[] #[]))(hv:FN s xs=some (en a)):OpX P s (E++G σ₁) ⟨d,.call ⟨.value x,xs.toArray,ats⟩,ty,pos,af,gd⟩ fun u L'=>u=.bool y.1/\L'=E++G y.2:=by
 have h:=OR (d:=d) (ty:=ty) (pos:=pos) (af:=af) (gd:=gd) (E:=E) (Z:=[]) (ats:=ats) hY hr hx hv;simpa using h
theorem jd {caps:List Operand}{vs:W9}(hv:FN s caps=some vs):Ev P s C ⟨d,.makeFunc (.func f) #[] caps.toArray,ty,pos,af,gd⟩ (.func (.func f) #[] vs.toArray):=fun ρ hρ w _=>by
 unfold execOp;simp [rG hρ hv,Instr.makeFunc]
theorem Im {u:TypeId}{yk:IntKind}{a b v:Int}(hx:bl s x=some (.int k a))(hy:bl s y=some (.int yk b))(hr:∀w,(Op.shift .shr k a yk b).run P w=.ok (.int k v) w):Ev P s C ⟨d,.binOp .shr t x y u,ty,pos,af,gd⟩ (.int k v):=fb hx hy fun w=>by rw [YQ];exact hr w
end
theorem lr {L:W8}{b:Nat}{cs:W9}(i:Nat)(hi:L[i]? =some (ah b t cs)):Cv L (L.set i (aW b t cs)):=fun Z w h=>by
 have h1:=SepL.frz h (aP hi) (d:=aW b t cs) fun T S ⟨h1,h2⟩=>⟨.inr h1,h2.r⟩
 rw [jQ Z hi] at h1;exact h1
def ml (l:Nat)(r:Loop):Chunk where
 ok T _ w:=T l/\w.heap[l]? =some (.loop r)
 loc:=fun {T S w w'} h ⟨h1,h2⟩=>⟨h1,(h.block l (by rcases YE l w.heap.size with hl|hl;exact hl;rw [Xd hl] at h2;cases h2) (.inl h1)).trans h2⟩
 mono:=fun _ h=>h
 ro:=false
 dup:=fun h=>Bool.noConfusion h
theorem QG {l:Nat}{r r':Loop}{L:W8}{w:World}(h:SepL L w)(hi:L[i]? =some (ml l r)):SepL (L.set i (ml l r')) (w.putObj l (.loop r')):=by
 obtain ⟨T,S,hT,hk⟩:=h.get hi;have hlt:l<w.heap.size:=(Array.getElem?_eq_some_iff.1 hk).1
 refine h.upd hi fun T S h2 h3 _ _=> ?_
 have hx:=grownBy_putObj' w l (.loop r');exact ⟨⟨hx.os,hx.tape,hx.output,hx.size,fun q hq hn=>hx.block q hq fun e=>hn (by cases e;exact h2.1)⟩,T,fun _=> .inl,fun q hq=>YD (h3 q hq) hx.size,h2.1,World.putObj_heap_same hlt⟩
def wG:Exit->Option Code
 | .ret=>some .ret
 | .exit i=>some (.exit i)
 |_=>none
def RK (je:Option Exit)(L':W8):K3:=fun e _ L=>((je=none/\e=.normal)\/(je=some e/\(wG e).isSome=true))/\Cv L L'
def cN {σ:Type}(φ:α->σ->Option (Option Exit×σ)):α->(Option Exit×σ)->Option (Bool×(Option Exit×σ)):=fun x s=>match s.1 with
 |none=>(φ x s.2).map fun r=>(r.1.isNone,r)
 |some _=>none
def AH (ps:List Nat)(vs:W9)(s:bF):bF:=(ps.zip vs).reverse++s
theorem If {X:Cx}{ds:List Deferred}: ∀(l:List (Nat×Value)) (s:bF) (t:Array Value),l.all (fun p=>Nat.ble (p.1+1) X.n)=true->Fx X s ⟨t,ds⟩->Fx X (l.reverse++s) ⟨l.foldl (fun t (p:Nat×Value)=>t.setIfInBounds p.1 p.2) t,ds⟩
 | [],s,t,_,h=>h
 |p::l,s,t,hl,h=>by
  simp only [List.all_cons,Y3] at hl;have h1:=h.put p.2 (d:=p.1) (YA hl.1);have h2:Fx X ((p.1,p.2)::s) ⟨t.setIfInBounds p.1 p.2,ds⟩:=⟨h1.size,h1.at_⟩;have h3:=If l _ _ hl.2 h2;simpa using h3
theorem QJ {L L':W8}(h:L.Perm L'): ∃f:Nat->Nat,(∀(j:Nat) (c:Chunk),L'[j]? =some c->L[f j]? =some c)/\ ∀i j,i<L'.length->j<L'.length->f i=f j->i=j:=by
 induction h with
 |nil=>exact ⟨id,fun _ _ h=>h,fun _ _ _ _ h=>h⟩
 | cons c h ih=>
  obtain ⟨f,h1,h2⟩:=ih;refine ⟨fun j=>match j with|0=>0|j+1=>f j+1,?_,?_⟩
  ·intro j d hj
   cases j with
   |zero=>simpa using hj
   |succ j=>simp only [XJ] at hj⊢;exact h1 j d hj
  intro i j hi hj e
  cases i with
  |zero=>cases j with
   |zero=>rfl
   |succ j=>simp at e
  |succ i=>cases j with
   |zero=>simp at e
   |succ j=>simp only [XW] at hi hj;simp only [Nat.add_right_cancel_iff] at e;rw [h2 i j I I e]
 | swap a b l=>
  refine ⟨fun j=>match j with|0=>1|1=>0|j+2=>j+2,?_,?_⟩
  ·intro j d hj
   match j with
   |0=>simpa using hj
   |1=>simpa using hj
   |j+2=>simpa using hj
  intro i j _ _ e
  match i,j with
  |0,0=>rfl
  |0,1=>simp at e
  |0,j+2=>simp at e
  |1,0=>simp at e
  |1,1=>rfl
  |1,j+2=>simp at e
  |i+2,0=>simp at e
  |i+2,1=>simp at e
  |i+2,j+2=>simp at e;omega
 |trans h1 h2 ih1 ih2=>
  obtain ⟨f,f1,f2⟩:=ih1;obtain ⟨g,g1,g2⟩:=ih2;refine ⟨fun j=>f (g j),fun j c hj=>f1 _ _ (g1 j c hj),fun i j hi hj e=> ?_⟩
  have hb: ∀k,k<_->g k<_:=fun k hk=>(XO.1 (g1 k _ (XM hk))).1
  exact g2 i j hi hj (f2 _ _ (hb i hi) (hb j hj) e)
theorem SepL.perm {L L':W8}{w:World}(h:SepL L w)(hp:L.Perm L'):SepL L' w:=by
 obtain ⟨f,h1,h2⟩:=QJ hp;exact h.pick f h1 h2
theorem SepL.dropL {A B:W8}{w:World}(h:SepL (A++B) w):SepL B w:=h.pick (fun j=>j+A.length) (fun j c hj=>by rw [XI I,Nat.add_sub_cancel];exact hj) (fun i j _ _ e=>by omega)
theorem yU {A Z:W8}{l:Nat}{r r':Loop}{w:World}(h:SepL (A++(ml l r::Z)) w):SepL (A++(ml l r'::Z)) (w.putObj l (.loop r')):=by
 have h1:=QG (l:=l) (r:=r) (r':=r') (i:=A.length) h (by simp);simpa using h1
theorem uy {A Z:W8}{l:Nat}{r:Loop}{w:World}(h:SepL (A++(ml l r::Z)) w):w.heap[l]? =some (.loop r):=by
 obtain ⟨T,S, -,hk⟩:=h.get (i:=A.length) (c:=ml l r) (by simp);exact hk
theorem Sb {σ:Type}{X:Cx}{K:K3}{s:bF}{g:Operand}{ps:List Nat}{assign body:Code}{gf:FuncId}{en:α->W9}(φ:α->σ->Option (Option Exit×σ))(E:σ->W8)(pre:W8)(σ₀:σ){je:Option Exit}{σr:σ}{L:W8}(hr:X.r=none)(hg:bl s g=some (.func (.func gf) #[] caps))(hf:qH X.P gf)(hps:ps.all (fun p=>Nat.ble (p+1) X.n)=true)(hen:∀x,(en x).length=ps.length)(hit:∀l (G:(Option Exit×σ)->W8),tg X.P l G en (cN φ)->Okc X.P gf (.func (.yield l) #[] #[]::caps.toList) (pre++G (none,σ₀)) fun _ post=>post=G (je,σr))(hL:Cv L (pre++E σ₀))(hbody:∀l x σ₁ je' σ₂,φ x σ₁=some (je',σ₂)->Wq ⟨X.P,X.n,some l⟩ assign (nx (fun s1 L1=>Wq ⟨X.P,X.n,some l⟩ body (RK je' (E σ₂)) s1 L1) fun _ _ _=>False) (AH ps (en x) s) (E σ₁))(hdone:je=none->K .normal s (E σr))(hleft:∀e,je=some e->(wG e).isSome=true/\K e s (E σr)):
  Wq X (.rangeFunc g ps.toArray assign body) K s L:=by
 intro H Ds a w ha hds hw;obtain ⟨P,n,r⟩:=X;simp only at hr hf hps hit hbody;subst hr;refine wpIn_rangeFunc ?_;intro fn hfn;have hev:a.eval g=.func (.func gf) #[] caps:=ha.eval hg
 obtain ⟨rec_,hrec⟩: ∃rec_:Option Exit->LoopState->Loop,rec_=fun j st=>{state:=st,pending:=j.bind wG,fn,tmps:=a.tmps,params:=ps.toArray,assign,body,defers:=w.heap.size}:=⟨_,rfl⟩
 obtain ⟨stOf,hst⟩: ∃stOf:Option Exit->LoopState,stOf=fun j=>if j.isNone then .ready else .done:=⟨_,rfl⟩
 obtain ⟨l,hl⟩: ∃l,l=w.heap.size+1:=⟨_,rfl⟩;obtain ⟨W1,hW1⟩: ∃W1,(w.alloc (.deferred (some []))).alloc (.loop (rec_ none .ready))=W1:=⟨_,rfl⟩
 have hY:tg P l (fun q=>ml l (rec_ q.1 (stOf q.1))::E q.2) en (cN φ):=by
  rintro x ⟨j₁,σ₁⟩ b ⟨j₂,σ₂⟩ hx Z w1 hw1;unfold cN at hx
  cases j₁ with
  |some e=>cases hx
  | none=>
   simp only at hx
   cases hφ:φ x σ₁ with
   |none=>rw [hφ] at hx;cases hx
   | some y=>
    rw [hφ] at hx;simp only [YL,YN,Prod.mk.injEq] at hx;obtain ⟨hb,hy⟩:=hx;subst hb hy
    have h0:SepL ([]++(ml l (rec_ none .ready)::(E σ₁++Z))) w1:=by
     have:stOf none=.ready:=by rw [hst];rfl
     simp only [this] at hw1;exact hw1
    have a7:=uy h0;have hy:=run_yield (P:=P) (args:=(en x).toArray) a7 (by rw [hrec];simp [hen x]);refine ⟨_,_,_,_,hy,roundIn_of_wpIn (F:=Fence.wide) trivial ?_⟩
    have hfx:Fx ⟨P,n,some l⟩ (AH ps (en x) s) ⟨((rec_ none .ready).params.zip (en x).toArray).foldl (fun t (p:Nat×Value)=>t.setIfInBounds p.1 p.2) (rec_ none .ready).tmps,[]⟩:=by
     have h1:=If (X:=⟨P,n,some l⟩) (ds:=[]) (ps.zip (en x)) s a.tmps (by
      rw [Xq] at hps⊢;intro p hp
      exact hps p.1 (List.of_mem_zip hp).1) ⟨ha.size,ha.at_⟩
     have e:(((rec_ none .ready).params.zip (en x).toArray).foldl (fun t (p:Nat×Value)=>t.setIfInBounds p.1 p.2) (rec_ none .ready).tmps)=(ps.zip (en x)).foldl (fun t (p:Nat×Value)=>t.setIfInBounds p.1 p.2) a.tmps:=by
      rw [hrec];simp
     rw [e];exact h1
    have hsp:Sp (([]:List Nat).map cA++(ml l (rec_ none .ready)::Z)) (E σ₁) w1:=h0.perm (by simpa using Yn.symm);have hrun:=hbody l x σ₁ j₂ σ₂ hφ (ml l (rec_ none .ready)::Z) [] _ w1 hfx rfl hsp
    have hasg:(rec_ none .ready).assign=assign:=by rw [hrec]
    have hbdy:(rec_ none .ready).body=body:=by rw [hrec]
    rw [hasg,hbdy];refine wpIn_mono hrun ?_;rintro e a1 w2 ⟨s1,L1,Ds1,g1,g2,g3,g4⟩
    cases e with
    | normal=>
     have g3':SepL ((L1++Ds1.map cA)++(ml l (rec_ none .ready)::Z)) w2:=by unfold Sp at g3;simpa only [W2] using g3
     have a8:=uy g3';have hbusy:=yU (r':={rec_ none .ready with state:=.busy}) g3';refine ⟨_,run_beginRound a8 (by rw [hrec]),?_⟩
     have b0:Sp (Ds1.map cA++(ml l {rec_ none .ready with state:=.busy}::Z)) L1 (w2.putObj l (.loop {rec_ none .ready with state:=.busy})):=by unfold Sp;simpa only [W2] using hbusy
     refine wpIn_mono (g4 (ml l {rec_ none .ready with state:=.busy}::Z) Ds1 a1 _ g1 g2 b0) ?_;rintro e3 a3 w3 ⟨s3,L3,Ds3,k1,k2,k3,k4,k5⟩
     have k3':SepL ((L3++Ds3.map cA)++(ml l {rec_ none .ready with state:=.busy}::Z)) w3:=by unfold Sp at k3;simpa only [W2] using k3
     have b5:=uy k3'
     have fin: ∀(j:Option Exit) (jump:Option Code),jump=j.bind wG->jump.isNone=j.isNone->j₂=j-> ∃v w',(Instr.endRound l jump).run P w3=.ok v w'/\(Ending.returned v=.returned (.bool j₂.isNone)/\Sp Z (ml l (rec_ j₂ (stOf j₂))::E σ₂) w'):=by
      intro j jump hj1 hj2 hj3;subst hj3;refine ⟨_,_,run_endRound jump b5,by rw [hj2],?_⟩
      have e:({{rec_ none .ready with state:=.busy} with state:=if jump.isNone then LoopState.ready else LoopState.done,pending:=jump}:Loop)=rec_ j₂ (stOf j₂):=by
       rw [hrec,hst,hj2,hj1]
      rw [e];have h6:=yU (r':=rec_ j₂ (stOf j₂)) k3'
      have h7:SepL (L3++(ml l (rec_ j₂ (stOf j₂))::Z)) (w3.putObj l (.loop (rec_ j₂ (stOf j₂)))):=by
       have h8:SepL (Ds3.map cA++(L3++(ml l (rec_ j₂ (stOf j₂))::Z))) (w3.putObj l (.loop (rec_ j₂ (stOf j₂)))):=h6.perm (by
        rw [<-W2]
        exact List.Perm.append_right _ List.perm_append_comm)
       exact h8.dropL
      have h9:=k5 (ml l (rec_ j₂ (stOf j₂))::Z) _ h7;unfold Sp at h9⊢;exact h9.perm Yn
     rcases k4 with ⟨h10,rfl⟩|⟨h10,h11⟩
     ·exact fin none none J J h10
     cases e3 with
     |ret=>exact fin (some .ret) (some .ret) rfl rfl h10
     |exit i=>exact fin (some (.exit i)) (some (.exit i)) rfl rfl h10
     |_=>cases h11
    |_=>exact g4.elim
 have hdeep:SepL (ml l (rec_ none .ready)::cA w.heap.size::((pre++E σ₀)++(Ds.map cA++H))) W1:=by
  have h1:SepL ((pre++E σ₀)++(Ds.map cA++H)) w:=hL _ _ hw
  have h2:SepL (cA w.heap.size::((pre++E σ₀)++(Ds.map cA++H))) (w.alloc (.deferred (some []))):=h1.new (Agr.of_ext ((Ext.refl w).alloc _)) fun _ S _=>⟨(· =w.heap.size),fun q hq=>by subst hq;simp,rfl,World.alloc_heap_new w _⟩
  rw [<-hW1]
  refine h2.new (Agr.of_ext ((Ext.refl _).alloc _)) fun _ S _=>⟨(· =l),fun q hq=>by subst hq;rw [hl];simp,rfl,?_⟩
  have:=World.alloc_heap_new (w.alloc (.deferred (some []))) (.loop (rec_ none .ready));rw [World.size_alloc] at this;rw [hl];exact this
 have hstn:stOf none=.ready:=by rw [hst];rfl
 have hstart:Sp (cA w.heap.size::(Ds.map cA++H)) (pre++(ml l (rec_ none (stOf none))::E σ₀)) W1:=by
  rw [hstn];refine hdeep.perm ?_;refine (List.Perm.swap _ _ _).trans ?_;refine List.Perm.trans ?_ Yn.symm;refine List.Perm.cons _ ?_;rw [<-Xu];exact List.Perm.append_right _ Yn.symm
 obtain ⟨fnc,hfn1,a6,hn1⟩:=hf
 have hn': ¬fnc.name= "runtime.NumGoroutine" :=by simpa using hn1
 have hb': ¬fnc.body=none:=by intro h;rw [h] at a6;cases a6
 refine ⟨l,[{target:=.collected w.heap.size,args:= #[]}],W1,{target:=.fn (.func gf) caps,args:= #[.func (.yield l) #[] #[]]},W1,gf,(.func (.yield l) #[] #[]::caps.toList).toArray,W1,?_,?_,fun _ _=>trivial,?_,(by intro h;cases h),?_⟩
 ·rw [<-hW1,hl,hrec];exact run_enterLoop_outer _ _ _ _ _
 ·simp only [resolve,hev];simp [Deferred.ofValue,Act.eval]
 ·simp [invoke,callFunc,hfn1,hb',hn',YQ]
 have h1:=(hit l _ hY).run _ W1 hstart;refine (callsIn_wide.2 h1:CallsIn Fence.wide (0 - 1) P gf _ W1 _).mono ?_;rintro e w3 ⟨v,post,rfl,h2,rfl⟩;have h2':SepL ([]++(ml l (rec_ je (stOf je))::(E σr++(cA w.heap.size::(Ds.map cA++H))))) w3:=h2;have hk:=uy h2';refine ⟨_,_,run_endLoop hk (by rw [hrec,hst];cases je<;>simp),?_⟩;have h3:=yU (r':={rec_ je (stOf je) with state:=.exhausted}) h2';generalize w3.putObj l (.loop {rec_ je (stOf je) with state:=.exhausted})=w4 at h3⊢
 have h4:Sp ((w.heap.size::Ds).map cA++H) (E σr) w4:=by
  have h5:SepL ([ml l {rec_ je (stOf je) with state:=.exhausted}]++(E σr++(cA w.heap.size::(Ds.map cA++H)))) _:=h3;have h6:=h5.dropL;unfold Sp;simpa using h6
 have hfin: ∀e,K e s (E σr)->yG ⟨P,n,none⟩ H K e {a with defers:=[{target:=.collected w.heap.size,args:= #[]}]++a.defers} w4:=fun e he=>⟨s,E σr,w.heap.size::Ds,⟨ha.size,ha.at_⟩,by simp [hds,wW],h4,he⟩
 cases hje:je with
 |none=>
  have:(rec_ je (stOf je)).pending=none:=by rw [hrec,hje];rfl
  rw [<-hje,this];exact hfin .normal (hdone hje)
 |some e=>
  obtain ⟨h7,h8⟩:=hleft e hje
  have:(rec_ je (stOf je)).pending=wG e:=by rw [hrec,hje];rfl
  rw [<-hje,this]
  cases e with
  |ret=>exact wpIn_ret (hfin .ret h8)
  |exit i=>exact wpIn_exit (hfin (.exit i) h8)
  |_=>cases h7
end
section
open Go.RowKit
def dX (Q:ι->W8):Chunk where
 ok T S w:= ∃(x:ι) (T':Nat->Nat->Prop),(∀(i:Nat) (c:Chunk),(Q x)[i]? =some c->c.ok (T' i) S w)/\(∀(i j q:Nat),i≠j->T' i q->T' j q->False)/\ ∀(i q:Nat),T' i q->T q
 loc:=fun h ⟨x,T',h1,h2,h3⟩=>⟨x,T',fun i c hi=>c.loc (h.mono fun q hq=>hq.imp (h3 i q) id) (h1 i c hi),h2,h3⟩
 mono:=fun h ⟨x,T',h1,h2,h3⟩=>⟨x,T',fun i c hi=>c.mono h (h1 i c hi),h2,h3⟩
 ro:=false
 dup:=fun h=>Bool.noConfusion h
theorem BT {b:Nat}{cs:W9}:ij (ah b t cs):=fun _ _ _ _ h=>h
theorem Okc.mono {args:W9}{L:W8}{R R':Value->W8->Prop}(h:Okc P f args L R)(hr:∀v post,R v post->R' v post):Okc P f args L R':=⟨h.cal,fun Z w hw=>(h.run Z w hw).mono fun e w' ⟨v,post,h1,h2,h3⟩=>⟨v,post,h1,h2,hr _ _ h3⟩⟩
theorem Hp {R:Rep α}{L Z:W8}{w:World}{c:Nat}{xs:List α}(hw:Sp Z L w)(hi:L[i]? =some (gK R (.slice A n c) xs)){l:Nat}(h1:l<=h)(h2:h<=xs.length):Sp Z (gK R (.slice (mM A c l R.sz) (h - l) (c - l)) ((xs.drop l).take (h - l))::L) w:=by
 obtain ⟨T,S,hT⟩:=hw;have hs1:SlR R S w (.slice A n c) xs:=hT.ok (aP hi);obtain ⟨T',h'⟩:=SepL.facts [gK R (.slice (mM A c l R.sz) (h - l) (c - l)) ((xs.drop l).take (h - l))] hT (fun c hc=>by simp only [Yh] at hc;subst hc;exact hs1.cut l h h1 h2);exact ⟨T',S,h'⟩
theorem Ql {R:Rep α}{X:Cx}{K:K3}{s:bF}{L:W8}{ol:List Oper}{c:Nat}{xs:List α}(i:Nat)(hi:L[i]? =some (gK R (.slice A n c) xs)){l:Nat}(h1:l<=h)(h2:h<=xs.length)(k:∀A' n' c',A'=mM A c l R.sz/\n'=h - l/\c'=c - l->bm X ops ol K s (gK R (.slice A' n' c') ((xs.drop l).take (h - l))::L)):bm X ops ol K s L:=fun H Ds a w ha hd hw=>k _ _ _ ⟨rfl,rfl,rfl⟩ H Ds a w ha hd (Hp hw hi h1 h2)
theorem II {R:Rep α}{X:Cx}{K:K3}{M:W8}{s:bF}{L:W8}{c:Nat}{xs:List α}(i:Nat)(hi:L[i]? =some (gK R (.slice A n c) xs)){l:Nat}(h1:l<=h)(h2:h<=xs.length)(k:∀A' n' c',A'=mM A c l R.sz/\n'=h - l/\c'=c - l->mN X ops K (gK R (.slice A' n' c') ((xs.drop l).take (h - l))::M) fuel listed s (gK R (.slice A' n' c') ((xs.drop l).take (h - l))::L)):mN X ops K M fuel listed s L:=fun hc H Ds a w ha hd hw=>by
 have h3:=k _ _ _ ⟨rfl,rfl,rfl⟩ (mZ _ hc) H Ds a w ha hd (Hp hw hi h1 h2);exact Cq (fun w ⟨Z,hZ⟩=>⟨Z,cv_tl _ _ hZ⟩) _ _ _ _ h3
section
variable {s:bF}{L:W8}{d:Option Nat}
theorem OG {R:Rep α}{t e sz:Nat}{A':Option Addr}{c n' c':Nat}{xs:List α}{l:Nat}(i:Nat)(hL:L[i]? =some (gK R (.slice A n c) xs))(he:A'=mM A c l R.sz/\n'=h - l/\c'=c - l)(hx:bl s x=some (.slice A n c))(hu:P.underlying t=some (.slice e))(hs:lg P e sz=true)(hsz:R.sz=sz)(hl:match lo with|none=>l=0|some o=>bl s o=some (.int .i64 (l:Int)))(hh:bl s y=some (.int .i64 (h:Int)))(h1:l<=h)(h2:h<=xs.length):Rd P s L ⟨d,.slice t x lo (some y) none,ty,pos,af,gd⟩ (.slice A' n' c'):=fun Z w hw=>by
 obtain ⟨rfl,rfl,rfl⟩:=he;subst hsz;obtain ⟨T,S,A2,c2,e2,g1, -⟩:=hw.get (aP hL)
 injection e2 with q1 q2 q3
 subst q1 q2 q3;exact r7 (hi:=some y) hx hu hs hl hh h1 I
theorem Bi {R:Rep α}{t e sz:Nat}{A':Option Addr}{c n' c':Nat}{xs:List α}{l:Nat}(i:Nat)(hL:L[i]? =some (gK R (.slice A n c) xs))(he:A'=mM A c l R.sz/\n'=xs.length - l/\c'=c - l)(hx:bl s x=some (.slice A n c))(hu:P.underlying t=some (.slice e))(hs:lg P e sz=true)(hsz:R.sz=sz)(hl:match lo with|none=>l=0|some o=>bl s o=some (.int .i64 (l:Int)))(h1:l<=xs.length):Rd P s L ⟨d,.slice t x lo none none,ty,pos,af,gd⟩ (.slice A' n' c'):=fun Z w hw=>by
 obtain ⟨rfl,rfl,rfl⟩:=he;subst hsz;obtain ⟨T,S,A2,c2,e2,g1, -⟩:=hw.get (aP hL)
 injection e2 with q1 q2 q3
 subst q1 q2 q3;exact r7 (hi:=none) hx hu hs hl J h1 I
end
theorem kZ {Q:ι->W8}{L Z:W8}{w:World}(h:Sp Z (dX Q::L) w): ∃x,Sp Z (Q x++L) w:=by
 obtain ⟨T,S,h⟩:=h;obtain ⟨x,T',h1,h2,h3⟩:=h.ok (i:=0) (c:=dX Q) rfl;refine ⟨x,fun i=>if i<(Q x).length then T' i else T (i - (Q x).length+1),S,?_,?_,?_,?_,h.lts⟩
 ·intro i c hi;rw [W2] at hi;by_cases hlt:i<(Q x).length
  ·rw [XH hlt] at hi;simp only [hlt,if_true];exact h1 i c hi
  rw [XI I] at hi;simp only [hlt,if_false];exact h.ok (i:=i - (Q x).length+1) (by simpa using hi)
 ·intro i j q hij h4 h5;by_cases e1:i<(Q x).length<;>by_cases e2:j<(Q x).length
  ·simp only [e1,e2,if_true] at h4 h5;exact h2 i j q hij h4 h5
  ·simp only [e1,e2,if_true,if_false] at h4 h5;exact h.apart (i:=0) I (h3 i q h4) h5
  ·simp only [e1,e2,if_true,if_false] at h4 h5;exact h.apart (i:=0) I (h3 j q h5) h4
  simp only [e1,e2,if_false] at h4 h5;exact h.apart I h4 h5
 ·intro i q h4 h5;by_cases e1:i<(Q x).length
  ·simp only [e1,if_true] at h4;exact h.ro (h3 i q h4) h5
  simp only [e1,if_false] at h4;exact h.ro h4 h5
 intro i q h4;by_cases e1:i<(Q x).length
 ·simp only [e1,if_true] at h4;exact h.lt (h3 i q h4)
 simp only [e1,if_false] at h4;exact h.lt h4
theorem fE {Q:ι->W8}{L:W8}(x:ι):Cv (Q x++L) (dX Q::L):=fun Z w h=>by
 obtain ⟨T,S,h⟩:=h;refine ⟨fun i=>match i with|0=>fun q=> ∃j,j<(Q x).length/\T j q|i+1=>T (i+(Q x).length),S,?_,?_,?_,?_,h.lts⟩
 ·intro i c hi
  cases i with
  |zero=>
   simp only [Xu,XK,YN] at hi;subst hi;refine ⟨x,fun j q=>j<(Q x).length/\T j q,fun j c hj=> ?_,fun i j q hij h1 h2=>h.apart hij h1.2 h2.2,fun j q hq=>⟨j,hq⟩⟩;have hlt:=(XO.1 hj).1
   have e:(fun q=>j<(Q x).length/\T j q)=T j:=by funext q;simp [hlt]
   show c.ok (fun q=>j<(Q x).length/\T j q) S w;rw [e];exact h.ok (by rw [W2,XH hlt];exact hj)
  |succ i=>
   simp only [Xu,XJ] at hi;exact h.ok (by rw [W2,XI I,Nat.add_sub_cancel];exact hi)
 ·intro i j q hij h1 h2
  cases i with
  |zero=>cases j with
   |zero=>exact hij rfl
   |succ j=>obtain ⟨k,hk,h3⟩:=h1;exact h.apart I h3 h2
  |succ i=>cases j with
   |zero=>obtain ⟨k,hk,h3⟩:=h2;exact h.apart I h3 h1
   |succ j=>exact h.apart I h1 h2
 ·intro i q h1 h2
  cases i with
  |zero=>obtain ⟨k,hk,h3⟩:=h1;exact h.ro h3 h2
  |succ i=>exact h.ro h1 h2
 intro i q h1
 cases i with
 |zero=>obtain ⟨k,hk,h3⟩:=h1;exact h.lt h3
 |succ i=>exact h.lt h1
theorem fZ {Q:ι->W8}{L:W8}(x:ι)(h:L=Q x):Cv L [dX Q]:=fun Z w hw=>by
 subst h;have:=fE (Q:=Q) (L:=[]) x Z w (by simpa using hw);exact this
theorem Qi {Q:ι->W8}{X:Cx}{K:K3}{s:bF}(h:∀x,Wq X c K s (Q x)):Wq X c K s [dX Q]:=fun H Ds a w ha hd hw=>by
 obtain ⟨x,hx⟩:=kZ hw;exact h x H Ds a w ha hd (by simpa using hx)
end
section
open Go.RowKit Go.ChangeShapes Go.WideShapes Go.Deep
theorem Gi {w:World}{a:Addr}(h:w.cell? a=some v):a=⟨a.block,a.off,none⟩:=by
 obtain ⟨b,o,sp⟩:=a
 cases sp with
 |none=>rfl
 |some s=>
  exfalso;unfold World.cell? at h;split at h<;>simp at h
theorem Hy (b o n:Nat):(⟨b,o,none⟩:Addr).add n=⟨b,o+n,none⟩:=by unfold Addr.add;split<;>simp_all
end
section
open Go.RowKit Go.ChangeShapes Go.WideShapes Go.Deep
def Rdr (P:Program)(t:TypeId)(R:Rep α)(wf:α->Prop):Prop:= ∀{H:Type} {enc:TypeId×Value->H} {w:World} {base:Nat} {spare:Nat->Bool} {held:Bool} {n:Nat} {cs:W9} {y:DataW H×List MemPlace},DataW.trod enc P w base spare held n t cs=some y-> ∃a,R.rel (fun q=>q<w.heap.size) w cs a/\wf a
theorem Ea {a:Int}(h:(Lit.int .i64 a).wf=true):in64 a:=by
 have e1:IntKind.i64.min= -9223372036854775808:=rfl;have e2:IntKind.i64.max=9223372036854775807:=rfl;unfold Lit.wf at h;simp only [e1,e2,Y3,YT] at h;exact h
theorem uA (ht:P.underlying t=some (.int .i64)):Rdr P t (nH .i64) in64:=fun h=>by
 obtain ⟨a,r,hw⟩:=DataW.trod_int ht h;exact ⟨a,r,by first|exact Ea hw|exact Ea hw.1|exact Ea hw.2⟩
theorem zH {R:Rep α}{w:World}{b o:Nat}: ∀(k:Nat) (vss:List W9) (xs:List α),All2 (R.rel S w) vss xs->(∀(i:Nat) (vs:W9),vss[i]? =some vs->CellsAt w b (o+(k+i)*R.sz) vs)->CellsAt w b (o+k*R.sz) vss.flatten
 |_,_,_,.nil,_=>fun j u hj=>by simp at hj
 | k,_,_,.cons (a:=a) (l:=l) h1 h2,hc=>fun j u hj=>by
  rw [XG] at hj;by_cases hlt:j<a.length
  ·rw [XH hlt] at hj;have:=hc 0 a rfl j u hj;simpa using this
  rw [XI I] at hj;have h3:=zH (k+1) _ _ h2 (fun i vs hi=>by have:=hc (i+1) vs (by simpa using hi);rwa [show k+1+i=k+(i+1) by omega]);have h4:=h3 _ _ hj;rw [R.len h1] at h4 hlt;rw [show o+k*R.sz+j=o+(k+1)*R.sz+(j - R.sz) by rw [Yx];omega];exact h4
theorem C7 {R:W9->α->Prop}: ∀{n:Nat} (f:_root_.Fin n->W9) (g:_root_.Fin n->α),(∀i,R (f i) (g i))->All2 R (List.ofFn f) (List.ofFn g)
 |0,_,_,_=>by simp;exact .nil
 |n+1,f,g,h=>by rw [List.ofFn_succ,List.ofFn_succ];exact .cons (h 0) (C7 _ _ fun i=>h i.succ)
theorem Ag {w:World}{L:W8}{c:Chunk}(h:∃T,SepT (L++ [Gk w]) T (fun q=>q<w.heap.size) w)(hc:c.ok (fun _=>False) (fun q=>q<w.heap.size) w): ∃T,SepT ((c::L)++ [Gk w]) T (fun q=>q<w.heap.size) w:=by
 obtain ⟨T,h⟩:=h;obtain ⟨T',h'⟩:=SepL.facts [c] h (t5 hc au);exact ⟨T',h'⟩
theorem MU (w:World): ∃T,SepT ([]++ [Gk w]) T (fun q=>q<w.heap.size) w:=⟨fun _ _=>False,fun {i c} hi=>by
 cases i with
 |zero=>simp only [Y4,XK,YN] at hi;subst hi;exact ⟨Ext.refl w,fun _ h=>h⟩
 |succ i=>simp at hi,fun _ h=>h.elim,fun h=>h.elim,fun h=>h.elim,fun h=>h⟩
theorem Iw {args:W9}{L:W8}{w:World}(h:Okc P f args L fun u post=>u=.bool true/\post=[])(hs:∃T,SepT (L++ [Gk w]) T (fun q=>q<w.heap.size) w):Calls P f args.toArray w fun e w'=>e=.returned (.bool true)/\Ext w w':=by
 obtain ⟨T,hT⟩:=hs;refine (h.run [Gk w] w ⟨T,_,hT⟩).mono ?_;rintro e w' ⟨u,post,rfl,h2,rfl,rfl⟩;obtain ⟨T2,S2,h3, -⟩:=SepL.get h2 (i:=0) (c:=Gk w) rfl;exact ⟨J,h3⟩
end
end Go.Proofs.YtmcifcmlojonnaaGreatDoor