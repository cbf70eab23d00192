/- Merged texts: part 1. No conditions of their own. -/
import Derived.WalkKit
import Derived.WalkSpells
import Derived.WalkLawsBesides
import Derived.Lib.Hide
import Derived.Deep.QuietTactic
import Derived.BigQuiet
import Derived.Orders
import Derived.KernelRfl
import Derived.Deep.Quiet
import Derived.Deep.LoopGhost
import Derived.StillTail
import Derived.Laws.AppendOwn
import Derived.Laws.MakeOwn
import Derived.Laws.OwnMore
import Derived.RangeFuncLeaves
import Derived.RangeFuncRecord
import Derived.OrdersIn
import Derived.RangeFuncKeeps
import Derived.Deep.Slices
import Derived.Deep.Fields
import Derived.ChangeSame
namespace Go.Proofs.YthhiddkljcacaaaGreat
variable {a:Act}{listed:Array Bool}{af:Array Edge}{ops:Array Oper}{ats:Array TypeId}{cs:Array Value}{g:Bool}{c:Code}{Q:Exit->Act->World->Prop}{fn:Func}{f:FuncId}{k:IntKind}{ps:List (Nat×Operand)}{vs:List (Nat×Value)}{l:List Oper}{caps xs:List Operand}{b cap fuel h i j m n off:Nat}{T:Nat->Nat->Prop}{S:Nat->Prop}{o oi oj:Oper}{x y:Operand}{ρ:Operand->Value}{gd:Option (Nat×Bool)}{A A2:Option Addr}{lo:Option Operand}{P:Program}{p:Prop}{pos:String}{α β ι:Type}{bt e kt t ty:TypeId}{u v z:Value}{w':World}{C:World->Prop}
section
theorem XY {l:List α}(h:n<l.length):l[n]∈l:=List.getElem_mem h
theorem XX (l:List α):[]++l=l:=List.nil_append l
theorem XW (a b:Bool):((a&&b)=true)=(a=true/\b=true):=Bool.and_eq_true a b
theorem XV {l:List α}:l.take l.length=l:=List.take_length
theorem XU {as:List α}(f:α->β):(as.map f).length=as.length:=List.length_map f
theorem XT {l:List α}:(l.take i).length=min i l.length:=List.length_take
theorem XS {as bs:List α}:(as++bs).length=as.length+bs.length:=List.length_append
theorem XR:type_of% @run_underlying:=@run_underlying
theorem XQ:type_of% @of_decide_eq_true:=@of_decide_eq_true
theorem XP:type_of% @of_decide_eq_false:=@of_decide_eq_false
theorem XO:type_of% @decide_eq_true_eq:=@decide_eq_true_eq
theorem XN:type_of% @decide_eq_false_iff_not:=@decide_eq_false_iff_not
theorem XM:type_of% @Sem.run_pure:=@Sem.run_pure
theorem XL:type_of% @Sem.run_bind:=@Sem.run_bind
theorem XK:type_of% @Result.andThen_ok:=@Result.andThen_ok
theorem XJ.{u,v}:type_of% @Prod.mk.inj.{u,v}:=@Prod.mk.inj.{u,v}
theorem XI.{u}:type_of% @Option.some.injEq.{u}:=@Option.some.injEq.{u}
theorem XH.{u}:type_of% @Option.some.inj.{u}:=@Option.some.inj.{u}
theorem XG.{u,v}:type_of% @Option.map_some.{u,v}:=@Option.map_some.{u,v}
theorem XF.{u}:type_of% @Option.getD_some.{u}:=@Option.getD_some.{u}
theorem XE.{u,v}:type_of% @Option.bind_some.{u,v}:=@Option.bind_some.{u,v}
theorem XD:type_of% @Nat.zero_le:=@Nat.zero_le
theorem XC:type_of% @Nat.zero_add:=@Nat.zero_add
theorem XB:type_of% @Nat.mul_le_mul_right:=@Nat.mul_le_mul_right
theorem XA:type_of% @Nat.lt_or_ge:=@Nat.lt_or_ge
theorem Xz:type_of% @Nat.lt_of_lt_of_le:=@Nat.lt_of_lt_of_le
theorem Xy:type_of% @Nat.le_trans:=@Nat.le_trans
theorem Xx:type_of% @Nat.le_refl:=@Nat.le_refl
theorem Xw:type_of% @Nat.le_of_ble_eq_true:=@Nat.le_of_ble_eq_true
theorem Xv:type_of% @Nat.eq_zero_or_pos:=@Nat.eq_zero_or_pos
theorem Xu:type_of% @Nat.eq_of_beq_eq_true:=@Nat.eq_of_beq_eq_true
theorem Xt:type_of% @Nat.add_mul:=@Nat.add_mul
theorem Xs.{u,v}:type_of% @List.zip_nil_right.{u,v}:=@List.zip_nil_right.{u,v}
theorem Xr.{u,v}:type_of% @List.zip_nil_left.{u,v}:=@List.zip_nil_left.{u,v}
theorem Xq.{u,v}:type_of% @List.zip_cons_cons.{u,v}:=@List.zip_cons_cons.{u,v}
theorem Xp.{u}:type_of% @List.take_zero.{u}:=@List.take_zero.{u}
theorem Xo.{u}:type_of% @List.take_succ_cons.{u}:=@List.take_succ_cons.{u}
theorem Xn.{u}:type_of% @List.take_of_length_le.{u}:=@List.take_of_length_le.{u}
theorem Xm.{u}:type_of% @List.take_append_drop.{u}:=@List.take_append_drop.{u}
theorem Xl.{u}:type_of% @List.reverse_nil.{u}:=@List.reverse_nil.{u}
theorem Xk.{u}:type_of% @List.reverse_cons.{u}:=@List.reverse_cons.{u}
theorem Xj.{u}:type_of% @List.perm_middle.{u}:=@List.perm_middle.{u}
theorem Xi.{u}:type_of% @List.perm_append_comm_assoc.{u}:=@List.perm_append_comm_assoc.{u}
theorem Xh.{u}:type_of% @List.pairwise_iff_getElem.{u}:=@List.pairwise_iff_getElem.{u}
theorem Xg.{u}:type_of% @List.nodup_append.{u}:=@List.nodup_append.{u}
theorem Xf.{u}:type_of% @List.mem_singleton.{u}:=@List.mem_singleton.{u}
theorem Xe:type_of% @List.mem_range:=@List.mem_range
theorem Xd.{u}:type_of% @List.mem_of_getElem?.{u}:=@List.mem_of_getElem?.{u}
theorem Xc.{u,v}:type_of% @List.mem_map.{u,v}:=@List.mem_map.{u,v}
theorem Xb.{u}:type_of% @List.mem_filter.{u}:=@List.mem_filter.{u}
theorem Xa.{u}:type_of% @List.mem_cons_of_mem.{u}:=@List.mem_cons_of_mem.{u}
theorem W9.{u}:type_of% @List.mem_cons.{u}:=@List.mem_cons.{u}
theorem W8.{u}:type_of% @List.mem_append.{u}:=@List.mem_append.{u}
theorem W7.{u,v}:type_of% @List.map_toArray.{u,v}:=@List.map_toArray.{u,v}
theorem W6.{u,v}:type_of% @List.map_cons.{u,v}:=@List.map_cons.{u,v}
theorem W5.{u,v}:type_of% @List.map_append.{u,v}:=@List.map_append.{u,v}
theorem W4.{u}:type_of% @List.length_singleton.{u}:=@List.length_singleton.{u}
theorem W3.{u}:type_of% @List.length_set.{u}:=@List.length_set.{u}
theorem W2.{u}:type_of% @List.length_nil.{u}:=@List.length_nil.{u}
theorem W0.{u}:type_of% @List.length_filter_le.{u}:=@List.length_filter_le.{u}
theorem WZ.{u}:type_of% @List.length_drop.{u}:=@List.length_drop.{u}
theorem WY.{u}:type_of% @List.length_cons.{u}:=@List.length_cons.{u}
theorem WX.{u}:type_of% @List.getElem_of_mem.{u}:=@List.getElem_of_mem.{u}
theorem WW.{u,v}:type_of% @List.getElem_map.{u,v}:=@List.getElem_map.{u,v}
theorem WV.{u}:type_of% @List.getElem?_toArray.{u}:=@List.getElem?_toArray.{u}
theorem WU.{u}:type_of% @List.getElem?_take.{u}:=@List.getElem?_take.{u}
theorem WT.{u}:type_of% @List.getElem?_set_self.{u}:=@List.getElem?_set_self.{u}
theorem WS.{u}:type_of% @List.getElem?_set_ne.{u}:=@List.getElem?_set_ne.{u}
theorem WR.{u,v}:type_of% @List.getElem?_map.{u,v}:=@List.getElem?_map.{u,v}
theorem WQ.{u}:type_of% @List.getElem?_eq_some_iff.{u}:=@List.getElem?_eq_some_iff.{u}
theorem WP.{u}:type_of% @List.getElem?_eq_none.{u}:=@List.getElem?_eq_none.{u}
theorem WO.{u}:type_of% @List.getElem?_eq_getElem.{u}:=@List.getElem?_eq_getElem.{u}
theorem WN.{u}:type_of% @List.getElem?_drop.{u}:=@List.getElem?_drop.{u}
theorem WM.{u}:type_of% @List.getElem?_cons_zero.{u}:=@List.getElem?_cons_zero.{u}
theorem WL.{u}:type_of% @List.getElem?_cons_succ.{u}:=@List.getElem?_cons_succ.{u}
theorem WK.{u}:type_of% @List.getElem?_append_right.{u}:=@List.getElem?_append_right.{u}
theorem WJ.{u}:type_of% @List.getElem?_append_left.{u}:=@List.getElem?_append_left.{u}
theorem WI.{u}:type_of% @List.flatten_cons.{u}:=@List.flatten_cons.{u}
theorem WH.{u,v}:type_of% @List.flatMap_cons.{u,v}:=@List.flatMap_cons.{u,v}
theorem WG.{u,v}:type_of% @List.flatMap_append.{u,v}:=@List.flatMap_append.{u,v}
theorem WF.{u}:type_of% @List.filter_cons.{u}:=@List.filter_cons.{u}
theorem WE.{u}:type_of% @List.ext_getElem?.{u}:=@List.ext_getElem?.{u}
theorem WD.{u}:type_of% @List.eq_nil_of_length_eq_zero.{u}:=@List.eq_nil_of_length_eq_zero.{u}
theorem WC.{u}:type_of% @List.drop_zero.{u}:=@List.drop_zero.{u}
theorem WB.{u}:type_of% @List.drop_succ_cons.{u}:=@List.drop_succ_cons.{u}
theorem WA.{u}:type_of% @List.drop_eq_nil_of_le.{u}:=@List.drop_eq_nil_of_le.{u}
theorem Wz.{u}:type_of% @List.drop_eq_getElem_cons.{u}:=@List.drop_eq_getElem_cons.{u}
theorem Wy.{u}:type_of% @List.cons_append.{u}:=@List.cons_append.{u}
theorem Wx.{u}:type_of% @List.cons.injEq.{u}:=@List.cons.injEq.{u}
theorem Ww.{u}:type_of% @List.cons.inj.{u}:=@List.cons.inj.{u}
theorem Wv.{u}:type_of% @List.append_nil.{u}:=@List.append_nil.{u}
theorem Wu.{u}:type_of% @List.all_eq_true.{u}:=@List.all_eq_true.{u}
theorem Wt:type_of% @Int.toNat_of_nonneg:=@Int.toNat_of_nonneg
theorem Ws:type_of% @Int.toNat_natCast:=@Int.toNat_natCast
theorem Wp:type_of% @Int.tmod_eq_emod_of_nonneg:=@Int.tmod_eq_emod_of_nonneg
theorem Wo:type_of% @Int.tdiv_eq_ediv_of_nonneg:=@Int.tdiv_eq_ediv_of_nonneg
theorem Wn:type_of% @Int.natCast_add:=@Int.natCast_add
theorem Wm:type_of% @Int.cast_ofNat_Int:=@Int.cast_ofNat_Int
theorem Wl:type_of% @Bool.true_and:=@Bool.true_and
theorem Wk:type_of% @Bool.false_eq_true:=@Bool.false_eq_true
theorem Wj:type_of% @Bool.false_and:=@Bool.false_and
theorem Wi:type_of% @Bool.and_false:=@Bool.and_false
theorem Wh.{u}:type_of% @Array.getElem?_setIfInBounds_ne.{u}:=@Array.getElem?_setIfInBounds_ne.{u}
theorem Wg.{u}:type_of% @Array.getElem?_eq_none.{u}:=@Array.getElem?_eq_none.{u}
theorem Wf.{u}:type_of% @Array.getElem?_eq_getElem.{u}:=@Array.getElem?_eq_getElem.{u}
theorem We.{u}:type_of% @Array.getD_eq_getD_getElem?.{u}:=@Array.getD_eq_getD_getElem?.{u}
abbrev Wb:=List Value
abbrev V9:=List (Int×Int)
abbrev V8:=List (Int×Bool)
abbrev VZ:=List Int
theorem V5 {α:Type _}{a:α}(s:List α){t:List α}(h:a∈t):a∈s++t:=List.mem_append_right s h
theorem V4 {α:Type _}{a:α}{s:List α}(t:List α)(h:a∈s):a∈s++t:=List.mem_append_left t h
theorem V3 {α:Type _}(a b c:List α):a++b++c=a++(b++c):=List.append_assoc a b c
theorem V2 (n:Nat):n<n+1:=Nat.lt_succ_self n
theorem V1 [Decidable p](h:¬p):decide p=false:=decide_eq_false h
theorem V0 [Decidable p](h:p):decide p=true:=decide_eq_true h
abbrev Y (A:Option Addr)(n c:Nat):Value:=.slice A n c
theorem J {α:Sort _}{a:α}:a=a:=rfl
theorem I (h:p:=by kernel_rfl):p:=h
theorem U (h:p:=by omega):p:=h
theorem jn {α:Type _}{a b:α}(h:some a=some b):a=b:=XH h
open Go.RowKit
abbrev Ext (w w':World):Prop:=Below w.heap.size w w'
theorem Ext.refl (w:World):Ext w w:=Below.refl _ _
theorem Ext.trans {a b c:World}(h:Ext a b)(k:Ext b c):Ext a c:=Below.trans h (Below.mono k h.size)
theorem Ext.drew {a w:World}(h:Ext a w):Ext a w.drew:=⟨h.os,h.tape,h.output,h.size,h.block⟩
theorem Ext.alloc {a w:World}(h:Ext a w)(o:Obj):Ext a (w.alloc o):=Below.alloc h h.size o
def Blk (w:World)(b:Nat)(t:TypeId)(cs:Array Value):Prop:=w.heap[b]? =some (.cells cs t (0,0))
theorem Blk.lt {w:World}(h:Blk w b t cs):b<w.heap.size:=by
 rcases XA b w.heap.size with hlt|hge
 ·exact hlt
 unfold Blk at h;rw [Wg hge] at h;cases h
theorem Blk.new (w:World)(t:TypeId)(cs:Array Value):Blk (w.alloc (.cells cs t)) w.heap.size t cs:=heap_alloc_new w _
theorem Blk.ext {w:World}(h:Blk w b t cs)(hb:Ext w w'):Blk w' b t cs:=(hb.block b h.lt).trans h
theorem Blk.cells {w:World}(h:Blk w b t cs): ∀j,w.cell? ⟨b,j,none⟩=cs[j]? :=fun j=>cell_of_row w b j cs t (0,0) h
theorem Blk.free {w:World}(h:Blk w b t cs): ∀j,w.frozen? ⟨b,j,none⟩=false:=fun j=>frozen_of_row w b j cs t h
abbrev bA:=List (Nat×Value)
def jq:bA->Nat->Option Value
 | [],_=>none
 |(k,v)::r,i=>bif Nat.beq k i then some v else jq r i
def be (s:bA):Operand->Option Value
 | .tmp t=>jq s t
 | .const v=>some v
 | .global g=>some (.pointer (some ⟨g,0,none⟩))
 | .func f=>some (.func (.func f) #[] #[])
structure Fits (n:Nat) (s:bA) (a:Act):Prop where
 size:a.tmps.size=n
 defers:a.defers=[]
 at_: ∀k v,jq s k=some v->a.tmps.getD k undef=v
def AV (s t:bA):Prop:= ∀k v,jq t k=some v->jq s k=some v
theorem dl {s:bA}:AV s s:=fun _ _ h=>h
theorem PM {s:bA}:AV s []:=fun _ _ h=>(by cases h)
theorem kX (s:bA)(d k:Nat)(v:Value):jq ((d,v)::s) k=if d=k then some v else jq s k:=by
 show (bif Nat.beq d k then some v else jq s k)=_;by_cases h:d=k
 ·subst h;simp
 rw [if_neg h]
 have:Nat.beq d k=false:=by cases hb:Nat.beq d k with
  |false=>rfl
  |true=>exact absurd (Xu hb) h
 rw [this];rfl
theorem xB {s t:bA}{k:Nat}(h:jq s k=some v)(ht:AV s t):AV s ((k,v)::t):=fun j u hj=>by
 rw [kX] at hj;by_cases e:k=j
 ·subst e;rw [if_pos rfl] at hj;rw [h,hj]
 rw [if_neg e] at hj;exact ht j u hj
theorem ck {s t:bA}{k:Nat}(ht:AV s t)(h:jq t k=none):AV ((k,v)::s) t:=fun j u hj=>by
 rw [kX];by_cases e:k=j
 ·subst e;rw [h] at hj;cases hj
 rw [if_neg e];exact ht j u hj
theorem Ou {s t:bA}{k:Nat}(hs:AV s t)(h:jq t k=some v):jq s k=some v:=hs k v h
theorem Fits.eval {s:bA}(h:Fits n s a)(hx:be s x=some v):a.eval x=v:=by
 cases x with
 |tmp t=>exact h.at_ t v hx
 |const u=>exact XH hx
 |global g=>exact XH hx
 |func f=>exact XH hx
theorem Fits.put {s:bA}(h:Fits n s a){d:Nat}(v:Value)(hd:d<n):Fits n ((d,v)::s) (a.put (some d) v):=by
 refine ⟨by simp [Act.put,h.size],h.defers,fun k u hk=> ?_⟩;rw [kX] at hk
 have hd':d<a.tmps.size:=by rw [h.size];exact hd
 by_cases e:d=k
 ·subst e;rw [if_pos rfl] at hk;simp [Act.put,hd',XH hk]
 rw [if_neg e] at hk;have:=h.at_ k u hk;simpa [Act.put,Wh e] using this
abbrev Dl:=Exit->bA->World->Prop
def Fin (n:Nat)(K:Dl):Exit->Act->World->Prop:=fun e a w=> ∃s,Fits n s a/\K e s w
def RH (id:Nat)(K:Dl):Dl
 | .exit j,s,w=>bif Nat.beq j id then K .normal s w else K (.exit j) s w
 |e,s,w=>K e s w
def Ev (P:Program)(s:bA)(C:World->Prop)(o:Oper)(v:Value):Prop:= ∀ρ:Operand->Value,(∀x u,be s x=some u->ρ x=u)-> ∀w,C w->(execOp ρ o).run P w=.ok (.value v) w
def aA (ops:Array Oper)(s:bA)(o:Oper):Option Bool:=
 match o.guard with
 |none=>some true
 | some (j,want)=>
  match (ops[j]?).bind (·.dst) with
  |none=>none
  |some d=>
   match jq s d with
   |some (.bool b)=>some (b==want)
   |some _=>some false
   |none=>none
theorem H1 {s:bA}{b:Bool}(ha:Fits n s a)(h:aA ops s o=some b):Region.wanted o (yielded ops a.tmps)=b:=by
 unfold aA at h;unfold Region.wanted
 cases hg:o.guard with
 |none=>rw [hg] at h;simpa using h
 | some p=>
  obtain ⟨j,want⟩:=p;rw [hg] at h;simp only at h⊢;unfold yielded
  cases hd:(ops[j]?).bind (·.dst) with
  |none=>rw [hd] at h;cases h
  | some d=>
   rw [hd] at h;simp only at h
   cases hl:jq s d with
   |none=>rw [hl] at h;cases h
   | some v=>
    rw [hl] at h;have hv:=ha.at_ d v hl
    cases v with
    | bool c=>
     simp only [XI] at h
     have:a.tmps[d]? =some (.bool c):=by
      rcases XA d a.tmps.size with hlt|hge
      ·simp [hlt] at hv;simp [hlt,hv]
      simp [hge,undef] at hv
     simp only [XE,this];rw [<-h];cases c<;>cases want<;>rfl
    |_=>
     have hs:some false=some b:=h;have hb:=XH hs;subst hb;simp only [XE];rcases XA d a.tmps.size with hlt|hge
     ·simp [hlt] at hv;simp [hlt,hv]
     simp [hge]
section
variable {s:bA}{w:World}{d:Nat}
def DE (s:bA):List Operand->Option Wb
 | []=>some []
 |x::r=>match be s x,DE s r with
  |some v,some l=>some (v::l)
  |_,_=>none
theorem nL {s:bA}(h:∀x u,be s x=some u->ρ x=u): ∀{l:List Operand} {vs:Wb},DE s l=some vs->l.map ρ=vs
 | [],vs,e=>by simp [DE] at e;simp [e]
 | x::r,vs,e=>by
  unfold DE at e
  cases hx:be s x with
  |none=>rw [hx] at e;cases e
  | some v=>
   cases hr:DE s r with
   |none=>rw [hx,hr] at e;cases e
   |some l=>
    rw [hx,hr] at e;simp only [XI] at e;rw [W6,h x v hx,nL h hr,e]
def qn (P:Program)(f:FuncId):Prop:= ∃fn:Func,P.funcs[f]? =some fn/\fn.body.isNone=false/\(fn.name== "runtime.NumGoroutine")=false
theorem xI {d:Option Nat}{vs:Wb}(hf:qn P f)(hv:xs.map ρ=vs)(hρ:ρ (.func f)=.func (.func f) #[] #[]):
  (execOp ρ ⟨d,.call ⟨.value (.func f),xs.toArray,ats⟩,ty,pos,af,gd⟩).run P w=.ok (.enter f vs.toArray) w:=by
 unfold execOp;simp only [resolve,hρ,Deferred.ofValue,W7,hv];obtain ⟨fn,hf,hb,hn⟩:=hf
 have hn': ¬fn.name= "runtime.NumGoroutine" :=by simpa using hn
 have hb': ¬fn.body=none:=by intro h;rw [h] at hb;cases hb
 simp [invoke,callFunc,hf,hb',hn',XL]
end
section
variable {s:bA}{d:Option Nat}
theorem ao (h:be s x=some v):Ev P s C ⟨d,.move x,ty,pos,af,gd⟩ v:=fun ρ hρ w _=>by
 show (Sem.pure (Next.value (ρ x))).run P w=_;rw [hρ x v h];rfl
theorem mi (h:be s x=some v):Ev P s C ⟨d,.assign x,ty,pos,af,gd⟩ v:=fun ρ hρ w _=>by
 show (Sem.pure (Next.value (ρ x))).run P w=_;rw [hρ x v h];rfl
theorem GZ {c:Operand}(hc:be s c=some (.bool true))(hx:be s x=some u):Ev P s C ⟨d,.pick c x y,ty,pos,af,gd⟩ u:=fun ρ hρ w _=>by
 unfold execOp;simp only [hρ c _ hc,hρ x _ hx];rfl
theorem G0 {c:Operand}(hc:be s c=some (.bool false))(hy:be s y=some u):Ev P s C ⟨d,.pick c x y,ty,pos,af,gd⟩ u:=fun ρ hρ w _=>by
 unfold execOp;simp only [hρ c _ hc,hρ y _ hy];rfl
theorem OZ {b:Bool}(h:be s x=some (.bool b)):Ev P s C ⟨d,.unOp .not t x,ty,pos,af,gd⟩ (.bool (!b)):=fun ρ hρ w _=>by
 unfold execOp;simp only [hρ x _ h];rfl
theorem uy {vs:Array Value}(h:be s x=some (.tuple vs))(hi:vs[i]? =some v):Ev P s C ⟨d,.extract x i,ty,pos,af,gd⟩ v:=fun ρ hρ w _=>by
 unfold execOp;simp only [hρ x _ h,Instr.extract,hi];rfl
theorem bF {a:Addr}(h:be s x=some (.pointer (some a))):Ev P s C ⟨d,.nilCheck x,ty,pos,af,gd⟩ (.pointer (some a)):=fun ρ hρ w _=>by
 unfold execOp;simp only [hρ x _ h];rfl
theorem fD {b:BinOp}{u:TypeId}{p q:Value}(hx:be s x=some p)(hy:be s y=some q)(hr:∀w,(do eqGuard b t x y p q;binOp b t p q:Sem Value).run P w=.ok v w):Ev P s C ⟨d,.binOp b t x y u,ty,pos,af,gd⟩ v:=fun ρ hρ w _=>by
 unfold execOp;simp only [hρ x _ hx,hρ y _ hy];have:=hr w;rw [XL,this];rfl
theorem yR {z:Int}(h1:-9223372036854775808<=z)(h2:z<=9223372036854775807):IntKind.i64.wrap z=z:=IntWalk.i64_in z ⟨by omega,by omega⟩
theorem fF {u:TypeId}{a b:Int}(hx:be s x=some (.int .i64 a))(hy:be s y=some (.int .i64 b))(h1:-9223372036854775808<=a+b)(h2:a+b<=9223372036854775807):Ev P s C ⟨d,.binOp .add t x y u,ty,pos,af,gd⟩ (.int .i64 (a+b)):=
 fD hx hy fun w=>(show Result.ok (Value.int .i64 (IntKind.i64.wrap (a+b))) w=_ by rw [yR h1 h2])
theorem wK {u:TypeId}{a b:Int}(hx:be s x=some (.int .i64 a))(hy:be s y=some (.int .i64 b))(h1:-9223372036854775808<=a - b)(h2:a - b<=9223372036854775807):Ev P s C ⟨d,.binOp .sub t x y u,ty,pos,af,gd⟩ (.int .i64 (a - b)):=
 fD hx hy fun w=>(show Result.ok (Value.int .i64 (IntKind.i64.wrap (a - b))) w=_ by rw [yR h1 h2])
theorem nw {u:TypeId}{a b:Int}(hx:be s x=some (.int .i64 a))(hy:be s y=some (.int .i64 b))(h1:-9223372036854775808<=a*b)(h2:a*b<=9223372036854775807):Ev P s C ⟨d,.binOp .mul t x y u,ty,pos,af,gd⟩ (.int .i64 (a*b)):=
 fD hx hy fun w=>(show Result.ok (Value.int .i64 (IntKind.i64.wrap (a*b))) w=_ by rw [yR h1 h2])
theorem pf {u:TypeId}{a b:Int}(hx:be s x=some (.int .i64 a))(hy:be s y=some (.int .i64 b))(h:b≠0):Ev P s C ⟨d,.binOp .rem t x y u,ty,pos,af,gd⟩ (.int .i64 (a.tmod b)):=
 fD hx hy fun w=>(by show (Op.intDiv .rem .i64 a b).run P w=_;unfold Op.intDiv;rw [if_neg h];rfl)
theorem AM {u:TypeId}{a b:Int}(hx:be s x=some (.int .i64 a))(hy:be s y=some (.int .i64 b))(h:b≠0)(h1:-9223372036854775808<=a.tdiv b)(h2:a.tdiv b<=9223372036854775807):Ev P s C ⟨d,.binOp .quo t x y u,ty,pos,af,gd⟩ (.int .i64 (a.tdiv b)):=
 fD hx hy fun w=>(by show (Op.intDiv .quo .i64 a b).run P w=_;unfold Op.intDiv;rw [if_neg h];show Result.ok (Value.int .i64 (IntKind.i64.wrap (a.tdiv b))) w=_;rw [yR h1 h2])
theorem Tl {u:TypeId}{a b:Int}(hx:be s x=some (.int k a))(hy:be s y=some (.int k b)):Ev P s C ⟨d,.binOp .lss t x y u,ty,pos,af,gd⟩ (.bool (decide (a<b))):=
 fD hx hy fun w=>by cases k<;>rfl
theorem Tm {u:TypeId}{a b:Int}(hx:be s x=some (.int k a))(hy:be s y=some (.int k b)):Ev P s C ⟨d,.binOp .leq t x y u,ty,pos,af,gd⟩ (.bool (decide (a<=b))):=
 fD hx hy fun w=>by cases k<;>rfl
theorem Tn {u:TypeId}{a b:Int}(hx:be s x=some (.int k a))(hy:be s y=some (.int k b)):Ev P s C ⟨d,.binOp .gtr t x y u,ty,pos,af,gd⟩ (.bool (decide (b<a))):=
 fD hx hy fun w=>by cases k<;>rfl
theorem To {u:TypeId}{a b:Int}(hx:be s x=some (.int k a))(hy:be s y=some (.int k b)):Ev P s C ⟨d,.binOp .geq t x y u,ty,pos,af,gd⟩ (.bool (decide (b<=a))):=
 fD hx hy fun w=>by cases k<;>rfl
theorem RF {u:TypeId}{a b:Int}(hx:be s x=some (.int k a))(hy:be s y=some (.int k b)):Ev P s C ⟨d,.binOp .eql t x y u,ty,pos,af,gd⟩ (.bool (decide (a=b))):=
 fD hx hy fun w=>by cases k<;>rfl
theorem RE {u:TypeId}{a b:Int}(hx:be s x=some (.int k a))(hy:be s y=some (.int k b)):Ev P s C ⟨d,.binOp .neq t x y u,ty,pos,af,gd⟩ (.bool (!decide (a=b))):=
 fD hx hy fun w=>by cases k<;>rfl
end
def uz:Wb->Nat->bA
 | [],_=> []
 |v::r,i=>(i,v)::uz r (i+1)
theorem Fq: ∀(l:Wb) (i k:Nat) (v:Value),jq (uz l i) k=some v->i<=k/\l[k - i]? =some v
 | [],_,_,_,h=>by cases h
 |u::r,i,k,v,h=>by
  unfold uz at h;rw [kX] at h;by_cases e:i=k
  ·subst e;rw [if_pos rfl] at h;simpa using h
  rw [if_neg e] at h;obtain ⟨h1,h2⟩:=Fq r (i+1) k v h;refine ⟨by omega,?_⟩;rw [show k - i=(k - (i+1))+1 by omega,WL];exact h2
section
variable {s:bA}
theorem el (hg:g=true)(h:aA ops s o=some (g==true)):aA ops s o=some true:=by rw [h,hg];rfl
theorem pc (hg:g=false)(h:aA ops s o=some (g==false)):aA ops s o=some true:=by rw [h,hg];rfl
theorem KM (hg:g=false)(h:aA ops s o=some (g==true)):aA ops s o=some false:=by rw [h,hg];rfl
theorem Th (hg:g=true)(h:aA ops s o=some (g==false)):aA ops s o=some false:=by rw [h,hg];rfl
end
section
variable {s:bA}{d:Option Nat}
theorem AN {c:Operand}(hg:g=true)(hc:be s c=some (.bool g))(hx:be s x=some u):Ev P s C ⟨d,.pick c x y,ty,pos,af,gd⟩ u:=GZ (hg▸hc) hx
theorem AO {c:Operand}(hg:g=false)(hc:be s c=some (.bool g))(hy:be s y=some u):Ev P s C ⟨d,.pick c x y,ty,pos,af,gd⟩ u:=G0 (hg▸hc) hy
end
end
section
open Go.RowKit
def CellsAt (w:World)(b o:Nat)(l:Wb):Prop:= ∀j u,l[j]? =some u->w.cell? ⟨b,o+j,none⟩=some u
def i9 (P:Program)(t:TypeId):Bool:=match P.underlying t with|some (.struct _)|some (.array _ _)|none=>false|_=>true
def Gq (P:Program)(t:TypeId)(sz:Nat):Bool:=(match P.underlying t with|some (.struct _)|some (.array _ _)=>true|_=>false)&&(match P.info? t with|some i=>Nat.beq i.size sz|none=>false)
def kP (P:Program)(t:TypeId)(sz:Nat):Bool:=match P.info? t with|some i=>Nat.beq i.size sz|none=>false
theorem H0 {w:World}{p:World->Prop}(h:p w): ∀w',w'=w->p w':=fun _ e=>e▸h
theorem kO {sz:Nat}(h:kP P t sz=true)(w:World):(sizeOf t).run P w=.ok sz w:=by
 unfold kP at h
 cases hi:P.info? t with
 |none=>rw [hi] at h;cases h
 |some i=>
  rw [hi] at h;have:=Xu h;rw [run_sizeOf w hi];simp [Program.cellsOf,hi,this]
theorem Blk.at {w:World}(h:Blk w b t cs)(hj:cs[j]? =some u):w.cell? ⟨b,j,none⟩=some u:=(h.cells j).trans hj
theorem Blk.all {w:World}{l:Wb}(h:Blk w b t l.toArray):CellsAt w b 0 l:=fun j u hj=>by
 rw [XC];exact h.at (by simpa using hj)
theorem kc (b o j:Nat):(⟨b,o,none⟩:Addr).add j=⟨b,o+j,none⟩:=by unfold Addr.add;split<;>simp_all
section
variable {s:bA}{d:Option Nat}
theorem jW {t f o o':Nat}(hx:be s x=some (.pointer (some ⟨b,o,none⟩)))(hr:∀b o w,(Instr.fieldAt t (.pointer (some ⟨b,o,none⟩)) f).run P w=.ok (.pointer (some ⟨b,o+o',none⟩)) w):Ev P s C ⟨d,.fieldAddr t x f,ty,pos,af,gd⟩ (.pointer (some ⟨b,o+o',none⟩)):=fun ρ hρ w _=>by
 unfold execOp;simp only [hρ x _ hx,XL,hr,XK];rfl
theorem sC {t f o:Nat}(hx:be s x=some (.pointer (some ⟨b,o,none⟩)))(hr:∀b o w,(Instr.fieldAt t (.pointer (some ⟨b,o,none⟩)) f).run P w=.ok (.pointer (some ⟨b,o,none⟩)) w):Ev P s C ⟨d,.fieldAddr t x f,ty,pos,af,gd⟩ (.pointer (some ⟨b,o,none⟩)):=fun ρ hρ w _=>by
 unfold execOp;simp only [hρ x _ hx,XL,hr,XK];rfl
theorem pg {t e sz:Nat}{i:Operand}{o len:Nat}{k:Int}(hx:be s x=some (.slice (some ⟨b,o,none⟩) len cap))(hi:be s i=some (.int .i64 k))(hu:P.underlying t=some (.slice e))(hs:kP P e sz=true)(h0:0<=k)(h1:k<len):Ev P s C ⟨d,.indexAddr t x i,ty,pos,af,gd⟩ (.pointer (some ⟨b,o+k.toNat*sz,none⟩)):=fun ρ hρ w _=>by
 have he:P.elem t=e:=by unfold Program.elem;rw [hu]
 unfold execOp;simp only [hρ x _ hx,hρ i _ hi,XL];rw [run_indexAt_slice w t ⟨b,o,none⟩ len cap .i64 k (by rw [hu,he]),if_pos ⟨h0,h1⟩,he,kO hs w];simp only [XK,kc];rfl
theorem Cj {a:Addr}(hx:be s x=some (.pointer (some a)))(hu:i9 P t=true)(hc:∀w,C w->w.cell? a=some v):Ev P s C ⟨d,.load t x,ty,pos,af,gd⟩ v:=fun ρ hρ w hw=>by
 have h1:(isAgg t).run P w=.ok false w:=by
  unfold i9 at hu;unfold isAgg
  cases hq:P.underlying t with
  |none=>rw [hq] at hu;cases hu
  |some u=>rw [hq] at hu;rw [XL,XR hq];cases u<;>first|rfl|(cases hu)
 unfold execOp;simp only [hρ x _ hx,Instr.loadAt,Instr.sureAddr,loadVar,XL,XM,XK,h1,Wk,if_false,run_load,hc w hw]
theorem Gz {o:Nat}{cs:Wb}{w:World}(hu:Gq P t cs.length=true)(hc:CellsAt w b o cs):(loadVar t ⟨b,o,none⟩).run P w=.ok (.agg cs.toArray) w:=by
 unfold Gq at hu;rw [XW] at hu
 have h1:(isAgg t).run P w=.ok true w:=by
  have hu:=hu.1;unfold isAgg
  cases hq:P.underlying t with
  |none=>rw [hq] at hu;cases hu
  |some u=>rw [hq] at hu;rw [XL,XR hq];cases u<;>first|rfl|(cases hu)
 have h2:(sizeOf t).run P w=.ok cs.length w:=kO hu.2 w
 have h3:(loadCells ⟨b,o,none⟩ cs.length).run P w=.ok cs.toArray w:=run_loadCells_list w ⟨b,o,none⟩ cs fun j u hj=>by rw [kc];exact hc j u hj
 simp only [loadVar,XL,XK,h1,if_true,h2,h3];rfl
theorem yz {o:Nat}{cs:Wb}(hx:be s x=some (.pointer (some ⟨b,o,none⟩)))(hc:∀w,C w->CellsAt w b o cs)(hu:Gq P t cs.length=true):Ev P s C ⟨d,.load t x,ty,pos,af,gd⟩ (.agg cs.toArray):=fun ρ hρ w hw=>by
 unfold execOp;simp only [hρ x _ hx,Instr.loadAt,Instr.sureAddr,XL,XM,XK,Gz hu (hc w hw)]
theorem fz {b:Builtin}{vs:Wb}(hv:xs.map ρ=vs)(w:World):
  (execOp ρ ⟨d,.call ⟨.builtin b,xs.toArray,ats⟩,ty,pos,af,gd⟩).run P w=(builtin b ats ty (xs.toArray.map fun| .const _=>true|_=>false) vs.toArray).run P w:=by
 unfold execOp;simp only [resolve,W7,hv];rfl
theorem qe {len:Nat}(hx:be s x=some (.slice A len cap))(hu:P.underlying t=some (.slice e)):Ev P s C ⟨d,.call ⟨.builtin .len, #[x], #[t]⟩,ty,pos,af,gd⟩ (.int .i64 len):=fun ρ hρ w _=>by
 have:=fz (P:=P) (d:=d) (ty:=ty) (pos:=pos) (af:=af) (gd:=gd) (ρ:=ρ) (b:=.len) (xs:=[x]) (ats:= #[t]) (vs:=[.slice A len cap]) (by simp [hρ x _ hx]) w;rw [this];simp [builtin,Builtin.len_,XR hu,goInt]
theorem tg {b:ByteArray}(hx:be s x=some (.string b))(hu:P.underlying t=some .string):Ev P s C ⟨d,.call ⟨.builtin .len, #[x], #[t]⟩,ty,pos,af,gd⟩ (.int .i64 b.size):=fun ρ hρ w _=>by
 have:=fz (P:=P) (d:=d) (ty:=ty) (pos:=pos) (af:=af) (gd:=gd) (ρ:=ρ) (b:=.len) (xs:=[x]) (ats:= #[t]) (vs:=[.string b]) (by simp [hρ x _ hx]) w;rw [this];simp [builtin,Builtin.len_,XR hu,goInt]
theorem ux {t f:Nat}(hx:be s x=some (.agg cs))(hr:∀w,(Instr.field t (.agg cs) f).run P w=.ok v w):Ev P s C ⟨d,.field t x f,ty,pos,af,gd⟩ v:=fun ρ hρ w _=>by
 unfold execOp;simp only [hρ x _ hx,XL,hr,XK];rfl
theorem dZ {u:TypeId}{p:Option Addr}(hx:be s x=some (.pointer p))(hu:P.underlying t=some (.pointer e)):Ev P s C ⟨d,.binOp .eql t x (.const (.pointer none)) u,ty,pos,af,gd⟩ (.bool p.isNone):=
 fD hx rfl fun w=>by
  rw [XL];show (binOp .eql t (.pointer p) (.pointer none)).run P w=_;rw [run_eql_pointer_nil w t p (by rw [hu,show P.pointee t=e by unfold Program.pointee;rw [hu]])]
theorem tG {u:TypeId}{p:Option Addr}(hx:be s x=some (.pointer p))(hu:P.underlying t=some (.pointer e)):Ev P s C ⟨d,.binOp .neq t x (.const (.pointer none)) u,ty,pos,af,gd⟩ (.bool p.isSome):=
 fD hx rfl fun w=>by
  rw [XL];show (binOp .neq t (.pointer p) (.pointer none)).run P w=_;rw [run_neq_pointer_nil w t p (by rw [hu,show P.pointee t=e by unfold Program.pointee;rw [hu]])];cases p<;>rfl
theorem rS {u:TypeId}{a b:ByteArray}(hx:be s x=some (.string a))(hy:be s y=some (.string b)):Ev P s C ⟨d,.binOp .eql t x y u,ty,pos,af,gd⟩ (.bool (a.toList==b.toList)):=
 fD hx hy fun w=>by
  rw [XL];show (Op.stringOp .eql a b).run P w=_;rfl
theorem OX {u:TypeId}{a b:ByteArray}(hx:be s x=some (.string a))(hy:be s y=some (.string b)):Ev P s C ⟨d,.binOp .neq t x y u,ty,pos,af,gd⟩ (.bool (!(a.toList==b.toList))):=
 fD hx hy fun w=>by
  rw [XL];show (Op.stringOp .neq a b).run P w=_;rfl
end
section
variable {s:bA}{d:Option Nat}
def Nd (s:bA):List (Nat×Operand)->Option (List (Nat×Value))
 | []=>some []
 |(i,x)::r=>match be s x,Nd s r with
  |some v,some l=>some ((i,v)::l)
  |_,_=>none
theorem El {s:bA}(h:∀x u,be s x=some u->ρ x=u): ∀{l:List (Nat×Operand)} {vs:List (Nat×Value)},Nd s l=some vs->l.map (fun (i,x)=>(i,ρ x))=vs
 | [],vs,e=>by simp [Nd] at e;simp [e]
 |(i,x)::r,vs,e=>by
  unfold Nd at e
  cases hx:be s x with
  |none=>rw [hx] at e;cases e
  | some v=>
   cases hr:Nd s r with
   |none=>rw [hx,hr] at e;cases e
   |some l=>
    rw [hx,hr] at e;simp only [XI] at e;show (i,ρ x)::r.map (fun (i,x)=>(i,ρ x))=vs;rw [h x v hx,El h hr,e]
theorem ny (hp:Nd s ps=some vs)(hr:∀w,(Instr.build t vs.toArray).run P w=.ok v w):Ev P s C ⟨d,.build t ps.toArray,ty,pos,af,gd⟩ v:=fun ρ hρ w _=>by
 unfold execOp;simp only [W7,El hρ hp,XL,hr,XK];rfl
end
end
section
open Go.RowKit
structure Fr (S:Nat->Prop) (w w':World):Prop where
 os:w'.os=w.os
 tape:w'.tape=w.tape
 output:w'.output=w.output
 size:w.heap.size<=w'.heap.size
 block: ∀q,q<w.heap.size-> ¬S q->w'.heap[q]? =w.heap[q]?
theorem Fr.refl (S:Nat->Prop)(w:World):Fr S w w:=⟨rfl,rfl,rfl,Xx _,fun _ _ _=>rfl⟩
theorem Fr.trans {a b c:World}(h:Fr S a b)(k:Fr S b c):Fr S a c:=
 ⟨k.os.trans h.os,k.tape.trans h.tape,k.output.trans h.output,Xy h.size k.size,fun q hq hs=>(k.block q (Xz hq h.size) hs).trans (h.block q hq hs)⟩
theorem O7 (w:World):Ext w w.drew:=(Ext.refl w).drew
section
variable {w:World}
theorem J9 (w:World)(b o:Nat)(v:Value):Fr (· =b) w (w.setCell ⟨b,o,none⟩ v):=
 ⟨rfl,rfl,rfl,by unfold World.setCell;simp,fun q _ hn=>Below.heap_setCell w ⟨b,o,none⟩ v q hn⟩
end
end
section
open Go.RowKit
def ts {α:Type}:Sem α->Prop
 | .pure _=>True
 | .load _ _ k=> ∀v,ts (k v)
 | .store .. =>False
 | .new _ k=> ∀r,ts (k r)
 | .shape _ k=> ∀s,ts (k s)
 | .freeze .. =>False
 | .frozen _ k=> ∀b,ts (k b)
 | .getObj _ k=> ∀o,ts (k o)
 | .setObj .. =>False
 | .choose _ k=> ∀n,ts (k n)
 | .sys .. =>False
 | .program k=> ∀p,ts (k p)
 | .mark _ k=>ts k
 | .halt _=>True
theorem yX {e:Sem α}{f:α->Sem β}(h:ts e)(hf:∀a,ts (f a)):ts (e>>=f):=by
 show ts (Sem.bind e f)
 induction e with
 |pure a=>exact hf a
 |load m a k ih=>exact fun v=>ih v (h v)
 |store m a v k ih=>exact h.elim
 |new o k ih=>exact fun v=>ih v (h v)
 |shape r k ih=>exact fun v=>ih v (h v)
 |freeze a n k ih=>exact h.elim
 |frozen a k ih=>exact fun v=>ih v (h v)
 |getObj r k ih=>exact fun v=>ih v (h v)
 |setObj r o k ih=>exact h.elim
 |choose q k ih=>exact fun v=>ih v (h v)
 |sys c k ih=>exact h.elim
 |program k ih=>exact fun v=>ih v (h v)
 |mark m k ih=>exact ih h
 |halt x=>trivial
theorem IF {e:Sem α}(h:ts e): ∀{w w':World} {x:α},e.run P w=.ok x w'->Ext w w':=by
 induction e with
 |pure a=>intro w w' x hr;simp only [Sem.run,Result.ok.injEq] at hr;obtain ⟨-,rfl⟩:=hr;exact Ext.refl _
 |load m a k ih=>
  intro w w' x hr;simp only [Sem.run] at hr;split at hr
  ·exact ih _ (h _) hr
  split at hr
  ·exact ih _ (h _) hr
  cases hr
 |store m a v k ih=>exact h.elim
 |new o k ih=>intro w w' x hr;simp only [Sem.run] at hr;exact ((Ext.refl w).alloc o).trans (ih _ (h _) hr)
 |shape r k ih=>intro w w' x hr;simp only [Sem.run] at hr;exact ih _ (h _) hr
 |freeze a n k ih=>exact h.elim
 |frozen a k ih=>intro w w' x hr;simp only [Sem.run] at hr;exact ih _ (h _) hr
 |getObj r k ih=>
  intro w w' x hr;simp only [Sem.run] at hr;split at hr
  ·cases hr
  ·exact ih _ (h _) hr
  cases hr
 |setObj r o k ih=>exact h.elim
 |choose q k ih=>
  intro w w' x hr;simp only [Sem.run] at hr;split at hr
  ·exact ih _ (h _) hr
  exact (O7 w).trans (ih _ (h _) hr)
 |sys c k ih=>exact h.elim
 |program k ih=>intro w w' x hr;simp only [Sem.run] at hr;exact ih _ (h _) hr
 |mark m k ih=>intro w w' x hr;simp only [Sem.run] at hr;exact ih h hr
 |halt x=>intro w w' x hr;simp only [Sem.run] at hr;cases hr
theorem ve (t:TypeId):ts (typeInfo t):=by
 unfold typeInfo
 refine yX (fun _=>trivial) fun p=> ?_
 split<;>trivial
theorem IE (t:TypeId):ts (sizeOf t):=yX (ve t) fun _=>trivial
theorem Ma (a:Addr):ts (load a):=fun _=>trivial
theorem tM (a:Addr): ∀(n i:Nat) (acc:Array Value),ts (loadCellsFrom a i n acc)
 |0,_,_=>trivial
 |n+1,i,_=>yX (Ma _) fun _=>tM a n (i+1) _
theorem LZ (t:TypeId):ts (zeroValue t):=by
 unfold zeroValue
 refine yX (ve t) fun p=> ?_
 split<;>trivial
section
def YieldsC (P:Program)(ops:Array Oper)(C:World->Prop)(o:Oper)(v:Value)(a:Act):Prop:=
 (Region.wanted o (yielded ops a.tmps)=true/\ ∀w,C w->(execOp a.eval o).run P w=.ok (.value v) w)\/(Region.wanted o (yielded ops a.tmps)=false/\v=undef)
theorem YieldsC.of_same {a':Act}(hy:YieldsC P ops C o v a)(he:execOp a'.eval o=execOp a.eval o)(hw:Region.wanted o (yielded ops a'.tmps)=Region.wanted o (yielded ops a.tmps)):YieldsC P ops C o v a':=by
 unfold YieldsC at*;rw [he,hw];exact hy
end
end
section
open Go.RowKit
def Pz (h:Nat)(Q:α->Prop)(e:Sem α):Prop:= ∀(P:Program) (w w':World) (a:α),h<=w.heap.size->e.run P w=.ok a w'->Q a/\h<=w'.heap.size
def yO (h:Nat)(Q:α->Prop)(e:Sem α):Prop:= ∀(P:Program) (w w':World) (a:α),h<=w.heap.size->e.run P w=.ok a w'->Q a
theorem KE {e:Sem α}(ht:ts e):Pz h (fun _=>True) e:=fun _ _ _ _ hw hr=>⟨trivial,Xy hw (IF ht hr).size⟩
theorem Cr {e:Sem α}{f:α->Sem β}{w:World}{b:β}(h:(e>>=f).run P w=.ok b w'): ∃a w1,e.run P w=.ok a w1/\(f a).run P w1=.ok b w':=by
 rw [XL] at h
 cases he:e.run P w with
 |ok a w1=>rw [he,XK] at h;exact ⟨a,w1,J,h⟩
 |halt q w1=>rw [he] at h;simp [Result.andThen] at h
theorem FB {Q1:α->Prop}{Q:β->Prop}{e:Sem α}{f:α->Sem β}(he:Pz h Q1 e)(hf:∀a,Q1 a->yO h Q (f a)):yO h Q (e>>=f):=fun P w w' b hw hr=>by
 obtain ⟨a,w1,h1,h2⟩:=Cr hr;obtain ⟨h3,h4⟩:=he P w w1 a hw h1;exact hf a h3 P w1 w' b h4 h2
theorem qO {Q:β->Prop}{e:Sem α}{f:α->Sem β}(he:ts e)(hf:∀a,yO h Q (f a)):yO h Q (e>>=f):=FB (KE he) fun a _=>hf a
theorem KK {Q:α->Prop}{a:α}(hq:Q a):yO h Q (pure a):=fun P w w' b _ hr=>by
 simp only [XM,Result.ok.injEq] at hr;rw [<-hr.1];exact hq
theorem KL {Q:β->Prop}{e:Sem α}{v:β}(hq:Q v):yO h Q (e>>=fun _=>pure v):=fun P w w' b _ hr=>by
 obtain ⟨a,w1,h1,h2⟩:=Cr hr;simp only [XM,Result.ok.injEq] at h2;rw [<-h2.1];exact hq
theorem Na {Q:α->Prop}{c:Prop}[Decidable c]{x y:Sem α}(hx:yO h Q x)(hy:yO h Q y):yO h Q (if c then x else y):=by split<;>assumption
theorem Ey (a:Addr)(n:Nat):ts (loadCells a n):=tM a n 0 #[]
theorem DO (sz n:Nat)(v:Value):ts (Builtin.firstCells sz n v):=by unfold Builtin.firstCells;split<;>first|exact Ey _ _|trivial
def DM (e:Sem α):Prop:= ∀(P:Program) (w w':World) (a:α),e.run P w≠ .ok a w'
theorem AC {x:Halt}:DM (.halt x:Sem α):=fun P w w' a h=>by simp [Sem.run] at h
theorem AD {e:Sem α}{f:α->Sem β}(hf:∀a,DM (f a)):DM (e>>=f):=fun P w w' b hr=>by
 obtain ⟨a,w1,h1,h2⟩:=Cr hr;exact hf a P w1 w' b h2
theorem MJ {c:Prop}[Decidable c]{x y:Sem α}(hx:DM x)(hy:DM y):DM (if c then x else y):=by split<;>assumption
theorem I2 (m:String):DM (runtimePanic (.error m):Sem α):=AD fun _=>AC
theorem DC {Q:β->Prop}{e:Sem α}{f:α->Sem β}(he:DM e):yO h Q (e>>=f):=fun P w w' b hw hr=>by
 obtain ⟨a,w1,h1,h2⟩:=Cr hr;exact absurd h1 (he P w w1 a)
theorem Hw (n:Nat):ts (askRoom n):=by unfold askRoom;split<;>trivial
theorem J4 (v:Value):ts (Builtin.lenOf v):=by unfold Builtin.lenOf;split<;>trivial
theorem HY (h:Nat)(e:TypeId)(cs:Array Value):Pz h (fun a=>h<=a.block) (newRow e cs):=fun P w w' a hw hr=>by
 have h1:(newRow e cs).run P w=.ok ⟨w.heap.size,0,none⟩ (w.alloc (.cells cs e)):=rfl;rw [h1] at hr;simp only [Result.ok.injEq] at hr;obtain ⟨rfl,rfl⟩:=hr;exact ⟨hw,by simp;omega⟩
theorem Hi {bb:Nat}{x:Value}{w:World}(ht:P.underlying t=some (.slice e))(hr:(Builtin.append_ #[t,t] ty #[.slice (some ⟨bb,0,none⟩) n cap,x]).run P w=.ok v w'):v.ownBlock=some bb\/ ∃q,v.ownBlock=some q/\w.heap.size<=q:=by
 unfold Builtin.append_ at hr;simp only [WV,WM,WL] at hr;rw [XL,XR ht,XK] at hr
 dsimp only at hr
 obtain ⟨sz,w1,h1,hr⟩:=Cr hr;have e1:=(IF (IE _) h1).size;rw [XL,XR ht,XK] at hr
 dsimp only at hr
 rw [XL,XM,XK] at hr;simp only [Wk,if_false,Bool.not_false,if_true,false_or] at hr
 revert hr
 refine fun hr=>(?_:yO w.heap.size (fun v=>v.ownBlock=some bb\/ ∃q,v.ownBlock=some q/\w.heap.size<=q) _) P w1 w' v e1 hr
 repeat' first
   |exact KL (.inl rfl)
   |exact DC (I2 _)
   |refine qO (J4 _) fun _=> ?_
   |refine qO (ve _) fun _=> ?_
   |refine qO (LZ _) fun _=> ?_
   |refine qO (Hw _) fun _=> ?_
   |refine qO (DO _ _ _) fun _=> ?_
   |refine qO (e:=choose _) (fun _=>trivial) fun _=> ?_
   |exact FB (HY _ _ _) fun a ha=>KK (.inr ⟨_,rfl,ha⟩)
   |exact DC (AD fun _=>MJ (AD fun _=>AC) AC)
   |refine Na ?_ ?_
def of (A:Option Addr):Nat:=(A.getD ⟨0,0,none⟩).off
theorem wy {xs:List α}{x:α}(h:xs[i]? =some x):0<xs.length:=Nat.lt_of_le_of_lt (XD _) (WQ.1 h).1
theorem CellsAt.part {w:World}{o:Nat}{l:Wb}(h:CellsAt w b o l)(i n:Nat):CellsAt w b (o+i) ((l.drop i).take n):=fun j u hj=>by
 rw [WU] at hj;split at hj
 ·rw [WN] at hj;rw [Nat.add_assoc];exact h _ _ hj
 cases hj
section
variable {s:bA}{d:Option Nat}
def mu (A:Option Addr)(cap l sz:Nat):Option Addr:=if cap=l then A else A.map (·.add (l*sz))
theorem rT {t e sz:Nat}{hi:Option Operand}{len l:Nat}(hx:be s x=some (.slice A len cap))(hu:P.underlying t=some (.slice e))(hs:kP P e sz=true)(hl:match lo with|none=>l=0|some o=>be s o=some (.int .i64 (l:Int)))(hh:match hi with|none=>h=len|some o=>be s o=some (.int .i64 (h:Int)))(h1:l<=h)(h2:h<=cap):
  Ev P s C ⟨d,.slice t x lo hi none,ty,pos,af,gd⟩ (.slice (mu A cap l sz) (h - l) (cap - l)):=fun ρ hρ w _=>by
 have e1:(Instr.sliceBounds true len cap (lo.map ρ) (hi.map ρ) none).run P w=.ok (l,h,cap) w:=by
  have b1: ∀code,(Instr.sliceBound (.int .i64 (l:Int)) h code).run P w=.ok l w:=fun code=>by
   have:=run_sliceBound (P:=P) w .i64 (l:Int) h code U U;simpa using this
  have b2: ∀code,(Instr.sliceBound (.int .i64 (h:Int)) cap code).run P w=.ok h w:=fun code=>by
   have:=run_sliceBound (P:=P) w .i64 (h:Int) cap code U U;simpa using this
  cases lo with
  |none=>
   cases hi with
   |none=>simp only at hl hh;subst hl hh;simp [Instr.sliceBounds]
   |some y=>simp only at hl hh;subst hl;simp [Instr.sliceBounds,hρ y _ hh,b2]
  |some x=>
   cases hi with
   |none=>simp only at hl hh;subst hh;simp [Instr.sliceBounds,hρ x _ hl,b1]
   |some y=>simp only at hl hh;simp [Instr.sliceBounds,hρ x _ hl,hρ y _ hh,b1,b2]
 unfold execOp;simp only [hρ x _ hx,Instr.sliceAt,Instr.slice,XL,XR hu,XK,Option.map_none,e1,kO hs w,XM];rfl
end
section
variable {w:World}
theorem IM {o:Nat}{old:Array Value}(h:Blk w b t old):Blk (w.setCell ⟨b,o,none⟩ v) b t (old.setIfInBounds o v):=by
 unfold Blk at h⊢;unfold World.setCell;simp only [Array.getElem?_modify,if_true,h,XG];rfl
def ow (old:Array Value):Nat->Wb->Array Value
 |_,[]=>old
 |o,v::r=>ow (old.setIfInBounds o v) (o+1) r
theorem BB: ∀(cs:Wb) (old:Array Value) (o:Nat),(ow old o cs).size=old.size
 | [],_,_=>rfl
 |v::r,old,o=>by show (ow (old.setIfInBounds o v) (o+1) r).size=_;rw [BB r];simp
theorem N3: ∀(cs:Wb) (old:Array Value) (o j:Nat),o+cs.length<=old.size->(ow old o cs)[j]? =if o<=j/\j<o+cs.length then cs[j - o]? else old[j]?
 | [],old,o,j,_=>by rw [if_neg (by simp)];rfl
 | v::r,old,o,j,h=>by
  simp only [WY] at h;show (ow (old.setIfInBounds o v) (o+1) r)[j]? =_;rw [N3 r _ _ _ (by simp;omega)];by_cases e:j=o
  ·subst e;rw [if_neg U,if_pos (by simp)];simp [show j<old.size by omega]
  simp only [WY];by_cases h2:o+1<=j/\j<o+1+r.length
  ·rw [if_pos h2,if_pos U,show j - o=(j - (o+1))+1 by omega,WL]
  rw [if_neg h2,if_neg U,Wh U]
theorem fT: ∀(cs:Wb) (w:World) (b o i:Nat) (old:Array Value),Blk w b t old->o+i+cs.length<=old.size->cs.all (·.oneCell')=true->
  ∃w',(storeCells ⟨b,o,none⟩ cs i).run P w=.ok () w'/\Fr (· =b) w w'/\Blk w' b t (ow old (o+i) cs)
 | [],w,b,o,i,old,hb,_,_=>⟨w,by unfold storeCells;rfl,Fr.refl _ _,hb⟩
 | v::r,w,b,o,i,old,hb,hl,h1=>by
  simp only [List.all_cons,XW] at h1;simp only [WY] at hl
  have hlt:o+i<old.size:=by omega
  have hst:(store (⟨b,o+i,none⟩:Addr) v).run P w=.ok () (w.setCell ⟨b,o+i,none⟩ v):=by
   rw [run_store P w _ _ _ h1.1];simp [hb.cells (o+i),hb.free (o+i),hlt]
  obtain ⟨w',e1,e2,e3⟩:=fT r (w.setCell ⟨b,o+i,none⟩ v) b o (i+1) (old.setIfInBounds (o+i) v) (IM hb) (by simp;omega) h1.2;refine ⟨w',?_,(J9 w b (o+i) v).trans e2,e3⟩;unfold storeCells;simp only [kc,XL,hst,XK,e1]
end
end
section
open Go.RowKit
structure KeyOk (P:Program) (kt:TypeId) {α:Type} [DecidableEq α] (ek:α->Value):Prop where
 und: ∃d,P.underlying kt=some d/\ ∀a b,Instr.sameNow d (ek a) (ek b)=none\/Instr.sameNow d (ek a) (ek b)=some (decide (a=b))
 eq: ∀a b w,(Op.equal kt (ek a) (ek b)).run P w=.ok (decide (a=b)) w
 check: ∀e a w,(Instr.checkKey e 10000 kt (ek a)).run P w=.ok () w
 bits: ∀a,Instr.sameBits 10000 (ek a) (ek a)=true
def Mp (w:World)(m:Nat)(ek:α->Value)(ev:β->Value)(L:List (α×β)):Prop:=
 ∃es clk,w.heap[m]? =some (.map es clk)/\es.toList.map (fun e=>(e.key,e.val))=L.map (fun p=>(ek p.1,ev p.2))/\es.toList.Pairwise (fun a b=>a.born<b.born)/\ ∀e∈es.toList,e.born<clk
theorem Mp.lt {ek:α->Value}{ev:β->Value}{w:World}{L:List (α×β)}(h:Mp w m ek ev L):m<w.heap.size:=by
 obtain ⟨es,clk,h1,h2⟩:=h;rcases XA m w.heap.size with hlt|hge
 ·exact hlt
 rw [Wg hge] at h1;cases h1
def lk [DecidableEq α](L:List (α×β))(a:α):Option β:=(L.find? fun p=>p.1=a).map (·.2)
def fp {α β:Type}[DecidableEq α](a:α):List (α×β)->Nat->Option (Nat×β)
 | [],_=>none
 |(k,b)::r,i=>if a=k then some (i,b) else fp a r (i+1)
def wT [DecidableEq α](L:List (α×β))(a:α)(b:β):List (α×β):=match fp a L 0 with
 |some (i,_)=>L.set i (a,b)
 |none=>L++ [(a,b)]
theorem Lx [DecidableEq α](a:α): ∀(L:List (α×β)) (i:Nat),(fp a L i).map (·.2)=lk L a
 | [],_=>rfl
 |(k,b)::r,i=>by
  unfold fp lk;by_cases h:a=k
  ·simp [h]
  have h': ¬k=a:=fun e=>h e.symm
  rw [if_neg h,Lx a r,List.find?_cons];simp [h',lk]
theorem Ly [DecidableEq α](a:α): ∀(L:List (α×β)) (i j:Nat) (b:β),fp a L i=some (j,b)->i<=j/\L[j - i]? =some (a,b)
 | [],_,_,_,h=>by cases h
 |(k,c)::r,i,j,b,h=>by
  unfold fp at h;by_cases e:a=k
  ·rw [if_pos e] at h;cases h;simp [e]
  rw [if_neg e] at h;obtain ⟨h1,h2⟩:=Ly a r (i+1) j b h;refine ⟨by omega,?_⟩;rw [show j - i=(j - (i+1))+1 by omega,WL];exact h2
theorem Qs [DecidableEq α](a:α)(L:List (α×β)):fp a L 0=none↔ ∀p∈L,p.1≠a:=by
 have h:=Lx a L 0;constructor
 ·intro e p hp he;rw [e] at h;have:lk L a=none:=h.symm;unfold lk at this;rw [Option.map_eq_none_iff,List.find?_eq_none] at this;exact this p hp (by simpa using he)
 intro hn
 cases hf:fp a L 0 with
 |none=>rfl
 |some x=>
  obtain ⟨j,b⟩:=x;obtain ⟨-,h2⟩:=Ly a L 0 j b hf;exact absurd J (hn _ (Xd h2))
section
variable [DecidableEq α]{ek:α->Value}{ev:β->Value}
theorem Dt (d:TypeDesc)(a:α)(hn:∀a b,Instr.sameNow d (ek a) (ek b)=none\/Instr.sameNow d (ek a) (ek b)=some (decide (a=b))): ∀(es:List MapEntry) (L:List (α×β)) (i:Nat),es.map (fun e=>(e.key,e.val))=L.map (fun p=>(ek p.1,ev p.2))->
  Instr.findNow d (ek a) es i=none\/Instr.findNow d (ek a) es i=some ((fp a L i).map fun p=>(p.1,ev p.2))
 | [],[],i,_=> .inr rfl
 | [],_::_,_,h=>by simp at h
 |_::_,[],_,h=>by simp at h
 |e::es,(k,b)::L,i,h=>by
  simp only [W6,Wx,Prod.mk.injEq] at h;obtain ⟨⟨h1,h2⟩,h3⟩:=h;unfold Instr.findNow fp;rw [h1];rcases hn a k with h4|h4
  ·rw [h4];exact .inl J
  rw [h4];by_cases e:a=k
  ·simp [e,h2]
  simp only [e,decide_false,if_false];exact Dt d a hn es L (i+1) h3
theorem xH (a:α)(heq:∀a b w,(Op.equal kt (ek a) (ek b)).run P w=.ok (decide (a=b)) w)(w:World): ∀(es:List MapEntry) (L:List (α×β)) (i:Nat),es.map (fun e=>(e.key,e.val))=L.map (fun p=>(ek p.1,ev p.2))->
  (Instr.findAsking kt (ek a) es i).run P w=.ok ((fp a L i).map fun p=>(p.1,ev p.2)) w
 | [],[],i,_=>by unfold Instr.findAsking;rfl
 | [],_::_,_,h=>by simp at h
 |_::_,[],_,h=>by simp at h
 |e::es,(k,b)::L,i,h=>by
  simp only [W6,Wx,Prod.mk.injEq] at h;obtain ⟨⟨h1,h2⟩,h3⟩:=h;unfold Instr.findAsking fp;rw [h1,XL,heq,XK];by_cases e:a=k
  ·simp [e,h2]
  simp only [e,decide_false,Wk,if_false];exact xH a heq w es L (i+1) h3
theorem pm (hk:KeyOk P kt ek)(a:α)(w:World)(es:List MapEntry)(L:List (α×β))(h:es.map (fun e=>(e.key,e.val))=L.map (fun p=>(ek p.1,ev p.2))):
  (Instr.findKey kt (ek a) es).run P w=.ok ((fp a L 0).map fun p=>(p.1,ev p.2)) w:=by
 obtain ⟨d,hd,hn⟩:=hk.und;unfold Instr.findKey;rw [XL,XR hd,XK];rcases Dt (ev:=ev) d a hn es L 0 h with h1|h1
 ·rw [h1];exact xH a hk.eq w es L 0 h
 rw [h1];rfl
theorem KO {s:bA}{d:Option Nat}{et:TypeId}{a:α}{L:List (α×β)}(hx:be s x=some (.map (some m)))(hy:be s y=some (ek a))(ht:P.underlying t=some (.map kt et))(hk:KeyOk P kt ek)(hz:∀w,(zeroValue et).run P w=.ok z w)(hm:∀w,C w->Mp w m ek ev L):
  Ev P s C ⟨d,.lookup t x y true,ty,pos,af,gd⟩ (.tuple #[match lk L a with|some b=>ev b|none=>z,.bool (lk L a).isSome]):=fun ρ hρ w hw=>by
 obtain ⟨es,clk,h1,h2, -⟩:=hm w hw
 have hg:(getObj m).run P w=.ok (.map es clk) w:=by simp [getObj,Sem.run,h1]
 unfold execOp;simp only [hρ x _ hx,hρ y _ hy,Instr.lookup,XL,XR ht,XK,hg,XM,hk.check,pm hk a w es.toList L h2, <-Lx a L 0]
 cases hf:fp a L 0 with
 |none=>simp [hz]
 |some p=>simp
theorem KP {s:bA}{d:Option Nat}{et:TypeId}{a:α}{L:List (α×β)}(hx:be s x=some (.map (some m)))(hy:be s y=some (ek a))(ht:P.underlying t=some (.map kt et))(hk:KeyOk P kt ek)(hz:∀w,(zeroValue et).run P w=.ok z w)(hm:∀w,C w->Mp w m ek ev L):
  Ev P s C ⟨d,.lookup t x y false,ty,pos,af,gd⟩ (match lk L a with|some b=>ev b|none=>z):=fun ρ hρ w hw=>by
 obtain ⟨es,clk,h1,h2, -⟩:=hm w hw
 have hg:(getObj m).run P w=.ok (.map es clk) w:=by simp [getObj,Sem.run,h1]
 unfold execOp;simp only [hρ x _ hx,hρ y _ hy,Instr.lookup,XL,XR ht,XK,hg,XM,hk.check,pm hk a w es.toList L h2, <-Lx a L 0]
 cases hf:fp a L 0 with
 |none=>simp [hz]
 |some p=>simp
theorem Mg (w:World)(m:Nat)(o:Obj):Fr (· =m) w {w with heap:=w.heap.setIfInBounds m o}:=
 ⟨rfl,rfl,rfl,by simp,fun q _ hn=>by simp [Wh (Ne.symm hn)]⟩
end
end
section
open Go.RowKit
theorem MQ {en:α->Wb}(x:α){z:Array Value}(hz:z=(en x).toArray)(n:Nat)(hp:0<(en x).length):madeCells z (n*(en x).length)=((List.replicate n x).flatMap en).toArray:=by
 subst hz;apply Array.ext_getElem?;intro j
 have hlen:((List.replicate n x).flatMap en).length=n*(en x).length:=by
  have: ∀n,((List.replicate n x).flatMap en).length=n*(en x).length:=fun n=>by
   induction n with
   |zero=>simp
   |succ n ih=>rw [List.replicate_succ,WH,XS,ih,Xt];omega
  exact this n
 rcases XA j (n*(en x).length) with hj|hj
 ·have hm:j%(en x).length<(en x).length:=Nat.mod_lt _ hp
  have key: ∀n j,j<n*(en x).length->((List.replicate n x).flatMap en)[j]? =(en x)[j%(en x).length]? :=by
   intro n
   induction n with
   |zero=>intro j hj;simp at hj
   |succ n ih=>
    intro j hj;rw [List.replicate_succ,WH];rcases XA j (en x).length with h|h
    ·rw [WJ h,Nat.mod_eq_of_lt h]
    rw [WK h,ih _ (by rw [Xt] at hj;omega), <-Nat.mod_eq_sub_mod h]
  have h2:=key n j hj;rw [WO hm] at h2;simp only [madeCells,Array.getElem?_map,Array.getElem?_range,hj];simp [hm,h2]
 rw [Wg (by simp [madeCells];omega),Wg (by simp only [List.size_toArray];omega)]
def Vl (w0 w:World)(t:TypeId)(sz:Nat)(en:α->Wb)(v:Value)(xs:List α):Prop:=w.ownsRow w0.heap.size t sz v xs.length (xs.flatMap en)
def ry (P:Program)(e:TypeId)(sz by_:Nat):Bool:=match P.info? e with
 |some i=>Nat.beq i.size sz&&Nat.beq i.bytes by_&&(match i.zero with|some z=>Nat.beq z.cells.size sz|none=>false)&&Nat.blt 0 sz
 |none=>false
end
section
open Go.RowKit
structure Agr (X:Nat->Prop) (w w':World):Prop where
 os:w'.os=w.os
 tape:w'.tape=w.tape
 output:w'.output=w.output
 size:w.heap.size<=w'.heap.size
 block: ∀q,q<w.heap.size->X q->w'.heap[q]? =w.heap[q]?
theorem Agr.refl (X:Nat->Prop)(w:World):Agr X w w:=⟨rfl,rfl,rfl,Xx _,fun _ _ _=>rfl⟩
theorem Agr.mono {X hJ:Nat->Prop}{w:World}(h:Agr X w w')(hx:∀q,hJ q->X q):Agr hJ w w':=⟨h.os,h.tape,h.output,h.size,fun q hq hy=>h.block q hq (hx q hy)⟩
theorem Agr.trans {X:Nat->Prop}{a b c:World}(h:Agr X a b)(k:Agr X b c):Agr X a c:=
 ⟨k.os.trans h.os,k.tape.trans h.tape,k.output.trans h.output,Xy h.size k.size,fun q hq hx=>(k.block q (Xz hq h.size) hx).trans (h.block q hq hx)⟩
theorem Agr.of_ext {X:Nat->Prop}{a b:World}(h:Ext a b):Agr X a b:=⟨h.os,h.tape,h.output,h.size,fun q hq _=>h.block q hq⟩
theorem Agr.of_fr {X:Nat->Prop}{a b:World}(h:Fr S a b)(hx:∀q,X q-> ¬S q):Agr X a b:=⟨h.os,h.tape,h.output,h.size,fun q hq hxq=>h.block q hq (hx q hxq)⟩
theorem Agr.cell {X:Nat->Prop}{w:World}(k:Agr X w w')(hb:X b)(hlt:b<w.heap.size)(o:Nat):w'.cell? ⟨b,o,none⟩=w.cell? ⟨b,o,none⟩:=World.cell?_of_block (k.block b hlt hb)
theorem CellsAt.agr {X:Nat->Prop}{w:World}{o:Nat}{l:Wb}(h:CellsAt w b o l)(k:Agr X w w')(hb:X b)(hlt:b<w.heap.size):CellsAt w' b o l:=fun j u hj=>(k.cell hb hlt _).trans (h j u hj)
theorem Blk.agr {X:Nat->Prop}{w:World}(h:Blk w b t cs)(k:Agr X w w')(hb:X b):Blk w' b t cs:=(k.block b h.lt hb).trans h
structure Chunk where
 ok:(Nat->Prop)->(Nat->Prop)->World->Prop
 loc: ∀{T S:Nat->Prop} {w w':World},Agr (fun q=>T q\/S q) w w'->ok T S w->ok T S w'
 mono: ∀{T S S':Nat->Prop} {w:World},(∀q,S q->S' q)->ok T S w->ok T S' w
 ro:Bool
 dup:ro=true-> ∀{T S:Nat->Prop} {w:World},ok T S w->ok (fun _=>False) S w
abbrev Wa:=List Chunk
structure SepT (L:Wa) (T:Nat->Nat->Prop) (S:Nat->Prop) (w:World):Prop where
 ok: ∀{i:Nat} {c:Chunk},L[i]? =some c->c.ok (T i) S w
 apart: ∀{i j q},i≠j->T i q->T j q->False
 ro: ∀{i q},T i q->S q->False
 lt: ∀{i q},T i q->q<w.heap.size
 lts: ∀{q},S q->q<w.heap.size
def SepL (L:Wa)(w:World):Prop:= ∃T S,SepT L T S w
theorem SepL.get {L:Wa}{w:World}(h:SepL L w){c:Chunk}(hi:L[i]? =some c): ∃T S,c.ok T S w:=by
 obtain ⟨T,S,h⟩:=h;exact ⟨_,_,h.ok hi⟩
theorem SepL.same {L:Wa}{w:World}(h:SepL L w)(hx:Agr (fun _=>True) w w'):SepL L w':=by
 obtain ⟨T,S,h⟩:=h;exact ⟨T,S,fun hi=>Chunk.loc _ (hx.mono fun _ _=>trivial) (h.ok hi),h.apart,h.ro,fun h1=>Xz (h.lt h1) hx.size,fun h1=>Xz (h.lts h1) hx.size⟩
theorem SepL.new {L:Wa}{w:World}(h:SepL L w)(hx:Agr (fun _=>True) w w'){c:Chunk}(hc:∀T0 S,SepT L T0 S w-> ∃T,(∀q,T q->w.heap.size<=q/\q<w'.heap.size)/\c.ok T S w'):SepL (c::L) w':=by
 obtain ⟨T,S,h⟩:=h;obtain ⟨Tc,h1,h2⟩:=hc T S h;refine ⟨fun i=>match i with|0=>Tc|i+1=>T i,S,?_,?_,?_,?_,fun h3=>Xz (h.lts h3) hx.size⟩
 ·intro i d hi
  cases i with
  |zero=>simp only [WM,XI] at hi;subst hi;exact h2
  |succ i=>simp only [WL] at hi;exact d.loc (hx.mono fun _ _=>trivial) (h.ok hi)
 ·intro i j q hij h3 h4
  cases i with
  |zero=>cases j with
   |zero=>exact hij rfl
   |succ j=>have:=(h1 q h3).1;have:=h.lt h4;omega
  |succ i=>cases j with
   |zero=>have:=(h1 q h4).1;have:=h.lt h3;omega
   |succ j=>exact h.apart U h3 h4
 ·intro i q h3 h4
  cases i with
  |zero=>have:=(h1 q h3).1;have:=h.lts h4;omega
  |succ i=>exact h.ro h3 h4
 intro i q h3
 cases i with
 |zero=>exact (h1 q h3).2
 |succ i=>exact Xz (h.lt h3) hx.size
theorem SepL.fact {L:Wa}{w:World}(h:SepL L w){c d:Chunk}(hi:L[i]? =some c)(hd:∀T S,c.ok T S w->d.ok (fun _=>False) S w):SepL (d::L) w:=by
 obtain ⟨T,S,h⟩:=h;refine ⟨fun i=>match i with|0=>fun _=>False|i+1=>T i,S,?_,?_,?_,?_,h.lts⟩
 ·intro j e hj
  cases j with
  |zero=>simp only [WM,XI] at hj;subst hj;exact hd _ _ (h.ok hi)
  |succ j=>simp only [WL] at hj;exact h.ok hj
 ·intro i j q hij h3 h4
  cases i with
  |zero=>exact h3
  |succ i=>cases j with
   |zero=>exact h4
   |succ j=>exact h.apart U h3 h4
 ·intro i q h3 h4
  cases i with
  |zero=>exact h3
  |succ i=>exact h.ro h3 h4
 intro i q h3
 cases i with
 |zero=>exact h3.elim
 |succ i=>exact h.lt h3
theorem SepL.dup {L:Wa}{w:World}(h:SepL L w){c:Chunk}(hi:L[i]? =some c)(hc:c.ro=true):SepL (c::L) w:=h.fact hi fun _ _ h1=>c.dup hc h1
theorem SepL.fact0 {L:Wa}{w:World}(h:SepL L w){d:Chunk}(hd:∀S,d.ok (fun _=>False) S w):SepL (d::L) w:=
 h.new (Agr.refl _ _) fun _ S _=>⟨fun _=>False,fun _ h=>h.elim,hd S⟩
theorem SepT.upd {L:Wa}{w:World}(h:SepT L T S w){c d:Chunk}(hi:L[i]? =some c)(hx:Agr (fun q=> ¬T i q) w w'){T':Nat->Prop}(h1:∀q,T' q->T i q\/w.heap.size<=q)(h2:∀q,T' q->q<w'.heap.size)(h3:d.ok T' S w'):SepL (L.set i d) w':=by
 have hil:i<L.length:=(WQ.1 hi).1;refine ⟨fun j=>if j=i then T' else T j,S,?_,?_,?_,?_,fun h4=>Xz (h.lts h4) hx.size⟩
 ·intro j e hj;by_cases e1:j=i
  ·subst e1;rw [WT hil] at hj;cases hj;simpa using h3
  rw [WS U] at hj;simp only [e1,if_false];refine e.loc (hx.mono ?_) (h.ok hj);rintro q (h4|h4)
  ·exact fun h5=>h.apart e1 h4 h5
  exact fun h5=>h.ro h5 h4
 ·intro j k q hjk h4 h5;by_cases e1:j=i<;>by_cases e2:k=i
  ·omega
  ·simp only [e1,e2,if_true,if_false] at h4 h5;rcases h1 q h4 with h6|h6
   ·exact h.apart (fun e=>e2 e.symm) h6 h5
   have:=h.lt h5;omega
  ·simp only [e1,e2,if_true,if_false] at h4 h5;rcases h1 q h5 with h6|h6
   ·exact h.apart e1 h4 h6
   have:=h.lt h4;omega
  simp only [e1,e2,if_false] at h4 h5;exact h.apart hjk h4 h5
 ·intro j q h4 h5;by_cases e1:j=i
  ·simp only [e1,if_true] at h4;rcases h1 q h4 with h6|h6
   ·exact h.ro h6 h5
   have:=h.lts h5;omega
  simp only [e1,if_false] at h4;exact h.ro h4 h5
 intro j q h4;by_cases e1:j=i
 ·simp only [e1,if_true] at h4;exact h2 q h4
 simp only [e1,if_false] at h4;exact Xz (h.lt h4) hx.size
theorem SepL.upd {L:Wa}{w:World}(h:SepL L w){c d:Chunk}(hi:L[i]? =some c)(hd:∀T S,c.ok T S w->(∀q,T q->q<w.heap.size)->(∀q,S q->q<w.heap.size)->(∀q,T q->S q->False)->Agr (fun q=> ¬T q) w w'/\ ∃T',(∀q,T' q->T q\/w.heap.size<=q)/\(∀q,T' q->q<w'.heap.size)/\d.ok T' S w'):SepL (L.set i d) w':=by
 obtain ⟨T,S,h⟩:=h;obtain ⟨hx,T',h1,h2,h3⟩:=hd _ _ (h.ok hi) (fun _=>h.lt) (fun _=>h.lts) (fun _=>h.ro);exact h.upd hi hx h1 h2 h3
theorem SepL.frz {L:Wa}{w:World}(h:SepL L w){c d:Chunk}(hi:L[i]? =some c)(hd:∀T S,c.ok T S w->d.ok (fun _=>False) (fun q=>S q\/T q) w):SepL (L.set i d) w:=by
 obtain ⟨T,S,h⟩:=h;have hil:i<L.length:=(WQ.1 hi).1;refine ⟨fun j=>if j=i then fun _=>False else T j,fun q=>S q\/T i q,?_,?_,?_,?_,?_⟩
 ·intro j e hj;by_cases e1:j=i
  ·subst e1;rw [WT hil] at hj;cases hj;simpa using hd _ _ (h.ok hi)
  rw [WS U] at hj;simp only [e1,if_false];exact e.mono (fun _=> .inl) (h.ok hj)
 ·intro j k q hjk h4 h5;by_cases e1:j=i
  ·simp only [e1,if_true] at h4
  by_cases e2:k=i
  ·simp only [e2,if_true] at h5
  simp only [e1,e2,if_false] at h4 h5;exact h.apart hjk h4 h5
 ·intro j q h4 h5;by_cases e1:j=i
  ·simp only [e1,if_true] at h4
  simp only [e1,if_false] at h4;rcases h5 with h5|h5
  ·exact h.ro h4 h5
  exact h.apart e1 h4 h5
 ·intro j q h4;by_cases e1:j=i
  ·simp only [e1,if_true] at h4
  simp only [e1,if_false] at h4;exact h.lt h4
 rintro q (h4|h4)
 ·exact h.lts h4
 exact h.lt h4
theorem SepL.weak {L:Wa}{w:World}(h:SepL L w){c d:Chunk}(hi:L[i]? =some c)(hd:∀T S,c.ok T S w->d.ok T S w):SepL (L.set i d) w:=
 h.upd hi fun T S h1 h2 _ _=>⟨Agr.refl _ _,T,fun _=> .inl,h2,hd _ _ h1⟩
def DT (ix:List Nat)(k:Nat)(L:Wa):Wa:=ix.filterMap (fun i=>L[i]?)++L.drop k
def Gg (ix:List Nat)(k:Nat):Bool:=ix.all (fun i=>Nat.blt i k)&&decide ix.Nodup
theorem SepT.pick {L L':Wa}{w:World}(h:SepT L T S w)(f:Nat->Nat)(hf:∀(j:Nat) (c:Chunk),L'[j]? =some c->L[f j]? =some c)(hi:∀i j,i<L'.length->j<L'.length->f i=f j->i=j):SepT L' (fun j q=>j<L'.length/\T (f j) q) S w:=by
 refine ⟨fun hj=> ?_,?_,fun h1 h2=>h.ro h1.2 h2,fun h1=>h.lt h1.2,h.lts⟩
 ·rename_i j c
  have hlt:=(WQ.1 hj).1
  have:(fun q=>j<L'.length/\T (f j) q)=T (f j):=by funext q;simp [hlt]
  rw [this];exact h.ok (hf _ _ hj)
 rintro i j q hij ⟨h1,h2⟩ ⟨h3,h4⟩;exact h.apart (fun e=>hij (hi i j h1 h3 e)) h2 h4
theorem SepL.pick {L L':Wa}{w:World}(h:SepL L w)(f:Nat->Nat)(hf:∀(j:Nat) (c:Chunk),L'[j]? =some c->L[f j]? =some c)(hi:∀i j,i<L'.length->j<L'.length->f i=f j->i=j):SepL L' w:=by
 obtain ⟨T,S,h⟩:=h;exact ⟨_,S,h.pick f hf hi⟩
theorem Cd {L:Wa}: ∀(ix:List Nat),(∀i∈ix,i<L.length)->(ix.filterMap (fun i=>L[i]?)).length=ix.length/\ ∀(j:Nat) (c:Chunk),(ix.filterMap (fun i=>L[i]?))[j]? =some c-> ∃i:Nat,ix[j]? =some i/\L[i]? =some c
 | [],_=>⟨rfl,fun j c h=>by simp at h⟩
 |i::r,h=>by
  have hi:i<L.length:=h i (by simp)
  obtain ⟨h1,h2⟩:=Cd r fun k hk=>h k (by simp [hk])
  rw [List.filterMap_cons_some (b:=L[i]) (by simp [hi])];refine ⟨by simp [h1],fun j c hj=> ?_⟩
  cases j with
  |zero=>simp only [WM,XI] at hj;exact ⟨i,J,by simp [hi,hj]⟩
  |succ j=>simp only [WL] at hj;obtain ⟨k,h3,h4⟩:=h2 j c hj;exact ⟨k,by simpa using h3,h4⟩
theorem SepT.sel {L:Wa}{w:World}(h:SepT L T S w)(ix:List Nat)(k:Nat)(hk:Gg ix k=true)(hl:Nat.ble k L.length=true): ∃T',SepT (DT ix k L) T' S w:=by
 unfold Gg at hk;simp only [XW,Wu,XO] at hk;obtain ⟨h1,h2⟩:=hk
 have h1': ∀i∈ix,i<k:=fun i hi=>by have h3:i+1<=k:=Xw (h1 i hi);omega
 have hl':=Xw hl
 obtain ⟨h3,h4⟩:=Cd (L:=L) ix fun i hi=>by have:=h1' i hi;omega
 refine ⟨_,h.pick (fun j=>if j<ix.length then ix.getD j 0 else j - ix.length+k) ?_ ?_⟩
 ·intro j c hj;unfold DT at hj;by_cases hlt:j<ix.length
  ·rw [WJ U] at hj;obtain ⟨i,h5,h6⟩:=h4 j c hj;simp [hlt];simp [hlt] at h5;rw [h5];exact h6
  rw [WK U,WN,h3] at hj;simp only [hlt,if_false];rw [Nat.add_comm];exact hj
 intro i j _ _ e;by_cases h5:i<ix.length<;>by_cases h6:j<ix.length
 ·simp only [h5,h6,if_true] at e;simp [h5,h6] at e;have h7:=Xh.1 h2;rcases Nat.lt_trichotomy i j with h8|h8|h8
  ·exact absurd e (h7 i j h5 h6 h8)
  ·exact h8
  exact absurd e.symm (h7 j i h6 h5 h8)
 ·simp only [h5,h6,if_true,if_false] at e
  have:ix.getD i 0<k:=by simp [h5];exact h1' _ (XY h5)
  omega
 ·simp only [h5,h6,if_true,if_false] at e
  have:ix.getD j 0<k:=by simp [h6];exact h1' _ (XY h6)
  omega
 simp only [h5,h6,if_false] at e;omega
theorem SepL.sel {L:Wa}{w:World}(h:SepL L w)(ix:List Nat)(k:Nat)(hk:Gg ix k=true)(hl:Nat.ble k L.length=true):SepL (DT ix k L) w:=by
 obtain ⟨T,S,h⟩:=h;obtain ⟨T',h'⟩:=h.sel ix k hk hl;exact ⟨T',S,h'⟩
theorem aU {L Z:Wa}{c:Chunk}(h:L[i]? =some c):(L++Z)[i]? =some c:=by
 rw [WJ (WQ.1 h).1];exact h
theorem lL {L:Wa}(Z:Wa){c:Chunk}(h:L[i]? =some c)(d:Chunk):(L++Z).set i d=L.set i d++Z:=List.set_append_left _ _ (WQ.1 h).1
def Sp (Z L:Wa)(w:World):Prop:=SepL (L++Z) w
def Cv (L' L:Wa):Prop:= ∀Z w,Sp Z L' w->Sp Z L w
theorem ah (L:Wa):Cv L L:=fun _ _ h=>h
theorem Cv.trans {A hU C:Wa}(h:Cv A hU)(k:Cv hU C):Cv A C:=fun Z w x=>k Z w (h Z w x)
theorem yC {L:Wa}(ix:List Nat)(k:Nat)(hk:Gg ix k=true)(hl:Nat.ble k L.length=true):Cv L (DT ix k L):=fun Z w h=>by
 have hl':k<=L.length:=Xw hl;have h1:=SepL.sel h ix k hk (by simp;omega)
 have e:DT ix k (L++Z)=DT ix k L++Z:=by
  unfold DT;rw [List.drop_append_of_le_length hl',V3]
  congr 1
  unfold Gg at hk;simp only [XW,Wu] at hk;have h3:=hk.1;clear h1 hk
  induction ix with
  |nil=>rfl
  |cons i r ih=>
   have h2:i+1<=k:=Xw (h3 i (by simp))
   have h4:=ih fun j hj=>h3 j (by simp [hj])
   simp only [List.filterMap_cons,WJ (show i<L.length by omega),h4]
 unfold Sp;rw [<-e];exact h1
structure Cx where
 P:Program
 n:Nat
 r:Option Nat
def D5 (r:Option Nat):Fence:={Fence.wide with round:=r}
def xb (D:Nat):Deferred:={target:=.collected D,args:= #[]}
def cc (D:Nat):Chunk where
 ok T S w:=T D/\w.heap[D]? =some (.deferred (some []))
 loc:=fun {T S w w'} h ⟨h1,h2⟩=>⟨h1,(h.block D (by rcases XA D w.heap.size with hl|hl;exact hl;rw [Wg hl] at h2;cases h2) (.inl h1)).trans h2⟩
 mono:=fun _ h=>h
 ro:=false
 dup:=fun h=>Bool.noConfusion h
structure Fx (X:Cx) (s:bA) (a:Act):Prop where
 size:a.tmps.size=X.n
 at_: ∀k v,jq s k=some v->a.tmps.getD k undef=v
theorem Fx.sub {X:Cx}{s t:bA}(h:Fx X s a)(hs:AV s t):Fx X t a:=⟨h.size,fun k v hk=>h.at_ k v (Ou hs hk)⟩
theorem Fx.fits {X:Cx}{s:bA}(h:Fx X s a):Fits X.n s {a with defers:=[]}:=⟨h.size,rfl,h.at_⟩
theorem Fx.eval {X:Cx}{s:bA}(h:Fx X s a)(hx:be s x=some v):a.eval x=v:=h.fits.eval hx
theorem Fx.put {X:Cx}{s:bA}(h:Fx X s a){d:Nat}(v:Value)(hd:d<X.n):Fx X ((d,v)::s) (a.put (some d) v):=
 have h1:=h.fits.put v hd
 ⟨h1.size,h1.at_⟩
abbrev K3:=Exit->bA->Wa->Prop
def yP (X:Cx)(H:Wa)(K:K3):Exit->Act->World->Prop:=fun e a w=> ∃(s:bA) (L:Wa) (Ds:List Nat),Fx X s a/\a.defers=Ds.map xb/\Sp (Ds.map cc++H) L w/\K e s L
def Wq (X:Cx)(c:Code)(K:K3)(s:bA)(L:Wa):Prop:= ∀(H:Wa) (Ds:List Nat) (a:Act) (w:World),Fx X s a->a.defers=Ds.map xb->Sp (Ds.map cc++H) L w->c.wpIn (D5 X.r) 0 X.P (yP X H K) a w
def nx (N:bA->Wa->Prop)(K:K3):K3
 | .normal,s,w=>N s w
 |e,s,w=>K e s w
def bk (id:Nat)(K:K3):K3
 | .exit j,s,w=>bif Nat.beq j id then K .normal s w else K (.exit j) s w
 |e,s,w=>K e s w
section
variable {X:Cx}{K:K3}{s:bA}{L:Wa}
theorem gQ {t:bA}{L':Wa}(h:Wq X c K t L')(hs:AV s t)(hl:Cv L L'):Wq X c K s L:=fun H Ds a w ha hd hw=>h H Ds a w (ha.sub hs) hd (hl _ _ hw)
theorem PB {K':K3}(h:Wq X c K s L)(hk:∀e s L,K e s L->K' e s L):Wq X c K' s L:=fun H Ds a w ha hd hw=>wpIn_mono (h H Ds a w ha hd hw) fun e a' w' ⟨s',L',Ds',h1,h2,h3,h4⟩=>⟨s',L',Ds',h1,h2,h3,hk _ _ _ h4⟩
theorem au {x y:Code}(h:Wq X x (nx (fun s L=>Wq X y K s L) K) s L):Wq X (.seq x y) K s L:=by
 intro H Ds a w ha hd hw;refine wpIn_seq (wpIn_mono (h H Ds a w ha hd hw) ?_);rintro e a' w' ⟨s',L',Ds',h1,h2,h3,h4⟩
 cases e with
 |normal=>exact h4 H Ds' a' w' h1 h2 h3
 |_=>exact ⟨s',L',Ds',h1,h2,h3,h4⟩
theorem Is (h:K .normal s L):Wq X .skip K s L:=fun H Ds _ _ ha hd hw=>wpIn_skip ⟨s,L,Ds,ha,hd,hw,h⟩
theorem JV (h:K .ret s L):Wq X .ret K s L:=fun H Ds _ _ ha hd hw=>wpIn_ret ⟨s,L,Ds,ha,hd,hw,h⟩
theorem KZ {id:Nat}(h:K (.exit id) s L):Wq X (.exit id) K s L:=fun H Ds _ _ ha hd hw=>wpIn_exit ⟨s,L,Ds,ha,hd,hw,h⟩
theorem Cw {id:Nat}(h:Wq X c (bk id K) s L):Wq X (.block id c) K s L:=by
 intro H Ds a w ha hd hw;refine wpIn_block (wpIn_mono (h H Ds a w ha hd hw) ?_);rintro e a' w' ⟨s',L',Ds',h1,h2,h3,h4⟩
 cases e with
 | exit j=>
  show if j=id then yP X H K .normal a' w' else yP X H K (.exit j) a' w'
  by_cases e:j=id
  ·subst e;rw [if_pos rfl];exact ⟨s',L',Ds',h1,h2,h3,by simpa [bk] using h4⟩
  rw [if_neg e]
  have:Nat.beq j id=false:=by cases hb:Nat.beq j id with
   |false=>rfl
   |true=>exact absurd (Xu hb) e
  exact ⟨s',L',Ds',h1,h2,h3,by simpa [bk,this] using h4⟩
 |_=>exact ⟨s',L',Ds',h1,h2,h3,h4⟩
theorem K0 {c:Operand}{x y:Code}{b:Bool}(hc:be s c=some (.bool b))(ht:b=true->Wq X x K s L)(hf:b=false->Wq X y K s L):Wq X (.cond c x y) K s L:=
 fun H Ds a w ha hd hw=>wpIn_cond_split (ha.eval hc) (fun h=>ht h H Ds a w ha hd hw) (fun h=>hf h H Ds a w ha hd hw)
theorem cN {c:Operand}{x y:Code}(hc:be s c=some (.bool true))(ht:Wq X x K s L):Wq X (.cond c x y) K s L:=
 fun H Ds a w ha hd hw=>wpIn_cond_true (ha.eval hc) (ht H Ds a w ha hd hw)
theorem cE {c:Operand}{x y:Code}(hc:be s c=some (.bool false))(hf:Wq X y K s L):Wq X (.cond c x y) K s L:=
 fun H Ds a w ha hd hw=>wpIn_cond_false (ha.eval hc) (hf H Ds a w ha hd hw)
theorem AB {N:bA->Wa->Prop}(h:N s L):nx N K .normal s L:=h
theorem R7 {N:bA->Wa->Prop}(h:K (.exit i) s L):nx N K (.exit i) s L:=h
theorem P9 {N:bA->Wa->Prop}(h:K .ret s L):nx N K .ret s L:=h
theorem Re (h:K .normal s L):bk i K .normal s L:=h
theorem Sw (h:K .ret s L):bk i K .ret s L:=h
theorem Sv (h:K .normal s L):bk i K (.exit i) s L:=by simpa [bk] using h
theorem UK (hij:Nat.beq j i=false)(h:K (.exit j) s L):bk i K (.exit j) s L:=by simpa [bk,hij] using h
theorem SH (E:ι->bA)(M:ι->Wa)(Hn:Nat->ι->Prop)(m0:Nat)(i0:ι)(h0:Hn m0 i0)(hs:AV s (E i0))(hl:Cv L (M i0))(round:∀m i,Hn m i->Wq X c (nx (fun s' L'=> ∃m' i',m'<m/\Hn m' i'/\AV s' (E i')/\Cv L' (M i')) K) (E i) (M i)):Wq X (.loop c) K s L:=by
 intro H Ds a w ha hd hw
 let hD:Nat->Act->World->Prop:=fun k a w=> ∃(i:ι) (Ds:List Nat),Hn k i/\Fx X (E i) a/\a.defers=Ds.map xb/\Sp (Ds.map cc++H) (M i) w
 refine wpIn_loop (fun a w=> ∃k,hD k a w) (fun a w=>leastOf fun k=>hD k a w) ⟨m0,i0,Ds,h0,ha.sub hs,hd,hl _ _ hw⟩ ?_;intro a w hI;obtain ⟨i,Ds,g1,g2,g3,g4⟩:=(leastOf_spec hI).1;refine wpIn_mono (round _ i g1 H Ds a w g2 g3 g4) ?_;rintro e a' w' ⟨s',L',Ds',h1,h2,h3,h4⟩
 cases e with
 |normal=>
  obtain ⟨m',i',q1,q2,q3,q4⟩:=h4;have hI':hD m' a' w':=⟨i',Ds',q2,h1.sub q3,h2,q4 _ _ h3⟩;exact ⟨⟨m',hI'⟩,Nat.lt_of_le_of_lt ((leastOf_spec ⟨m',hI'⟩).2 m' hI') q1⟩
 |_=>exact ⟨s',L',Ds',h1,h2,h3,h4⟩
end
def OpX (P:Program)(s:bA)(L:Wa)(o:Oper)(R:Value->Wa->Prop):Prop:=
 ∀ρ:Operand->Value,(∀x u,be s x=some u->ρ x=u)-> ∀Z w,Sp Z L w->
  (∃v w' L',(execOp ρ o).run P w=.ok (.value v) w'/\Sp Z L' w'/\R v L')\/
  (∃w' L',(execOp ρ o).run P w=.ok .skip w'/\Sp Z L' w'/\R undef L')\/
  (∃f args,(execOp ρ o).run P w=.ok (.enter f args) w/\Calls P f args w fun e w'=> ∃v L',e=.returned v/\Sp Z L' w'/\R v L')\/
  (∃l f tmps assign body,(execOp ρ o).run P w=.ok (.round l f tmps assign body) w/\RoundIn Fence.wide 0 P l f tmps assign body w fun e w'=> ∃v L',e=.returned v/\Sp Z L' w'/\R v L')
def eF (o:Oper):Bool:=match o.op with| .defer _=>false|_=>true
def putE (d:Option Nat)(v:Value)(s:bA):bA:=match d with|some d=>(d,v)::s|none=>s
def G8 (n:Nat):Option Nat->Bool
 |some d=>Nat.ble (d+1) n
 |none=>true
theorem Fx.putE {X:Cx}{s:bA}(h:Fx X s a){d:Option Nat}(v:Value)(hd:G8 X.n d=true):Fx X (putE d v s) (a.put d v):=by
 cases d with
 |none=>exact h
 |some d=>exact h.put v (Xw hd)
theorem put_defers (a:Act)(d:Option Nat)(v:Value):(a.put d v).defers=a.defers:=by cases d<;>rfl
theorem OpX.wpIn {X:Cx}{s:bA}{L:Wa}{R:Value->Wa->Prop}(h:OpX X.P s L o R)(hn:eF o=true){Z:Wa}{w:World}(ha:Fx X s a)(hw:Sp Z L w){K:Act->World->Prop}(hK:∀v L' w',R v L'->Sp Z L' w'->K (a.put o.dst v) w'):o.wpIn (D5 X.r) 0 X.P a w K Q:=by
 refine ⟨fun _ _=>trivial,?_⟩
 have e:o.semAt (D5 X.r).round a.eval=execOp a.eval o:=Oper.semAt_eq _ _ _ fun c hc=>by unfold eF at hn;rw [hc] at hn;cases hn
 rw [e];rcases h a.eval (fun x u hx=>ha.eval hx) _ w hw with ⟨v,w',L',h1,h2,h3⟩|⟨w',L',h1,h2,h3⟩|⟨f,args,h1,h2⟩|⟨l,f,tmps,assign,body,h1,h2⟩
 ·rw [h1];exact hK _ _ _ h3 h2
 ·rw [h1];exact hK _ _ _ h3 h2
 ·rw [h1];refine ⟨(by intro h;cases h),?_⟩;have h3:CallsIn (D5 X.r) (0 - 1) X.P f args w _:=callsIn_wide.2 h2;refine h3.mono ?_;rintro e w' ⟨v,L',rfl,h4,h5⟩;exact hK _ _ _ h5 h4
 rw [h1];refine ⟨(by intro h;cases h),?_⟩;have h3:RoundIn (D5 X.r) (0 - 1) X.P l f tmps assign body w _:=h2;refine h3.mono ?_;rintro e w' ⟨v,L',rfl,h4,h5⟩;exact hK _ _ _ h5 h4
def aY (X:Cx)(ops:Array Oper)(l:List Oper)(K:K3)(s:bA)(L:Wa):Prop:= ∀(H:Wa) (Ds:List Nat) (a:Act) (w:World),Fx X s a->a.defers=Ds.map xb->Sp (Ds.map cc++H) L w->wpListIn (D5 X.r) 0 X.P ops (yP X H K) l a w
theorem eG {X:Cx}{s:bA}{b:Bool}(ha:Fx X s a)(h:aA ops s o=some b):Region.wanted o (yielded ops a.tmps)=b:=H1 (a:={a with defers:=[]}) ha.fits h
section
variable {X:Cx}{K:K3}{s:bA}{L:Wa}{rest:List Oper}{d:Nat}{op:Op}
theorem ke {id:Nat}(h:aY X l.toArray l K s L):Wq X (.region id l.toArray false) K s L:=fun H Ds a w ha hd hw=>wpIn_region_lit (h H Ds a w ha hd hw)
theorem Aj (h:K .normal s L):aY X ops [] K s L:=fun H Ds _ _ ha hd hw=>wpListIn_nil ⟨s,L,Ds,ha,hd,hw,h⟩
theorem SF {t:bA}{L':Wa}(h:aY X ops l K t L')(hs:AV s t)(hl:Cv L L'):aY X ops l K s L:=fun H Ds a w ha hd hw=>h H Ds a w (ha.sub hs) hd (hl _ _ hw)
theorem Rr {R:Value->Wa->Prop}(h:OpX X.P s L o R)(hn:eF o=true)(hg:aA ops s o=some true)(hd:G8 X.n o.dst=true)(k:∀v L',R v L'->aY X ops rest K (putE o.dst v s) L'):aY X ops (o::rest) K s L:=by
 intro H Ds a w ha hds hw
 refine wpListIn_step fun K' hK=> ?_
 rw [if_pos (eG ha hg)]
 exact h.wpIn hn ha hw fun v L' w' h1 h2=>hK _ _ (k v L' h1 H Ds _ _ (ha.putE v hd) ((put_defers _ _ _).trans hds) h2)
theorem UO (hg:aA ops s ⟨some d,op,ty,pos,af,gd⟩=some false)(hd:Nat.ble (d+1) X.n=true)(k:aY X ops rest K ((d,undef)::s) L):aY X ops (⟨some d,op,ty,pos,af,gd⟩::rest) K s L:=by
 intro H Ds a w ha hds hw
 refine wpListIn_step fun K' hK=> ?_
 rw [if_neg (by rw [eG ha hg];exact Bool.false_ne_true)];exact ⟨fun _ _=>trivial,hK _ _ (k H Ds _ _ (ha.put undef (Xw hd)) hds hw)⟩
theorem N7 (h:Ev P s (fun _=>True) o v):OpX P s L o fun u L'=>u=v/\L'=L:=fun ρ hρ Z w hw=> .inl ⟨v,w,L,h ρ hρ w trivial,hw,rfl,rfl⟩
theorem gT (h:Ev X.P s (fun _=>True) ⟨some d,op,ty,pos,af,gd⟩ v)(hn:eF ⟨some d,op,ty,pos,af,gd⟩=true)(hg:aA ops s ⟨some d,op,ty,pos,af,gd⟩=some true)(hd:Nat.ble (d+1) X.n=true)(k:aY X ops rest K ((d,v)::s) L):aY X ops (⟨some d,op,ty,pos,af,gd⟩::rest) K s L:=
 Rr (N7 h) hn hg hd fun _ _ ⟨e1,e2⟩=>by subst e1 e2;exact k
def Rd (P:Program)(s:bA)(L:Wa)(o:Oper)(v:Value):Prop:= ∀Z w,Sp Z L w->Ev P s (· =w) o v
theorem vT (h:Rd P s L o v):OpX P s L o fun u L'=>u=v/\L'=L:=fun ρ hρ Z w hw=> .inl ⟨v,w,L,h Z w hw ρ hρ w rfl,hw,rfl,rfl⟩
theorem sG (h:Rd X.P s L ⟨some d,op,ty,pos,af,gd⟩ v)(hn:eF ⟨some d,op,ty,pos,af,gd⟩=true)(hg:aA ops s ⟨some d,op,ty,pos,af,gd⟩=some true)(hd:Nat.ble (d+1) X.n=true)(k:aY X ops rest K ((d,v)::s) L):aY X ops (⟨some d,op,ty,pos,af,gd⟩::rest) K s L:=
 Rr (vT h) hn hg hd fun _ _ ⟨e1,e2⟩=>by subst e1 e2;exact k
theorem wQ (d:Nat)(hl:jq s d=some (.bool g))(h1:g=true->aY X ops l K s L)(h2:g=false->aY X ops l K s L):aY X ops l K s L:=by
 cases g with
 |true=>exact h1 rfl
 |false=>exact h2 rfl
theorem r8 {L':Wa}(hl:Cv L L')(h:aY X ops l K s L'):aY X ops l K s L:=SF h dl hl
def vd (s2:bA)(L2:Wa):K3:=fun e s' L'=>e=.normal/\AV s' s2/\Cv L' L2
theorem wn {F:Fence}{Q':Exit->Act->World->Prop}: ∀(l1 l2:List Oper) (a:Act) (w:World),wpListIn F m P ops Q l1 a w->(∀a w,Q .normal a w->wpListIn F m P ops Q' l2 a w)->(∀e a w,e≠ .normal->Q e a w->Q' e a w)->wpListIn F m P ops Q' (l1++l2) a w
 | [],l2,a,w,h,h2,_=>h2 a w h
 | o ::r,l2,a,w,h,h2,h3=>by
  have hw: ∀{K K':Act->World->Prop},(∀a w,K a w->K' a w)->o.wpIn F m P a w K Q->o.wpIn F m P a w K' Q':=by
   intro K K' hK hh;unfold Oper.wpIn at*;refine ⟨hh.1,?_⟩;have hh:=hh.2
   have lets:LetsOut Q->LetsOut Q':=fun ⟨a0,w0,hq⟩=>⟨a0,w0,h3 _ _ _ (by simp) hq⟩
   generalize (o.semAt F.round a.eval).run P w=r at*
   cases r with
   | ok x w'=>
    cases x<;>simp only [Oper.uponIn] at hh⊢ <;>
     first
      |exact hK _ _ hh
      |exact ⟨hh.1,CallsIn.mono hh.2 (fun e w'' he=>by cases e<;>first|exact hK _ _ he|exact h3 _ _ _ (by simp) he|exact lets he)⟩
      |exact ⟨hh.1,RowsIn.mono hh.2 (fun _ _ he=>hK _ _ he)⟩
      |exact ⟨hh.1,RoundIn.mono hh.2 (fun e w'' he=>by cases e<;>first|exact hK _ _ he|exact h3 _ _ _ (by simp) he|exact lets he)⟩
   |halt x w'=>cases x<;>simp only [Oper.uponIn] at hh⊢ <;>first|exact h3 _ _ _ (by simp) hh|exact hh
  unfold wpListIn at h;show wpListIn F m P ops Q' (o::(r++l2)) a w;unfold wpListIn;split
  ·rename_i hwt
   rw [if_pos hwt] at h;exact hw (fun a w hh=>wn r l2 a w hh h2 h3) h
  rename_i hwt
  rw [if_neg hwt] at h;exact ⟨h.1,wn r l2 _ _ h.2 h2 h3⟩
theorem TF (k:Nat)(s2:bA)(L2:Wa)(h1:aY X ops (l.take k) (vd s2 L2) s L)(h2:aY X ops (l.drop k) K s2 L2):aY X ops l K s L:=by
 intro H Ds a w ha hd hw;rw [<-Xm k l];refine wn _ _ a w (h1 H Ds a w ha hd hw) ?_ ?_
 ·rintro a w ⟨s',L',Ds',g1,g2,g3, -,g4,g5⟩;exact h2 H Ds' a w (g1.sub g4) g2 (g5 _ _ g3)
 rintro e a w hne ⟨s',L',Ds',g1,g2,g3,g4, -⟩;exact absurd g4 hne
theorem li {s2:bA}{L2:Wa}(hs:AV s s2)(hl:Cv L L2):aY X ops [] (vd s2 L2) s L:=Aj ⟨rfl,hs,hl⟩
end
structure Okc (P:Program) (f:FuncId) (args:Wb) (L:Wa) (R:Value->Wa->Prop):Prop where
 cal:qn P f
 run: ∀Z w,Sp Z L w->Calls P f args.toArray w fun e w'=> ∃v L',e=.returned v/\Sp Z L' w'/\R v L'
def Ny (X:Cx)(fn:Func)(R:Value->Wa->Prop):K3
 | .normal,s,L| .ret,s,L=> ∀a,Fx X s a-> ∃v L2,(∀Z w,Sp Z L w->(results fn a.tmps).run X.P w=.ok v w)/\Cv L L2/\R v L2
 |_,_,_=>False
theorem BO {tmps:Array Value}{R:Ending->World->Prop}{L Z:Wa}(hR:∀w,Sp Z L w-> ∃v,(results fn tmps).run P w=.ok v w/\R (.returned v) w): ∀(Ds:List Nat) (w:World),Sp (Ds.map cc++Z) L w->LeavesInM Fence.wide 0 P fn tmps R (Ds.map xb) .returning w
 | [],w,hw=>hR w (by simpa using hw)
 | D::Ds,w,hw=>by
  have hg:(L++(cc D::(Ds.map cc++Z)))[L.length]? =some (cc D):=by simp
  have hw':SepL (L++(cc D::(Ds.map cc++Z))) w:=hw;obtain ⟨T,S,hT,hk⟩:=hw'.get hg;refine ⟨by simp,.inl ⟨D,_,rfl,run_takeDeferred hk,BO hR Ds _ ?_⟩⟩
  have h1:SepL ((L++(cc D::(Ds.map cc++Z))).set L.length ⟨fun _ _ _=>True,fun _ h=>h,fun _ h=>h,true,fun _ _ _ _ h=>h⟩) (w.putObj D (.deferred none)):=by
   refine hw'.upd hg fun T S h2 h3 _ _=> ?_
   have hx:=grownBy_putObj' w D (.deferred none);refine ⟨⟨hx.os,hx.tape,hx.output,hx.size,fun q hq hn=>hx.block q hq fun e=>hn ?_⟩,fun _=>False,fun _ h=>h.elim,fun _ h=>h.elim,trivial⟩;cases e;exact h2.1
  refine SepL.pick h1 (fun j=>if j<L.length then j else j+1) ?_ ?_
  ·intro j c hj;by_cases hlt:j<L.length
   ·simp only [hlt,if_true];rw [WJ hlt] at hj;rw [WS U,WJ hlt];exact hj
   simp only [hlt,if_false];rw [WK U] at hj;rw [WS U,WK U,show j+1 - L.length=(j - L.length)+1 by omega,WL];exact hj
  intro i j _ _ e;split at e<;>split at e<;>omega
theorem Gf {R:Value->Wa->Prop}{args:Wb}{L:Wa}(hf:P.funcs[f]? =some fn)(hb:fn.body=some c)(hn:Nat.ble args.length fn.ntmps=true)(h:Wq ⟨P,fn.ntmps,none⟩ c (Ny ⟨P,fn.ntmps,none⟩ fn R) (uz args 0) L)(hm:(fn.name== "runtime.NumGoroutine")=false:=by rfl):Okc P f args L R:=by
 refine ⟨⟨fn,hf,by rw [hb];rfl,hm⟩,?_⟩;intro Z w hw;refine callsIn_wide.1 (callsIn_of_wp_marks (n:=0) hf hb trivial ?_ J);refine wpIn_mono (h Z [] _ w ⟨?_,?_⟩ J hw) ?_
 ·have:=Xw hn;simp;omega
 ·intro k v hk;obtain ⟨-,h2⟩:=Fq args 0 k v hk
  have hlt:k<args.length:=by simpa using (WQ.1 h2).1
  rw [Nat.sub_zero] at h2;have h3:=(WQ.1 h2).2;simp [Array.getElem?_append,hlt,h3]
 rintro e a' w' ⟨s',L',Ds',h1,h2,h3,h4⟩
 have key:(∃v L2,(∀Z w,Sp Z L' w->(results fn a'.tmps).run P w=.ok v w)/\Cv L' L2/\R v L2)->LeavesInM Fence.wide 0 P fn a'.tmps (fun e w'=> ∃v L',e=.returned v/\Sp Z L' w'/\R v L') a'.defers .returning w':=by
  rintro ⟨v,L2,g1,g2,g3⟩;rw [h2];exact BO (Z:=Z) (L:=L') (fun w hw=>⟨v,g1 _ w hw,v,L2,J,g2 _ _ hw,g3⟩) Ds' w' h3
 cases e with
 |normal=>exact key (h4 a' h1)
 |ret=>exact key (h4 a' h1)
 |_=>exact h4.elim
end
section
open Go.RowKit
structure Rep (α:Type) where
 sz:Nat
 rel:(Nat->Prop)->World->Wb->α->Prop
 loc: ∀{S:Nat->Prop} {w w':World} {vs:Wb} {x:α},Agr S w w'->rel S w vs x->rel S w' vs x
 mono: ∀{S S':Nat->Prop} {w:World} {vs:Wb} {x:α},(∀q,S q->S' q)->rel S w vs x->rel S' w vs x
 len: ∀{S:Nat->Prop} {w:World} {vs:Wb} {x:α},rel S w vs x->vs.length=sz
 one: ∀{S:Nat->Prop} {w:World} {vs:Wb} {x:α},rel S w vs x->vs.all (·.oneCell')=true
def Rep.flat (sz:Nat)(en:α->Wb)(h1:∀x,(en x).length=sz)(h2:∀x,(en x).all (·.oneCell')=true):Rep α where
 sz:=sz
 rel _ _ vs x:=vs=en x
 loc:=fun _ h=>h
 mono:=fun _ h=>h
 len:=fun h=>h▸h1 _
 one:=fun h=>h▸h2 _
def jM (k:IntKind):Rep Int:=.flat 1 (fun x=> [.int k x]) (fun _=>rfl) (fun _=>rfl)
def SV:Rep Bool:=.flat 1 (fun x=> [.bool x]) (fun _=>rfl) (fun _=>rfl)
def sX:Rep ByteArray:=.flat 1 (fun x=> [.string x]) (fun _=>rfl) (fun _=>rfl)
inductive All2 {α β:Type} (R:α->β->Prop):List α->List β->Prop
 |nil:All2 R [] []
 |cons {a b l m:_}:R a b->All2 R l m->All2 R (a::l) (b::m)
theorem All2.length {R:α->β->Prop}{l:List α}{m:List β}(h:All2 R l m):l.length=m.length:=by induction h with
 |nil=>rfl
 |cons _ _ ih=>simp [ih]
theorem All2.imp {R R':α->β->Prop}{l:List α}{m:List β}(h:All2 R l m)(hr:∀a b,R a b->R' a b):All2 R' l m:=by induction h with
 |nil=>exact .nil
 |cons h1 _ ih=>exact .cons (hr _ _ h1) ih
theorem All2.get {R:α->β->Prop}{l:List α}{m:List β}(h:All2 R l m){b:β}(hi:m[i]? =some b): ∃a,l[i]? =some a/\R a b:=by
 induction h generalizing i with
 |nil=>simp at hi
 |cons h1 _ ih=>
  cases i with
  |zero=>simp only [WM,XI] at hi⊢;subst hi;exact ⟨_,J,h1⟩
  |succ i=>simp only [WL] at hi⊢;exact ih hi
theorem All2.append {R:α->β->Prop}{l l':List α}{m m':List β}(h:All2 R l m)(h':All2 R l' m'):All2 R (l++l') (m++m'):=by induction h with
 |nil=>exact h'
 |cons h1 _ ih=>exact .cons h1 ih
theorem All2.drop {R:α->β->Prop}{l:List α}{m:List β}(h:All2 R l m): ∀k,All2 R (l.drop k) (m.drop k):=by
 induction h with
 |nil=>intro k;simp;exact .nil
 |cons h1 h2 ih=>intro k;cases k with
  |zero=>exact .cons h1 h2
  |succ k=>exact ih k
theorem All2.take {R:α->β->Prop}{l:List α}{m:List β}(h:All2 R l m): ∀k,All2 R (l.take k) (m.take k):=by
 induction h with
 |nil=>intro k;simp;exact .nil
 |cons h1 h2 ih=>intro k;cases k with
  |zero=>exact .nil
  |succ k=>exact .cons h1 (ih k)
theorem All2.set {R:α->β->Prop}{l:List α}{m:List β}(h:All2 R l m){a:α}{b:β}(hab:R a b): ∀k,All2 R (l.set k a) (m.set k b):=by
 induction h with
 |nil=>intro k;exact .nil
 |cons h1 h2 ih=>intro k;cases k with
  |zero=>exact .cons hab h2
  |succ k=>exact .cons h1 (ih k)
section
variable {R:Rep α}
theorem oo {w:World}{vss:List Wb}{xs:List α}(h:All2 (R.rel S w) vss xs):vss.flatten.length=xs.length*R.sz:=by
 induction h with
 |nil=>simp
 |cons h1 _ ih=>rw [WI,XS,ih,R.len h1,WY,Xt];omega
theorem vM {w:World}{vss:List Wb}{xs:List α}(h:All2 (R.rel S w) vss xs):vss.flatten.all (·.oneCell')=true:=by
 induction h with
 |nil=>rfl
 |cons h1 _ ih=>rw [WI,List.all_append,R.one h1,ih];rfl
theorem vN {w:World}: ∀{vss:List Wb} {xs:List α},All2 (R.rel S w) vss xs-> ∀{i:Nat} {vs:Wb},vss[i]? =some vs-> ∀{j:Nat} {u:Value},vs[j]? =some u->vss.flatten[i*R.sz+j]? =some u
 |_,_,.nil,i,vs,h,_,_,_=>by simp at h
 |_,_,.cons (a:=a) h1 h2,0,vs,h,j,u,hu=>by
  simp only [WM,XI] at h;subst h;rw [WI,Nat.zero_mul,XC,WJ (WQ.1 hu).1];exact hu
 |_,_,.cons (a:=a) h1 h2,i+1,vs,h,j,u,hu=>by
  simp only [WL] at h
  have e:(i+1)*R.sz+j=a.length+(i*R.sz+j):=by rw [R.len h1,Xt];omega
  rw [WI,e,WK U,Nat.add_sub_cancel_left];exact vN h2 h hu
theorem za {w:World}: ∀{vss:List Wb} {xs:List α},All2 (R.rel S w) vss xs-> ∀k,(vss.drop k).flatten=vss.flatten.drop (k*R.sz)
 |_,_,.nil,k=>by simp
 |_,_,.cons h1 h2,0=>by simp
 |_,_,.cons (a:=a) h1 h2,k+1=>by
  rw [WB,za h2 k,WI,show (k+1)*R.sz=a.length+k*R.sz by rw [R.len h1,Xt];omega, <-List.drop_drop,List.drop_left]
def SlR (R:Rep α)(S:Nat->Prop)(w:World)(v:Value)(xs:List α):Prop:= ∃A c,v=.slice A xs.length c/\xs.length<=c/\c<=9223372036854775807/\
 (0<xs.length-> ∃b o vss,A=some ⟨b,o,none⟩/\S b/\b<w.heap.size/\All2 (R.rel S w) vss xs/\CellsAt w b o vss.flatten)
theorem SlR.loc {w:World}{xs:List α}(h:SlR R S w v xs)(hx:Agr S w w'):SlR R S w' v xs:=by
 obtain ⟨A,c,h1,h2,h3,h4⟩:=h;refine ⟨A,c,h1,h2,h3,fun h0=> ?_⟩;obtain ⟨b,o,vss,g1,g2,g3,g4,g5⟩:=h4 h0;exact ⟨b,o,vss,g1,g2,Xz g3 hx.size,g4.imp fun _ _=>R.loc hx,g5.agr hx g2 g3⟩
theorem SlR.mono {S':Nat->Prop}{w:World}{xs:List α}(h:SlR R S w v xs)(hs:∀q,S q->S' q):SlR R S' w v xs:=by
 obtain ⟨A,c,h1,h2,h3,h4⟩:=h;refine ⟨A,c,h1,h2,h3,fun h0=> ?_⟩;obtain ⟨b,o,vss,g1,g2,g3,g4,g5⟩:=h4 h0;exact ⟨b,o,vss,g1,hs _ g2,g3,g4.imp fun _ _=>R.mono hs,g5⟩
theorem SlR.one {w:World}{xs:List α}(h:SlR R S w v xs):v.oneCell'=true:=by
 obtain ⟨A,c,rfl, -⟩:=h;rfl
theorem Hx (R:Rep α)(S:Nat->Prop)(w:World):SlR R S w (Y none 0 0) []:=⟨none,0,rfl,Xx _,by omega,fun h=>absurd h (by simp)⟩
end
def Rep.sl (R:Rep α):Rep (List α) where
 sz:=1
 rel S w vs xs:= ∃v,vs=[v]/\SlR R S w v xs
 loc:=fun h ⟨v,e,h1⟩=>⟨v,e,h1.loc h⟩
 mono:=fun h ⟨v,e,h1⟩=>⟨v,e,h1.mono h⟩
 len:=fun ⟨_,e,_⟩=>by rw [e];rfl
 one:=fun ⟨_,e,h⟩=>by rw [e];simp [h.one]
def iD (R:Rep α)(v:Value)(xs:List α):Chunk where
 ok _ S w:=SlR R S w v xs
 loc:=fun h h1=>h1.loc (h.mono fun _=> .inr)
 mono:=fun h h1=>h1.mono h
 ro:=true
 dup:=fun _ _ _ _ h=>h
def ae (b:Nat)(t:TypeId)(cs:Wb):Chunk where
 ok T _ w:=T b/\Blk w b t cs.toArray
 loc:=fun h ⟨h1,h2⟩=>⟨h1,h2.agr h (.inl h1)⟩
 mono:=fun _ h=>h
 ro:=false
 dup:=fun h=>Bool.noConfusion h
def ownsX (w:World)(e:TypeId)(sz:Nat)(v:Value)(n:Nat)(cs:Wb):Prop:=cs.length=n*sz/\((v=Y none 0 0/\n=0)\/ ∃g cap cur,v=.slice (some ⟨g,0,none⟩) n cap/\0<=g/\w.heap[g]? =some (.cells cur e (0,0))/\n<=cap/\cap<=maxLen/\(∃c0,cap<=c0/\c0<=maxLen/\cur.size=c0*sz)/\cur.toList.take (n*sz)=cs)
theorem ownsX.of {w:World}{sz:Nat}{cs:Wb}(h:w.ownsRow 0 e sz v n cs):ownsX w e sz v n cs:=⟨h.1,h.2.imp id fun ⟨g,cap,cur,a,b,c,d,f,k,i⟩=>⟨g,cap,cur,a,b,c,d,f,⟨cap,Xx _,f,k⟩,i⟩⟩
theorem ownsX.lt {w:World}{sz:Nat}{cs:Wb}(h:ownsX w e sz v n cs): ∀q,v.ownBlock=some q->q<w.heap.size:=fun q hq=>by
 rcases h.2 with ⟨rfl, -⟩|⟨g,cap,cur,rfl, -,h3, -⟩
 ·cases hq
 cases hq;exact Blk.lt (t:=e) (cs:=cur) h3
theorem GJ {X:Nat->Prop}{w:World}{sz:Nat}{cs:Wb}(h:ownsX w e sz v n cs)(hx:Agr X w w')(hv:∀q,v.ownBlock=some q->X q):ownsX w' e sz v n cs:=by
 refine ⟨h.1,?_⟩;rcases h.2 with h3|⟨g,cap,cur,e1,hg,hh,r⟩
 ·exact .inl h3
 exact .inr ⟨g,cap,cur,e1,hg,Blk.agr (t:=e) hh hx (hv g (by rw [e1];rfl)),r⟩
def bh (R:Rep α)(e:TypeId)(v:Value)(xs:List α):Chunk where
 ok T S w:= ∃vss,All2 (R.rel S w) vss xs/\((ownsX w e R.sz v xs.length vss.flatten/\ ∀q,v.ownBlock=some q->T q)\/(xs.length=0/\ ∃A,v=.slice A 0 0))
 loc:=fun h ⟨vss,h1,h2⟩=>⟨vss,h1.imp fun _ _=>R.loc (h.mono fun _=> .inr),h2.imp (fun ⟨h2,h3⟩=>⟨GJ h2 h fun q hq=> .inl (h3 q hq),h3⟩) id⟩
 mono:=fun h ⟨vss,h1,h2⟩=>⟨vss,h1.imp fun _ _=>R.mono h,h2⟩
 ro:=false
 dup:=fun h=>Bool.noConfusion h
def Ge (w0:World):Chunk where
 ok _ S w:=Ext w0 w/\ ∀q,q<w0.heap.size->S q
 loc:=fun h ⟨h1,h2⟩=>⟨⟨h.os.trans h1.os,h.tape.trans h1.tape,h.output.trans h1.output,Xy h1.size h.size,fun q hq=>(h.block q (Xz hq h1.size) (.inr (h2 q hq))).trans (h1.block q hq)⟩,h2⟩
 mono:=fun h ⟨h1,h2⟩=>⟨h1,fun q hq=>h q (h2 q hq)⟩
 ro:=true
 dup:=fun _ _ _ _ h=>h
def Gs (R:Rep α)(v:Value)(xs:List α)(c:Chunk):Prop:= ∀T S w,c.ok T S w-> ∃A cap,v=.slice A xs.length cap/\xs.length<=cap/\cap<=9223372036854775807/\
 (0<xs.length-> ∃b o vss,A=some ⟨b,o,none⟩/\All2 (R.rel S w) vss xs/\CellsAt w b o vss.flatten)
theorem bS {R:Rep α}{xs:List α}:Gs R v xs (iD R v xs):=fun T S w ⟨A,c,h1,h2,h3,h4⟩=>⟨A,c,h1,h2,h3,fun h0=>by
 obtain ⟨b,o,vss,g1,g2,g3,g4,g5⟩:=h4 h0
 exact ⟨b,o,vss,g1,g4,g5⟩⟩
theorem me {w:World}{sz g cap:Nat}{cur:Array Value}{cs:Wb}(h:w.heap[g]? =some (.cells cur e (0,0)))(hc:cur.toList.take (n*sz)=cs):CellsAt w g 0 cs:=fun j u hj=>by
 have hb:Blk w g e cur:=h;rw [XC,hb.cells, <-Array.getElem?_toList];rw [<-hc,WU] at hj;split at hj
 ·exact hj
 cases hj
theorem ak {R:Rep α}{xs:List α}:Gs R v xs (bh R e v xs):=fun T S w ⟨vss,h1,h2⟩=>by
 rcases h2 with ⟨h2, -⟩|⟨h0,A,rfl⟩
 ·rcases h2.2 with ⟨rfl,h0⟩|⟨g,cap,cur,rfl,g1,g2,g3,g4,g5,g6⟩
  ·rw [h0];exact ⟨none,0,J,by omega,by omega,fun h=>absurd h U⟩
  exact ⟨_,cap,J,g3,by unfold maxLen at g4;omega,fun _=>⟨g,0,vss,rfl,h1,me (cap:=cap) g2 g6⟩⟩
 exact ⟨A,0,by rw [h0],by omega,by omega,fun h=>absurd h U⟩
theorem bL {R:Rep α}{xs:List α}{L:Wa}(i:Nat)(hi:L[i]? =some (bh R e v xs)):Cv L (L.set i (iD R v xs)):=fun Z w h=>by
 have h1:=SepL.frz h (aU hi) (d:=iD R v xs) fun T S ⟨vss,h1,h2⟩=>by
  rcases h2 with ⟨h2,h3⟩|⟨h0,A,rfl⟩
  ·rcases h2.2 with ⟨rfl,h0⟩|⟨g,cap,cur,rfl,g1,g2,g3,g4,g5,g6⟩
   ·show SlR R _ w _ xs;exact ⟨none,0,by rw [h0],by omega,by omega,fun h=>absurd h U⟩
   exact ⟨_,cap,J,g3,by unfold maxLen at g4;omega,fun _=>⟨g,0,vss,rfl,.inr (h3 g rfl),Blk.lt (t:=e) (cs:=cur) g2,h1.imp fun _ _=>R.mono fun _=> .inl,me (cap:=cap) g2 g6⟩⟩
  show SlR R _ w _ xs;exact ⟨A,0,by rw [h0],by omega,by omega,fun h=>absurd h U⟩
 rw [lL Z hi] at h1;exact h1
theorem Id {L:Wa}(i:Nat){c:Chunk}(hi:L[i]? =some c)(hc:c.ro=true):Cv L (c::L):=fun _ _ h=>SepL.dup h (aU hi) hc
theorem bq (R:Rep α)(e:TypeId)(L:Wa):Cv L (bh R e (Y none 0 0) ([]:List α)::L):=fun Z w h=>SepL.fact0 h fun S=>⟨[],.nil,.inl ⟨.of (World.ownsRow_nil w 0 e R.sz),fun _ h=>by cases h⟩⟩
theorem qh (R:Rep α)(L:Wa):Cv L (iD R (Y none 0 0) ([]:List α)::L):=fun Z w h=>SepL.fact0 h fun S=>Hx R S w
section
variable {s:bA}{L:Wa}{d:Option Nat}
theorem sj {R:Rep α}{xs:List α}{c:Chunk}(i:Nat)(hi:L[i]? =some c)(he:Gs R v xs c)(hx:be s x=some v)(ht:P.underlying t=some (.slice e)):Rd P s L ⟨d,.call ⟨.builtin .len, #[x], #[t]⟩,ty,pos,af,gd⟩ (.int .i64 (xs.length:Int)):=fun Z w hw=>by
 obtain ⟨T,S,h⟩:=hw.get (aU hi);obtain ⟨A,cap,rfl, -⟩:=he _ _ _ h;exact qe hx ht
def dh (v:Value)(k sz off:Nat):Value:=match v with
 | .slice (some ⟨b,o,none⟩) _ _=> .pointer (some ⟨b,o+k*sz+off,none⟩)
 |_=>undef
theorem dp {R:Rep α}{t e sz:Nat}{xs:List α}{c:Chunk}{k:Int}(i:Nat)(hi:L[i]? =some c)(he:Gs R v xs c)(hx:be s x=some v)(hy:be s y=some (.int .i64 k))(ht:P.underlying t=some (.slice e))(hs:kP P e sz=true)(h0:0<=k)(h1:k<xs.length):Rd P s L ⟨d,.indexAddr t x y,ty,pos,af,gd⟩ (dh v k.toNat sz 0):=fun Z w hw=>by
 obtain ⟨T,S,h⟩:=hw.get (aU hi);obtain ⟨A,cap,rfl, -, -,h4⟩:=he _ _ _ h;obtain ⟨b,o,vss,rfl, -⟩:=h4 U;exact pg hx hy ht hs h0 h1
theorem ox {R:Rep α}{t f sz o':Nat}{xs:List α}{c:Chunk}{k:Nat}(i:Nat)(hi:L[i]? =some c)(he:Gs R v xs c)(hx:be s x=some (dh v k sz off))(h1:k<xs.length)(hr:∀b o w,(Instr.fieldAt t (.pointer (some ⟨b,o,none⟩)) f).run P w=.ok (.pointer (some ⟨b,o+o',none⟩)) w):Rd P s L ⟨d,.fieldAddr t x f,ty,pos,af,gd⟩ (dh v k sz (off+o')):=fun Z w hw=>by
 obtain ⟨T,S,h⟩:=hw.get (aU hi);obtain ⟨A,cap,rfl, -, -,h4⟩:=he _ _ _ h;obtain ⟨b,o,vss,rfl, -⟩:=h4 U;have h9:=jW (C:=(· =w)) (d:=d) (ty:=ty) (pos:=pos) (af:=af) (gd:=gd) (o:=o+k*sz+off) hx hr;rw [Nat.add_assoc (o+k*sz)] at h9;exact h9
theorem LG {R:Rep α}{xs:List α}{c:Chunk}{Z:Wa}{w:World}(hw:Sp Z L w)(hi:L[i]? =some c)(he:Gs R v xs c){k:Nat}{x:α}(hx:xs[k]? =some x): ∃b o vs T S,c.ok T S w/\dh v k R.sz off=.pointer (some ⟨b,o+k*R.sz+off,none⟩)/\R.rel S w vs x/\CellsAt w b (o+k*R.sz) vs:=by
 obtain ⟨T,S,h⟩:=hw.get (aU hi);obtain ⟨A,cap,rfl, -, -,h4⟩:=he _ _ _ h;obtain ⟨b,o,vss,rfl,h5,h6⟩:=h4 (wy hx);obtain ⟨vs,h7,h8⟩:=h5.get hx;exact ⟨b,o,vs,T,S,h,J,h8,fun j u hj=>by have:=h6 _ _ (vN h5 h7 hj);rw [Nat.add_assoc];exact this⟩
theorem kR {R:Rep α}{xs:List α}{c:Chunk}{k:Nat}{y:α}(i:Nat)(hi:L[i]? =some c)(he:Gs R v xs c)(hx:be s x=some (dh v k R.sz off))(hy:xs[k]? =some y)(hu:i9 P t=true)(hl:∀S w vs,R.rel S w vs y->vs[off]? =some u):Rd P s L ⟨d,.load t x,ty,pos,af,gd⟩ u:=fun Z w hw=>by
 obtain ⟨b,o,vs,T,S,h1,h2,h3,h4⟩:=LG (off:=off) hw hi he hy;rw [h2] at hx;exact Cj hx hu (H0 (p:=fun w=>w.cell? ⟨b,o+k*R.sz+off,none⟩=some u) (h4 _ _ (hl _ _ _ h3)))
theorem iv {R:Rep α}{us:Wb}{xs:List α}{c:Chunk}{k:Nat}{y:α}(i:Nat)(hi:L[i]? =some c)(he:Gs R v xs c)(hx:be s x=some (dh v k R.sz off))(hy:xs[k]? =some y)(hu:Gq P t us.length=true)(hl:∀S w vs,R.rel S w vs y->(vs.drop off).take us.length=us):Rd P s L ⟨d,.load t x,ty,pos,af,gd⟩ (.agg us.toArray):=fun Z w hw=>by
 obtain ⟨b,o,vs,T,S,h1,h2,h3,h4⟩:=LG (off:=off) hw hi he hy;rw [h2] at hx;have h5:=h4.part off us.length;rw [hl _ _ _ h3] at h5;exact yz hx (H0 (p:=fun w=>CellsAt w b (o+k*R.sz+off) us) h5) hu
theorem N8 {R:Rep α}{R':Rep β}{xs:List α}{c:Chunk}{k:Nat}{y:α}{ys:List β}(i:Nat)(hi:L[i]? =some c)(he:Gs R v xs c)(hx:be s x=some (dh v k R.sz off))(hy:xs[k]? =some y)(hu:i9 P t=true)(hl:∀S w vs,R.rel S w vs y-> ∃u,vs[off]? =some u/\SlR R' S w u ys):OpX P s L ⟨d,.load t x,ty,pos,af,gd⟩ fun u L'=> ∃A n c,u=.slice A n c/\L'=iD R' (.slice A n c) ys::L:=fun ρ hρ Z w hw=>by
 obtain ⟨T,S,h⟩:=hw;have hc:=h.ok (aU hi);obtain ⟨A,cap,rfl, -, -,h4⟩:=he _ _ _ hc;obtain ⟨b,o,vss,rfl,h5,h6⟩:=h4 (wy hy);obtain ⟨vs,h7,h8⟩:=h5.get hy;obtain ⟨u,h9,h10⟩:=hl _ _ _ h8;obtain ⟨A',c',rfl,hrest⟩:=h10;have h10:SlR R' S w (.slice A' ys.length c') ys:=⟨A',c',rfl,hrest⟩;have h11:=h6 _ _ (vN h5 h7 h9);refine .inl ⟨_,w,_,Cj (C:=(· =w)) (a:=⟨b,o+k*R.sz+off,none⟩) hx hu (H0 (p:=fun w=>w.cell? ⟨b,o+k*R.sz+off,none⟩=some _) (by rw [Nat.add_assoc];exact h11)) ρ hρ w J,?_,_,_,_,J,J⟩;refine ⟨fun i=>match i with|0=>fun _=>False|i+1=>T i,S,?_,?_,?_,?_,h.lts⟩
 ·intro j e hj
  cases j with
  |zero=>simp only [Wy,WM,XI] at hj;subst hj;exact h10
  |succ j=>simp only [Wy,WL] at hj;exact h.ok hj
 ·intro i j q hij h3 h4
  cases i with
  |zero=>exact h3
  |succ i=>cases j with
   |zero=>exact h4
   |succ j=>exact h.apart U h3 h4
 ·intro i q h3 h4
  cases i with
  |zero=>exact h3
  |succ i=>exact h.ro h3 h4
 intro i q h3
 cases i with
 |zero=>exact h3.elim
 |succ i=>exact h.lt h3
theorem SepL.facts {L:Wa}{w:World}: ∀(cs:Wa) {T:Nat->Nat->Prop} {S:Nat->Prop},SepT L T S w->(∀c∈cs,c.ok (fun _=>False) S w)-> ∃T',SepT (cs++L) T' S w
 | [],T,S,h,_=>⟨T,h⟩
 | c::cs,T,S,h,hc=>by
  obtain ⟨T',h'⟩:=SepL.facts cs h fun d hd=>hc d (by simp [hd])
  refine ⟨fun i=>match i with|0=>fun _=>False|i+1=>T' i,?_,?_,?_,?_,h'.lts⟩
  ·intro j e hj
   cases j with
   |zero=>simp only [Wy,WM,XI] at hj;subst hj;exact hc _ (by simp)
   |succ j=>simp only [Wy,WL] at hj;exact h'.ok hj
  ·intro i j q hij h3 h4
   cases i with
   |zero=>exact h3
   |succ i=>cases j with
    |zero=>exact h4
    |succ j=>exact h'.apart U h3 h4
  ·intro i q h3 h4
   cases i with
   |zero=>exact h3
   |succ i=>exact h'.ro h3 h4
  intro i q h3
  cases i with
  |zero=>exact h3.elim
  |succ i=>exact h'.lt h3
def LQ (R:Rep α)(x:α)(Q:Wb->Wa->Prop):Prop:= ∀S w vs,R.rel S w vs x-> ∃cs,Q vs cs/\ ∀c∈cs,c.ok (fun _=>False) S w
theorem N9 {R:Rep α}{xs:List α}{c:Chunk}{k:Nat}{y:α}{Q:Wb->Wa->Prop}(i:Nat)(hi:L[i]? =some c)(he:Gs R v xs c)(hx:be s x=some (dh v k R.sz off))(hy:xs[k]? =some y)(hu:Gq P t m=true)(hm:Nat.ble (off+m) R.sz=true)(ho:LQ R y Q):OpX P s L ⟨d,.load t x,ty,pos,af,gd⟩ fun u L'=> ∃vs cs,Q vs cs/\u=.agg ((vs.drop off).take m).toArray/\L'=cs++L:=fun ρ hρ Z w hw=>by
 obtain ⟨T,S,h⟩:=hw;have hc:=h.ok (aU hi);obtain ⟨A,cap,rfl, -, -,h4⟩:=he _ _ _ hc;obtain ⟨b,o,vss,rfl,h5,h6⟩:=h4 (wy hy);obtain ⟨vs,h7,h8⟩:=h5.get hy;obtain ⟨cs,h9,h10⟩:=ho _ _ _ h8
 have hrow:CellsAt w b (o+k*R.sz) vs:=fun j u hj=>by have:=h6 _ _ (vN h5 h7 hj);rw [Nat.add_assoc];exact this
 have hm':=Xw hm
 have hlen:((vs.drop off).take m).length=m:=by rw [XT,WZ,R.len h8];omega
 obtain ⟨T',h11⟩:=SepL.facts cs h h10;refine .inl ⟨_,w,cs++L,yz (C:=(· =w)) (b:=b) (o:=o+k*R.sz+off) (cs:=(vs.drop off).take m) hx (H0 (p:=fun w=>CellsAt w b (o+k*R.sz+off) ((vs.drop off).take m)) (hrow.part off m)) (by rw [hlen];exact hu) ρ hρ w J,⟨T',S,by rw [V3];exact h11⟩,vs,cs,h9,J,J⟩
theorem bM {o:Nat}{cs:Wb}(i:Nat)(hi:L[i]? =some (ae b bt cs))(hx:be s x=some (.pointer (some ⟨b,o,none⟩)))(hu:i9 P t=true)(hc:cs[o]? =some u):Rd P s L ⟨d,.load t x,ty,pos,af,gd⟩ u:=fun Z w hw=>by
 obtain ⟨T,S, -,h⟩:=hw.get (aU hi);exact Cj hx hu (H0 (p:=fun w=>w.cell? ⟨b,o,none⟩=some u) (h.at (by simpa using hc)))
theorem jh {o:Nat}{cs us:Wb}(i:Nat)(hi:L[i]? =some (ae b bt cs))(hx:be s x=some (.pointer (some ⟨b,o,none⟩)))(hu:Gq P t us.length=true)(hc:(cs.drop o).take us.length=us):Rd P s L ⟨d,.load t x,ty,pos,af,gd⟩ (.agg us.toArray):=fun Z w hw=>by
 obtain ⟨T,S, -,h⟩:=hw.get (aU hi);have h5:=h.all.part o us.length;rw [hc,XC] at h5;exact yz hx (H0 (p:=fun w=>CellsAt w b o us) h5) hu
theorem CT {cs:Wb}(hx:be s x=some v)(hc:v.cells.toList=cs):OpX P s L ⟨d,.box t x,ty,pos,af,gd⟩ fun u L'=> ∃b,u=.pointer (some ⟨b,0,none⟩)/\L'=ae b t cs::L:=fun ρ hρ Z w hw=>by
 refine .inl ⟨.pointer (some ⟨w.heap.size,0,none⟩),w.alloc (.cells v.cells t),ae w.heap.size t cs::L,?_,SepL.new (c:=ae w.heap.size t cs) hw (Agr.of_ext ((Ext.refl w).alloc _)) fun _ S _=>⟨(· =w.heap.size),fun q hq=> ?_,J,?_⟩,_,J,J⟩
 ·unfold execOp;simp only [hρ x _ hx];rfl
 ·subst hq;simp
 subst hc;simpa using Blk.new w t v.cells
theorem dz {cs:Wb}(hz:∀w,(zeroValue t).run P w=.ok v w)(hc:v.cells.toList=cs):OpX P s L ⟨d,.alloc t,ty,pos,af,gd⟩ fun u L'=> ∃b,u=.pointer (some ⟨b,0,none⟩)/\L'=ae b t cs::L:=fun ρ hρ Z w hw=>by
 refine .inl ⟨.pointer (some ⟨w.heap.size,0,none⟩),w.alloc (.cells v.cells t),ae w.heap.size t cs::L,?_,SepL.new (c:=ae w.heap.size t cs) hw (Agr.of_ext ((Ext.refl w).alloc _)) fun _ S _=>⟨(· =w.heap.size),fun q hq=> ?_,J,?_⟩,_,J,J⟩
 ·unfold execOp;simp only [Instr.alloc,XL,hz,XK];rfl
 ·subst hq;simp
 subst hc;simpa using Blk.new w t v.cells
theorem Ll: ∀(cs us:Wb) (o:Nat),ow cs.toArray o us=(cs.take o++us++cs.drop (o+us.length)).toArray\/cs.length<o+us.length:=by
 intro cs us o;by_cases h:o+us.length<=cs.length
 ·left;apply Array.ext_getElem?;intro j;rw [N3 us _ o j (by simpa using h)];simp only [WV,V3];by_cases h1:j<o
  ·rw [if_neg U,WJ (by rw [XT];omega),WU,if_pos h1]
  rw [WK (by rw [XT];omega),XT,show min o cs.length=o by omega];by_cases h2:j<o+us.length
  ·rw [if_pos U,WJ U]
  rw [if_neg U,WK U,WN]
  congr 1;omega
 right;omega
theorem ar {o:Nat}{cs cs' us:Wb}(i:Nat)(hi:L[i]? =some (ae b bt cs))(hx:be s x=some (.pointer (some ⟨b,o,none⟩)))(hy:be s y=some v)(hv:v.cells.toList=us)(hs:kP P t us.length=true)(h1:us.all (·.oneCell')=true)(hc:Nat.ble (o+us.length) cs.length=true)(hc':cs.take o++us++cs.drop (o+us.length)=cs'):OpX P s L ⟨d,.store t x y,ty,pos,af,gd⟩ fun _ L'=>L'=L.set i (ae b bt cs'):=fun ρ hρ Z w hw=>by
 obtain ⟨T,S,hT,h⟩:=hw.get (aU hi);have hle:=Xw hc;obtain ⟨w',e1,e2,e3⟩:=fT (P:=P) us w b o 0 cs.toArray h (by simpa using hle) h1;refine .inr (.inl ⟨w',_,?_,?_,J⟩)
 ·unfold execOp
  have hcs:v.cells=us.toArray:=by rw [<-hv]
  simp only [hρ x _ hx,hρ y _ hy,Instr.storeAt,Instr.sureAddr,storeVar,XL,XM,XK,kO hs w,hcs,List.size_toArray,ne_eq,not_true,if_false,e1]
 have h2:=SepL.upd (w':=w') hw (aU hi) (d:=ae b bt cs') fun T S ⟨g1,g2⟩ g3 _ _=>⟨Agr.of_fr e2 fun q hq e=>hq (e▸g1),T,fun _=> .inl,fun q hq=>Xz (g3 q hq) e2.size,g1,by
   rcases Ll cs us o with h3|h3
   ·rw [Nat.add_zero,h3,hc'] at e3;exact e3
   ·omega⟩
 rw [lL Z hi] at h2;exact h2
end
end
section
open Go.RowKit
def Ro (L:Wa)(S:Nat->Prop)(w:World):Prop:= ∀(i:Nat) (c:Chunk),L[i]? =some c->c.ro=true->c.ok (fun _=>False) S w
theorem SepT.ros {L:Wa}{w:World}(h:SepT L T S w):Ro L S w:=fun _ c hi hc=>c.dup hc (h.ok hi)
theorem Ro.app {L Z:Wa}{w:World}(h:Ro (L++Z) S w):Ro L S w:=fun i c hi hc=>h i c (aU hi) hc
theorem Ro.loc {L:Wa}{w:World}(h:Ro L S w)(hx:Agr S w w'):Ro L S w':=fun i c hi hc=>c.loc (hx.mono fun _ h=>h.elim False.elim id) (h i c hi hc)
section
variable {s:bA}{L:Wa}{d:Option Nat}
theorem aL {R:Rep α}{vss:List Wb}{xs:List α}(hp:Nd s ps=some vs)(hr:∀w,(Instr.buildSlice t m vs.toArray).run P w=.ok (.slice (some ⟨w.heap.size,0,none⟩) m m) (w.alloc (.cells vss.flatten.toArray e)))(hm:xs.length=m)(hmm:Nat.ble m maxLen=true)(hrel:∀S w,Ro L S w->All2 (R.rel S w) vss xs):OpX P s L ⟨d,.buildSlice t m ps.toArray,ty,pos,af,gd⟩ fun u L'=> ∃A n c,u=.slice A n c/\L'=bh R e (.slice A n c) xs::L:=fun ρ hρ Z w hw=>by
 have hx:Ext w (w.alloc (.cells vss.flatten.toArray e)):=(Ext.refl w).alloc _;refine .inl ⟨_,w.alloc (.cells vss.flatten.toArray e),bh R e (.slice (some ⟨w.heap.size,0,none⟩) m m) xs::L,?_,?_,_,_,_,J,J⟩
 ·unfold execOp;simp only [W7,El hρ hp,XL,hr,XK];rfl
 refine SepL.new hw (Agr.of_ext hx) fun T S h=>⟨(· =w.heap.size),fun q hq=>by subst hq;simp,vss,hrel S _ (h.ros.app.loc (Agr.of_ext hx)),.inl ⟨?_,fun q hq=>by cases hq;rfl⟩⟩
 subst hm;have hl:=oo (hrel S w h.ros.app);exact .of ⟨hl,.inr ⟨w.heap.size,xs.length,vss.flatten.toArray,J,XD _,Blk.new w e _,Xx _,Xw hmm,by simpa using hl,by rw [<-hl];exact XV⟩⟩
theorem uw (sz:Nat)(w:World)(A:Option Addr)(c:Nat):(Builtin.firstCells sz 0 (.slice A 0 c)).run P w=.ok #[] w:=by
 unfold Builtin.firstCells;cases A
 ·simp
 simp [loadCells,loadCellsFrom]
theorem DV {sz:TypeId}{cs:Wb}{c:Nat}(ht:P.underlying t=some (.slice e))(hs:kP P e sz=true)(w:World)(hown:ownsX w e sz v n cs):(Builtin.append_ #[t,t] ty #[v,.slice A2 0 c]).run P w=.ok v w:=by
 have key: ∀(A:Option Addr) (cap:Nat),n<=cap->v=.slice A n cap->(Builtin.append_ #[t,t] ty #[v,.slice A2 0 c]).run P w=.ok v w:=by
  rintro A cap hle rfl;unfold Builtin.append_;simp only [WV,WM,WL];rw [XL,XR ht,XK]
  dsimp only
  rw [XL,kO hs,XK];rw [XL,XR ht,XK]
  dsimp only
  rw [XL,XM,XK];simp only [Wk,if_false,Bool.not_false,if_true];have h1:(Builtin.lenOf (.slice A2 0 c)).run P w=.ok 0 w:=rfl;rw [XL,h1,XK];rw [if_pos U];rw [XL,uw sz w A2 c,XK]
  cases A with
  |none=>rfl
  |some a=>simp [storeCells]
 rcases hown.2 with ⟨rfl,h0⟩|⟨g,cap,cur,rfl, -, -,h3, -⟩
 ·subst h0;exact key none 0 (Xx _) J
 exact key _ cap h3 J
theorem DU (w:World)(inf:TypeInfo)(z:Value)(sz by_:Nat)(ht:P.underlying t=some (.slice e))(hi:P.info? e=some inf)(hz:inf.zero=some z)(e2:inf.size=sz)(e3:inf.bytes=by_)(e4:z.cells.size=sz)(e5:0<sz)(a:Addr)(m c:Nat)(news:Wb)(hl:news.length=m*sz)(hnews:∀j u,news[j]? =some u->w.cell? (a.add j)=some u)(h1:∀u∈news,u.oneCell'=true)(hm:0<m)(h63:m<=maxLen)(hb:m*by_<=140737488355328):
  ∃v' w',(Builtin.append_ #[t,t] ty #[.slice A 0 0,.slice (some a) m c]).run P w=.ok v' w'/\w'.ownsRow w.heap.size e sz v' m news/\w.grownBy w' none:=by
 cases A with
 |none=>
  obtain ⟨v',w',r1,r2,r3, -⟩:=run_append_own w w.heap.size t ty e inf z sz by_ ht hi hz e2 e3 e4 e5 (Y none 0 0) 0 [] (World.ownsRow_nil ..) a m c news hl hnews h1 U (by simpa using hb) (Xx _);exact ⟨v',w',r1,by simpa using r2,r3⟩
 | some b=>
  have hmm:m<=9223372036854775807:=by unfold maxLen at h63;omega
  have hr:=run_append_grow (P:=P) w t ty e inf z ht hi hz b 0 0 [] (by simp) (fun j u hj=>by simp at hj) a m c news (by rw [e2];exact hl) hnews U U (by rw [e3];exact growslice_fits U (by simpa using hb));have hge:=grownCap_ge w (0+m) 0 e;have hcm:=grownCap_le_maxLen w (0+m) 0 e (by simpa using h63);refine ⟨_,_,hr,⟨hl,.inr ⟨w.heap.size,grownCap w (0+m) 0 e,_,by simp only [XC],Xx _,heap_alloc_new w.drew _,by simpa using hge,by simpa using hcm,?_,?_⟩⟩,⟨J,J,J,by simp,fun k hk _=>heap_alloc_old w.drew _ hk⟩⟩
  ·simp only [Array.size_append,List.size_toArray,size_zeroCells,e4,hl,W2,XC, <-Xt] at hge⊢
   congr 1
   omega
  simp only [Array.toList_append,XX];rw [<-hl];exact List.take_left
theorem CJ {sz:TypeId}{c:Nat}(ht:P.underlying t=some (.slice e))(hs:kP P e sz=true)(w:World):(Builtin.append_ #[t,t] ty #[.slice A 0 0,.slice A2 0 c]).run P w=.ok (.slice A 0 0) w:=by
 unfold Builtin.append_;simp only [WV,WM,WL];rw [XL,XR ht,XK]
 dsimp only
 rw [XL,kO hs,XK];rw [XL,XR ht,XK]
 dsimp only
 rw [XL,XM,XK];simp only [Wk,if_false,Bool.not_false,if_true];have h1:(Builtin.lenOf (.slice A2 0 c)).run P w=.ok 0 w:=rfl;rw [XL,h1,XK];rw [if_pos U];rw [XL,uw sz w A2 c,XK]
 cases A with
 |none=>rfl
 |some a=>simp [storeCells]
theorem Ed (cs us:Wb)(o:Nat)(h:o+us.length<=cs.length):(ow cs.toArray o us).toList=cs.take o++us++cs.drop (o+us.length):=by
 rcases Ll cs us o with h1|h1
 ·rw [h1]
 omega
theorem Pq {cs:Wb}(w:World)(inf:TypeInfo)(z:Value)(sz by_:Nat)(ht:P.underlying t=some (.slice e))(hi:P.info? e=some inf)(hz:inf.zero=some z)(e2:inf.size=sz)(e3:inf.bytes=by_)(e4:z.cells.size=sz)(e5:0<sz)(g2:ownsX w e sz v n cs)(a:Addr)(m c:Nat)(news:Wb)(hl:news.length=m*sz)(hnews:∀j u,news[j]? =some u->w.cell? (a.add j)=some u)(h1:∀u∈news,u.oneCell'=true)(h0:0<m)(h63:n+m<=maxLen)(hb:(n+m)*by_<=140737488355328):
  ∃v' w',(Builtin.append_ #[t,t] ty #[v,.slice (some a) m c]).run P w=.ok v' w'/\ownsX w' e sz v' (n+m) (cs++news)/\w.grownBy w' v.ownBlock/\ ∀q,v'.ownBlock=some q->v.ownBlock=some q\/w.heap.size<=q:=by
 have row:w.ownsRow 0 e sz v n cs-> ∃v' w',(Builtin.append_ #[t,t] ty #[v,.slice (some a) m c]).run P w=.ok v' w'/\w'.ownsRow 0 e sz v' (n+m) (cs++news)/\w.grownBy w' v.ownBlock/\ ∀q,v'.ownBlock=some q->v.ownBlock=some q\/w.heap.size<=q:=fun g2=>by
  obtain ⟨v',w',r1,r2,r3, -⟩:=run_append_own w 0 t ty e inf z sz by_ ht hi hz e2 e3 e4 e5 v n cs g2 a m c news hl hnews h1 h63 hb (XD _);refine ⟨v',w',r1,r2,r3,fun q hq=> ?_⟩;rcases g2.2 with ⟨rfl,a6⟩|⟨g,cap,cur,rfl, -⟩
  ·rcases XA q w.heap.size with hlt|hge
   ·exfalso;subst a6;obtain ⟨v3,w3,e1',e2', -⟩:=run_append_own w w.heap.size t ty e inf z sz by_ ht hi hz e2 e3 e4 e5 (Y none 0 0) 0 [] (World.ownsRow_nil ..) a m c news hl hnews h1 U (by simpa using hb) (Xx _);rw [r1] at e1';simp only [Result.ok.injEq] at e1';obtain ⟨rfl,rfl⟩:=e1';have:=(World.ownsRow.lt e2' q hq).1;omega
   exact .inr hge
  rcases Hi ht r1 with h|⟨q',h,h'⟩
  ·rw [h] at hq;cases hq;exact .inl J
  rw [h] at hq;cases hq;exact .inr h'
 rcases g2.2 with ⟨rfl,a6⟩|⟨g,cap,cur,rfl,q1,q2,q3,q4,⟨c0,c1,c2,c3⟩,q6⟩
 ·obtain ⟨v',w',r1,r2,r3,r4⟩:=row ⟨g2.1,.inl ⟨rfl,a6⟩⟩;exact ⟨v',w',r1,.of r2,r3,r4⟩
 rcases XA cap (n+m) with hlt|hge
 ·have hmm:n+m<=9223372036854775807:=by unfold maxLen at h63;omega
  have hr:=run_append_grow (P:=P) w t ty e inf z ht hi hz ⟨g,0,none⟩ n cap cs (by rw [e2];exact g2.1) (fun j u hj=>by rw [kc];exact me (cap:=cap) q2 q6 j u hj) a m c news (by rw [e2];exact hl) hnews hlt U (by rw [e3];exact growslice_fits hlt hb);have hge:=grownCap_ge w (n+m) cap e;have hcm:=grownCap_le_maxLen w (n+m) cap e h63
  have hlen:(cs++news).length=(n+m)*sz:=by rw [XS,g2.1,hl,Xt]
  refine ⟨_,_,hr,.of ⟨hlen,.inr ⟨w.heap.size,grownCap w (n+m) cap e,_,J,XD _,heap_alloc_new w.drew _,hge,hcm,?_,?_⟩⟩,⟨J,J,J,by simp,fun k hk _=>heap_alloc_old w.drew _ hk⟩,fun q hq=>by cases hq;exact .inr (Xx _)⟩
  ·simp only [Array.size_append,List.size_toArray,size_zeroCells,e4,g2.1,hl, <-Xt] at hge⊢
   congr 1
   omega
  simp only [Array.toList_append,V3];rw [<-V3, <-hlen];exact List.take_left
 subst e2;have hfc:=run_firstCells_some (P:=P) w inf.size m a m c news hl hnews
 have hle:(n+m)*inf.size<=cur.size:=by rw [c3];exact XB _ U
 have hsum:n*inf.size+news.length<=cur.size:=by rw [hl, <-Xt];exact hle
 obtain ⟨w',s1,s2,s3⟩:=fT (P:=P) (t:=e) news w g (n*inf.size) 0 cur q2 U (Wu.2 h1)
 have hlen:(cs++news).length=(n+m)*inf.size:=by rw [XS,g2.1,hl,Xt]
 refine ⟨.slice (some ⟨g,0,none⟩) (n+m) cap,w',?_,⟨hlen,.inr ⟨g,cap,_,J,XD _,s3,hge,q4,⟨c0,c1,c2,by rw [BB];exact c3⟩,?_⟩⟩,⟨s2.os,s2.tape,s2.output,s2.size,fun k hk hn=>s2.block k hk fun e=>hn (by rw [e];rfl)⟩,fun q hq=> .inl hq⟩
 ·simp [Builtin.append_,XR ht,sizeOf,typeInfo,hi,Builtin.lenOf,hge,hfc,Addr.add_lit,s1]
 have hcur:cur=cur.toList.toArray:=by simp
 rw [Nat.add_zero,hcur,Ed _ _ _ (by simp;omega),q6, <-hlen,V3, <-V3];exact List.take_left
theorem E6 {R:Rep α}{v2:Value}{xs ys:List α}{c2:Chunk}{sz by_ M:Nat}(i j:Nat)(hi:L[i]? =some (bh R e v xs))(hj:L[j]? =some c2)(he:Gs R v2 ys c2)(hx:be s x=some v)(hy:be s y=some v2)(ht:P.underlying t=some (.slice e))(hz:ry P e sz by_=true)(hsz:R.sz=sz)(hM:Nat.ble M 1099511627776=true)(hby:Nat.ble (M*by_) 140737488355328=true)(hb:xs.length+ys.length<=M):OpX P s L ⟨d,.call ⟨.builtin .append, #[x,y], #[t,t]⟩,ty,pos,af,gd⟩ fun u L'=> ∃A n c,u=.slice A n c/\L'=L.set i (bh R e (.slice A n c) (xs++ys)):=fun ρ hρ Z w hw=>by
 have hbuilt:=fz (P:=P) (ρ:=ρ) (d:=d) (ty:=ty) (pos:=pos) (af:=af) (gd:=gd) (b:=.append) (xs:=[x,y]) (ats:= #[t,t]) (vs:=[v,v2]) (by simp [hρ x _ hx,hρ y _ hy]) w
 have hby':=Xw hby
 have hM':=Xw hM;unfold ry at hz
 cases hinfo:P.info? e with
 |none=>rw [hinfo] at hz;cases hz
 | some inf=>
  rw [hinfo] at hz;simp only [XW] at hz;obtain ⟨⟨⟨q2,q3⟩,q4⟩,q5⟩:=hz
  cases hzz:inf.zero with
  |none=>rw [hzz] at q4;cases q4
  | some z=>
   rw [hzz] at q4;have e2:=Xu q2;have e3:=Xu q3;have e4:=Xu q4
   have e5:0<sz:=by have h6:1<=sz:=(by simpa [Nat.blt] using q5);omega
   have hsB:kP P e sz=true:=by unfold kP;rw [hinfo];exact q2
   subst hsz;have hw0:=hw;obtain ⟨T,S,hT⟩:=hw;have hc2:=hT.ok (aU hj);obtain ⟨vss1,g1,a6⟩:=hT.ok (aU hi);obtain ⟨A2,cap2,rfl,k2,k3,k4⟩:=he _ _ _ hc2;rcases a6 with ⟨g2,g3⟩|⟨a8,A0,rfl⟩
   rotate_left
   ·obtain rfl:xs=[]:=WD a8;rcases Xv ys.length with h0|h0
    ·have hys:ys=[]:=WD h0;subst hys;refine .inl ⟨.slice A0 0 0,w,L,?_,hw0,A0,0,0,J,?_⟩
     ·rw [hbuilt];simp only [builtin,XL];have r1':(Builtin.append_ #[t,t] ty [Value.slice A0 0 0,.slice A2 ([]:List α).length cap2].toArray).run P w=.ok (.slice A0 0 0) w:=CJ ht hsB w;rw [r1'];rfl
     apply WE;intro q;by_cases e:i=q
     ·subst e;rw [WT (WQ.1 hi).1,hi];rfl
     rw [WS e]
    obtain ⟨b,o,vss2,rfl,k5,k6⟩:=k4 h0;have hm:ys.length*by_<=140737488355328:=Xy (XB by_ (by simpa using hb)) hby';obtain ⟨v',w',r1,r2,r3⟩:=DU (ty:=ty) (A:=A0) w inf z R.sz by_ ht hinfo hzz e2 e3 e4 e5 ⟨b,o,none⟩ ys.length cap2 vss2.flatten (oo k5) (fun j u hj=>by rw [kc];exact k6 j u hj) (Wu.1 (vM k5)) h0 (by simp only [W2] at hb;unfold maxLen;omega) hm
    have hsh: ∃A c,v'=.slice A ys.length c:=by
     rcases r2.2 with ⟨rfl,h9⟩|⟨g,cap,cur,rfl, -⟩
     ·omega
     exact ⟨_,cap,J⟩
    obtain ⟨A',c',hv'⟩:=hsh;refine .inl ⟨v',w',L.set i (bh R e v' ([]++ys)),?_,?_,A',_,c',hv',by rw [hv']⟩
    ·rw [hbuilt];simp only [builtin,XL];have r1':(Builtin.append_ #[t,t] ty [Value.slice A0 0 0,.slice (some ⟨b,o,none⟩) ys.length cap2].toArray).run P w=.ok v' w':=r1;rw [r1'];rfl
    have hfin:SepL ((L++Z).set i (bh R e v' ([]++ys))) w':=by
     refine hT.upd (aU hi) (T':=fun q=>v'.ownBlock=some q) ⟨r3.os,r3.tape,r3.output,r3.size,fun q hq _=>r3.block q hq fun e=>by cases e⟩ (fun q hq=> .inr (World.ownsRow.lt r2 q hq).1) (fun q hq=>(World.ownsRow.lt r2 q hq).2) ?_;have hS:Agr S w w':=⟨r3.os,r3.tape,r3.output,r3.size,fun q hq _=>r3.block q hq fun e=>by cases e⟩;refine ⟨vss2,by rw [XX];exact k5.imp fun _ _=>R.loc hS,.inl ⟨?_,fun _ h=>h⟩⟩;have r2':w'.ownsRow 0 e R.sz v' ys.length vss2.flatten:=⟨r2.1,r2.2.imp id fun ⟨g,cap,cur,q1,_,q3⟩=>⟨g,cap,cur,q1,XD _,q3⟩⟩;simpa using ownsX.of r2'
    rw [lL Z hi] at hfin;exact hfin
   have hv: ∃A cap,v=.slice A xs.length cap:=by
    rcases g2.2 with ⟨rfl,h0⟩|⟨g,cap,cur,rfl, -⟩
    ·exact ⟨none,0,by rw [h0]⟩
    exact ⟨_,cap,J⟩
   rcases Xv ys.length with h0|h0
   ·-- nothing is appended
    have hys:ys=[]:=WD h0;subst hys;obtain ⟨Av,capv,hv⟩:=hv
    have hset:L.set i (bh R e (.slice Av xs.length capv) (xs++ []))=L:=by
     rw [Wv, <-hv];apply WE;intro q;by_cases e:i=q
     ·subst e;rw [WT (WQ.1 hi).1,hi]
     rw [WS e]
    refine .inl ⟨v,w,L,?_,hw0,Av,_,capv,hv,hset.symm⟩;rw [hbuilt];simp only [builtin,XL];have r1':(Builtin.append_ #[t,t] ty [v,.slice A2 ([]:List α).length cap2].toArray).run P w=.ok v w:=DV ht hsB w g2;rw [r1'];rfl
   obtain ⟨b,o,vss2,rfl,k5,k6⟩:=k4 h0;have hm:(xs.length+ys.length)*by_<=140737488355328:=Xy (XB by_ hb) hby';obtain ⟨v',w',r1,r2,r3,hnew⟩:=Pq w inf z R.sz by_ (ty:=ty) ht hinfo hzz e2 e3 e4 e5 g2 ⟨b,o,none⟩ ys.length cap2 vss2.flatten (oo k5) (fun j u hj=>by rw [kc];exact k6 j u hj) (Wu.1 (vM k5)) h0 (by unfold maxLen;omega) hm
   have hsh: ∃A c,v'=.slice A (xs.length+ys.length) c:=by
    rcases r2.2 with ⟨rfl,h9⟩|⟨g,cap,cur,rfl, -⟩
    ·omega
    exact ⟨_,cap,J⟩
   obtain ⟨A',c',hv'⟩:=hsh;refine .inl ⟨v',w',L.set i (bh R e v' (xs++ys)),?_,?_,A',_,c',hv',by rw [hv']⟩
   ·rw [hbuilt];simp only [builtin,XL];have r1':(Builtin.append_ #[t,t] ty [v,.slice (some ⟨b,o,none⟩) ys.length cap2].toArray).run P w=.ok v' w':=r1;rw [r1'];rfl
   have hfin:SepL ((L++Z).set i (bh R e v' (xs++ys))) w':=by
    refine hT.upd (aU hi) (T':=fun q=>v'.ownBlock=some q) ⟨r3.os,r3.tape,r3.output,r3.size,fun q hq hn=>r3.block q hq fun e=>hn (g3 q e.symm)⟩ (fun q hq=>(hnew q hq).elim (fun h=> .inl (g3 q h)) .inr) (fun q hq=>ownsX.lt r2 q hq) ?_;have hS:Agr S w w':=⟨r3.os,r3.tape,r3.output,r3.size,fun q hq hn=>r3.block q hq fun e=>hT.ro (g3 q e.symm) hn⟩;exact ⟨vss1++vss2,(g1.imp fun _ _=>R.loc hS).append (k5.imp fun _ _=>R.loc hS),.inl ⟨by rw [List.flatten_append,XS];exact r2,fun _ h=>h⟩⟩
   rw [lL Z hi] at hfin;exact hfin
theorem aQ {R:Rep α}{v2:Value}{xs ys:List α}{c2:Chunk}{sz by_:Nat}(i j:Nat)(hi:L[i]? =some (bh R e v xs))(hj:L[j]? =some c2)(he:Gs R v2 ys c2)(hx:be s x=some v)(hy:be s y=some v2)(ht:P.underlying t=some (.slice e))(hz:ry P e sz by_=true)(hsz:R.sz=sz)(hby:Nat.ble by_ 127=true)(hb:xs.length+ys.length<=1099511627776):OpX P s L ⟨d,.call ⟨.builtin .append, #[x,y], #[t,t]⟩,ty,pos,af,gd⟩ fun u L'=> ∃A n c,u=.slice A n c/\L'=L.set i (bh R e (.slice A n c) (xs++ys)):=
 E6 (M:=1099511627776) i j hi hj he hx hy ht hz hsz (by decide) (by have h:=Xw hby;apply Nat.ble_eq_true_of_le;omega) hb
end
end
section
open Go.RowKit
theorem CellsAt.left {w:World}{o:Nat}{l m:Wb}(h:CellsAt w b o (l++m)):CellsAt w b o l:=fun j u hj=>h j u (by rw [WJ (WQ.1 hj).1];exact hj)
theorem CellsAt.drop {w:World}{o:Nat}{l:Wb}(h:CellsAt w b o l)(k:Nat):CellsAt w b (o+k) (l.drop k):=fun j u hj=>by
 rw [WN] at hj;rw [Nat.add_assoc];exact h _ _ hj
theorem SlR.cut {R:Rep α}{w:World}{c:Nat}{xs:List α}(h:SlR R S w (.slice A n c) xs)(l m:Nat)(h1:l<=m)(h2:m<=xs.length):SlR R S w (.slice (mu A c l R.sz) (m - l) (c - l)) ((xs.drop l).take (m - l)):=by
 obtain ⟨A',c',e,g1,g2,g3⟩:=h
 injection e with e1 e2 e3
 subst e1 e2 e3
 have hlen:((xs.drop l).take (m - l)).length=m - l:=by rw [XT,WZ];omega
 refine ⟨mu A c l R.sz,c - l,by rw [hlen],by omega,by omega,fun h0=> ?_⟩;rw [hlen] at h0;obtain ⟨b,o,vss,rfl,k1,k2,k3,k4⟩:=g3 U
 have hcl: ¬c=l:=by omega
 refine ⟨b,o+l*R.sz,(vss.drop l).take (m - l),?_,k1,k2,(k3.drop l).take _,?_⟩
 ·unfold mu;rw [if_neg hcl];simp [kc]
 have h5:=k4.drop (l*R.sz);rw [<-za k3 l, <-Xm (m - l) (vss.drop l),List.flatten_append] at h5;exact h5.left
section
variable {s:bA}{L:Wa}{d:Option Nat}
def Rz (ro rw:List Nat)(L:Wa):Wa:=ro.filterMap (fun i=>L[i]?)++rw.filterMap (fun i=>L[i]?)
def NP (keep:List Nat)(k:Nat)(L:Wa):Wa:=keep.filterMap (fun i=>L[i]?)++L.drop k
def Oc (ro rw keep:List Nat)(k:Nat)(L:Wa):Bool:=ro.all (fun i=>match L[i]? with|some c=>c.ro|none=>false)&&Gg (rw++keep) k&&Nat.ble k L.length
theorem dx (ro rw keep:List Nat)(k:Nat)(h:Oc ro rw keep k L=true):Cv L (Rz ro rw L++NP keep k L):=fun Z w hw=>by
 unfold Oc at h;simp only [XW,Wu] at h;obtain ⟨⟨h1,h2⟩,h3⟩:=h;obtain ⟨T,S,hT⟩:=hw;have hro:=hT.ros.app;have hsel:=yC (rw++keep) k h2 h3;have hl':k<=L.length:=Xw h3;obtain ⟨T',h4⟩:=hT.sel (rw++keep) k h2 (by simp;omega)
 have e:DT (rw++keep) k (L++Z)=(rw.filterMap (fun i=>L[i]?)++NP keep k L)++Z:=by
  have e1: ∀ix:List Nat,(∀i∈ix,i<L.length)->ix.filterMap (fun i=>(L++Z)[i]?)=ix.filterMap (fun i=>L[i]?):=by
   intro ix
   induction ix with
   |nil=>intro _;rfl
   |cons i r ih=>intro hi;have:=ih fun j hj=>hi j (by simp [hj]);simp only [List.filterMap_cons,WJ (hi i (by simp)),this]
  unfold Gg at h2;simp only [XW,Wu] at h2
  have h5: ∀i∈rw++keep,i<L.length:=fun i hi=>by have h6:i+1<=k:=Xw (h2.1 i hi);omega
  unfold DT NP;rw [List.drop_append_of_le_length hl',e1 _ h5,List.filterMap_append];simp only [V3]
 rw [e] at h4
 obtain ⟨T'',h5⟩:=SepL.facts (ro.filterMap (fun i=>L[i]?)) h4 (fun c hc=>by
  obtain ⟨i,hi,hic⟩:=List.mem_filterMap.1 hc;have:=h1 i hi;rw [hic] at this
  exact hro i c hic this)
 refine ⟨T'',S,?_⟩;unfold Rz;simpa only [V3] using h5
theorem Ee {vs:Wb}{pre rest:Wa}{R:Value->Wa->Prop}(hc:Okc P f vs pre R)(hv:DE s xs=some vs)(hL:Cv L (pre++rest)):OpX P s L ⟨d,.call ⟨.value (.func f),xs.toArray,ats⟩,ty,pos,af,gd⟩ fun u L'=> ∃post,R u post/\L'=post++rest:=fun ρ hρ Z w hw=>by
 refine .inr (.inr (.inl ⟨f,vs.toArray,xI hc.cal (nL hρ hv) (hρ _ _ J),?_⟩))
 have h1:Sp (rest++Z) pre w:=by have:=hL Z w hw;unfold Sp at*;simpa only [V3] using this
 refine (hc.run _ w h1).mono ?_;rintro e w' ⟨v,post,rfl,h2,h3⟩;exact ⟨v,post++rest,J,by unfold Sp at*;simpa only [V3] using h2,post,h3,rfl⟩
def mT (c:Chunk):Prop:= ∀T S S' w,c.ok T S w->c.ok T S' w
theorem rR {sz:Nat}{en:α->Wb}{h1:∀x,(en x).length=sz}{h2:∀x,(en x).all (·.oneCell')=true}{xs:List α}:mT (bh (Rep.flat sz en h1 h2) e v xs):=fun T S S' w ⟨vss,g1,g2⟩=>⟨vss,g1.imp fun _ _ h=>h,g2⟩
def wP (L:Wa)(c:Chunk):Prop:= ∀T S w,SepT L T S w->c.ok (fun _=>False) (fun q=>q<w.heap.size) w
theorem jU {c:Chunk}(hi:L[i]? =some c)(hc:c.ro=true):wP L c:=fun T S w h=>c.mono (fun _ hq=>h.lts hq) (c.dup hc (h.ok hi))
theorem gC {R:Rep α}{xs:List α}(hi:L[i]? =some (bh R e v xs)):wP L (iD R v xs):=fun T S w h=>by
 obtain ⟨vss,h1,h2⟩:=h.ok hi;rcases h2 with ⟨h2, -⟩|⟨h0,A,rfl⟩
 ·rcases h2.2 with ⟨rfl,h0⟩|⟨g,cap,cur,rfl,g1,g2,g3,g4,g5,g6⟩
  ·exact ⟨none,0,by rw [h0],by omega,by omega,fun h=>absurd h U⟩
  exact ⟨_,cap,J,g3,by unfold maxLen at g4;omega,fun _=>⟨g,0,vss,rfl,Blk.lt (t:=e) (cs:=cur) g2,Blk.lt (t:=e) (cs:=cur) g2,h1.imp fun _ _=>R.mono fun _ hq=>h.lts hq,me (cap:=cap) g2 g6⟩⟩
 exact ⟨A,0,by rw [h0],by omega,by omega,fun h=>absurd h U⟩
theorem Ox {R:Rep α}:wP L (iD R (Y none 0 0) ([]:List α)):=fun T S w h=>Hx R _ w
theorem Fa {vs:Wb}{pre:Wa}{R:Value->Wa->Prop}(hc:Okc P f vs pre R)(hp:∀c∈pre,wP L c)(hfr:∀v post,R v post-> ∀c∈post,mT c): ∀Z w,Sp Z L w->Calls P f vs.toArray w fun e w'=> ∃v post,e=.returned v/\Sp Z (post++L) w'/\R v post:=fun Z w hw=>by
 obtain ⟨T,S,hT⟩:=hw;have hTL:SepT L T S w:=⟨fun hi=>hT.ok (aU hi),hT.apart,hT.ro,hT.lt,hT.lts⟩
 have h1:Sp [Ge w] pre w:=by
  refine ⟨fun _ _=>False,fun q=>q<w.heap.size,?_,fun _ h=>h.elim,fun h=>h.elim,fun h=>h.elim,fun h=>h⟩;intro i c hi;rcases XA i pre.length with hlt|hge
  ·rw [WJ hlt] at hi;exact hp c (Xd hi) T S w hTL
  rw [WK hge] at hi
  have hc:c=Ge w:=by
   cases hk:i - pre.length with
   |zero=>rw [hk] at hi;simpa using hi.symm
   |succ k=>rw [hk] at hi;simp at hi
  subst hc;exact ⟨Ext.refl w,fun _ h=>h⟩
 refine (hc.run _ w h1).mono ?_;rintro e w' ⟨v,post,rfl,⟨T',S',h2⟩,h3⟩;have hold:(Ge w).ok (T' post.length) S' w':=h2.ok (by simp);obtain ⟨hx,hS⟩:=hold;refine ⟨v,post,J,⟨fun i q=>if i<post.length then T' i q else T (i - post.length) q,S,?_,?_,?_,?_,fun hq=>Xz (hT.lts hq) hx.size⟩,h3⟩
 ·intro i c hi;rw [V3] at hi;rcases XA i post.length with hlt|hge
  ·rw [WJ hlt] at hi;have h4:=h2.ok (show (post++ [Ge w])[i]? =some c by rw [WJ hlt];exact hi);simp only [hlt,if_true];exact hfr v post h3 c (Xd hi) _ _ _ _ h4
  rw [WK hge] at hi;simp only [show¬i<post.length by omega,if_false];exact c.loc (Agr.of_ext hx) (hT.ok hi)
 ·intro i j q hij h4 h5;by_cases e1:i<post.length<;>by_cases e2:j<post.length
  ·simp only [e1,e2,if_true] at h4 h5;exact h2.apart hij h4 h5
  ·simp only [e1,e2,if_true,if_false] at h4 h5;exact h2.ro h4 (hS q (hT.lt h5))
  ·simp only [e1,e2,if_true,if_false] at h4 h5;exact h2.ro h5 (hS q (hT.lt h4))
  simp only [e1,e2,if_false] at h4 h5;exact hT.apart U h4 h5
 ·intro i q h4 h5;by_cases e1:i<post.length
  ·simp only [e1,if_true] at h4;exact h2.ro h4 (hS q (hT.lts h5))
  simp only [e1,if_false] at h4;exact hT.ro h4 h5
 intro i q h4;by_cases e1:i<post.length
 ·simp only [e1,if_true] at h4;exact h2.lt h4
 simp only [e1,if_false] at h4;exact Xz (hT.lt h4) hx.size
theorem kV {vs:Wb}{pre:Wa}{R:Value->Wa->Prop}(hc:Okc P f vs pre R)(hv:DE s xs=some vs)(hp:∀c∈pre,wP L c)(hfr:∀v post,R v post-> ∀c∈post,mT c):OpX P s L ⟨d,.call ⟨.value (.func f),xs.toArray,ats⟩,ty,pos,af,gd⟩ fun u L'=> ∃post,R u post/\L'=post++L:=fun ρ hρ Z w hw=>by
 refine .inr (.inr (.inl ⟨f,vs.toArray,xI hc.cal (nL hρ hv) (hρ _ _ J),?_⟩));refine (Fa hc hp hfr Z w hw).mono ?_;rintro e w' ⟨v,post,rfl,h2,h3⟩;exact ⟨v,post++L,J,h2,post,h3,J⟩
theorem aR {p:Chunk->Prop}: ∀c∈([]:Wa),p c:=fun _ h=>by cases h
theorem t9 {p:Chunk->Prop}{c:Chunk}{l:Wa}(h1:p c)(h2:∀c∈l,p c): ∀d∈c::l,p d:=fun d h=>by
 rcases W9.1 h with rfl|h
 ·exact h1
 exact h2 d h
end
section
variable {X:Cx}{R:Value->Wa->Prop}{s:bA}{L L2:Wa}
theorem Ai {t:Nat}(hr:fn.results= #[.tmp t])(hl:jq s t=some v)(hc:Cv L L2)(h:R v L2):Ny X fn R .ret s L:=fun a ha=>⟨v,L2,fun _ _ _=>by unfold results;rw [hr];simpa using ha.at_ t v hl,hc,h⟩
theorem Jw {t u:Nat}{x:Value}(hr:fn.results= #[.tmp t,.tmp u])(hl:jq s t=some v)(hm:jq s u=some x)(hc:Cv L L2)(h:R (.tuple #[v,x]) L2):Ny X fn R .ret s L:=fun a ha=>⟨_,L2,fun _ _ _=>by unfold results;rw [hr];simpa using And.intro (ha.at_ t v hl) (ha.at_ u x hm),hc,h⟩
end
def ap (xs:List α)(i:Int):Option α:=if i<0 then none else xs[i.toNat]?
theorem C6 {xs:List α}{i:Int}{x:α}(h:ap xs i=some x):0<=i/\i<xs.length/\xs[i.toNat]? =some x:=by
 unfold ap at h;split at h
 ·cases h
 have:=(WQ.1 h).1;exact ⟨by omega,by omega,h⟩
def aE {ρ:Type}(b:Prop)[Decidable b](m:Option ρ):Option ρ:=if b then m else none
theorem ac {ρ:Type}{b:Prop}[Decidable b]{m:Option ρ}{r:ρ}(h:aE b m=some r):b/\m=some r:=by
 unfold aE at h;split at h
 ·exact ⟨‹_›,h⟩
 cases h
abbrev in64 (z:Int):Prop:= -9223372036854775808<=z/\z<=9223372036854775807
abbrev ci (n:Nat):Prop:=n<=1099511627776
theorem aa {m:Option α}{f:α->Option β}{r:β}(h:m.bind f=some r): ∃x,m=some x/\f x=some r:=Option.bind_eq_some_iff.1 h
theorem qi {ρ:Type}{b:Bool}{x y r:Option ρ}(hb:b=true)(h:(bif b then x else y)=r):x=r:=by rw [hb] at h;exact h
theorem qj {ρ:Type}{b:Bool}{x y r:Option ρ}(hb:b=false)(h:(bif b then x else y)=r):y=r:=by rw [hb] at h;exact h
end
section
open Go.RowKit
section
variable {r:Option Nat}
theorem HC (r:Option Nat)(ρ:Operand->Value)(hn:eF o=true):o.semAt (D5 r).round ρ=execOp ρ o:=Oper.semAt_eq _ _ _ fun c hc=>by unfold eF at hn;rw [hc] at hn;cases hn
theorem K2 (hi:ops[i]? =some o)(hn:eF o=true)(hy:YieldsC P ops C o v a){K:Act->World->Prop}{w:World}(hC:C w)(h:K (a.put o.dst v) w):wpOpIn (D5 r) 0 P ops Q i K a w:=by
 unfold Go.wpOpIn;simp only [hi];rcases hy with ⟨hw,hv⟩|⟨hw,rfl⟩
 ·simp only [hw,if_true,Oper.wpIn,HC r _ hn,hv w hC,Oper.uponIn];exact ⟨fun _ _=>trivial,h⟩
 simp only [hw,Wk,if_false];exact ⟨fun _ _=>trivial,h⟩
theorem Ix (hj:ops[j]? =some oj)(hnj:eF oj=true)(hap:oi.apart ops oj=true)(hsi:∀cs b,oi.op≠ .select cs b)(hsj:∀cs b,oj.op≠ .select cs b)(hQ:∀c a w, ¬Q (.panic c) a w){K:Act->World->Prop}{w:World}(hy:YieldsC P ops C oi v a)(h:wpOpIn (D5 r) 0 P ops Q j (fun a w=>C w/\K a w) (a.put oi.dst v) w):wpOpIn (D5 r) 0 P ops Q j (fun a' w'=>C w'/\YieldsC P ops C oi v a'/\K (a'.put oi.dst v) w') a w:=by
 obtain ⟨h1,h2,h3⟩:=Oper.apart_spec hap
 have keep: ∀(a:Act),YieldsC P ops C oi v a-> ∀u,YieldsC P ops C oi v (a.put oj.dst u):=fun a hy u=>hy.of_same (execOp_put oi hsi a oj.dst u h3) (wanted_put oi a oj.dst u h3)
 have keepD: ∀d,YieldsC P ops C oi v {a with defers:=d::a.defers}:=fun d=>hy.of_same rfl rfl
 unfold wpOpIn at*;simp only [hj] at*;rw [wanted_put oj a oi.dst v h1] at h;split
 ·rename_i hw
  simp only [hw,if_true] at h;unfold Oper.wpIn at*;refine ⟨fun _ _=>trivial,?_⟩;have h:=h.2;rw [HC r _ hnj,execOp_put oj hsj a oi.dst v h1] at h;rw [HC r _ hnj];generalize (execOp a.eval oj).run P w=rr at*
  cases rr with
  | ok x w'=>
   cases x<;>simp only [Oper.uponIn] at h⊢
   case value u=>exact ⟨h.1,keep a hy u,by rw [<-Act.put_comm a v u h2];exact h.2⟩
   case skip=>exact ⟨h.1,keep a hy _,by rw [<-Act.put_comm a v undef h2];exact h.2⟩
   case defer d=>
    refine ⟨h.1,keep _ (keepD d) _,?_⟩;rw [<-Act.put_comm _ v undef h2, <-Act.put_defers];exact h.2
   case enter f args=>
    refine ⟨h.1,CallsIn.mono h.2 fun e w'' he=> ?_⟩
    cases e with
    |returned u=>exact ⟨he.1,keep a hy u,by rw [<-Act.put_comm a v u h2];exact he.2⟩
    |panicked c=>exact absurd he (hQ _ _ _)
    |outgrown=>exact he
   case row row args=>exact ⟨h.1,RowsIn.mono h.2 fun u w'' he=>⟨he.1,keep a hy u,by rw [<-Act.put_comm a v u h2];exact he.2⟩⟩
   case round l f tmps assign body=>
    refine ⟨h.1,RoundIn.mono h.2 fun e w'' he=> ?_⟩
    cases e with
    |returned u=>exact ⟨he.1,keep a hy u,by rw [<-Act.put_comm a v u h2];exact he.2⟩
    |panicked c=>exact absurd he (hQ _ _ _)
    |outgrown=>exact he
  |halt x w'=>
   cases x<;>simp only [Oper.uponIn] at h⊢
   case panic u=>exact absurd h (hQ _ _ _)
 rename_i hw
 simp only [hw] at h;exact ⟨fun _ _=>trivial,h.2.1,keep a hy _,by rw [<-Act.put_comm a v undef h2];exact h.2.2⟩
def KW (ops:Array Oper)(listed:Array Bool)(i:Nat):Bool:=match ops[i]? with
 |some o=>(List.range listed.size).all fun j=> !listed.getD j false||o.after.any fun e=>Region.binds .any e&&e.on==j
 |none=>false
theorem Rg (hj:ops[j]? =some oj)(hi:i<listed.size)(hno:∀e∈oj.after,Region.binds .any e=true->e.on≠i): ¬KW ops (listed.setIfInBounds i true) j=true:=by
 unfold KW;rw [hj];intro h;have h1:=Wu.1 h i (by simpa using hi)
 have h2:(listed.setIfInBounds i true).getD i false=true:=by simp [hi]
 rw [h2] at h1;simp only [Bool.not_true,Bool.false_or,Array.any_eq_true,XW,beq_iff_eq] at h1;obtain ⟨k,hk,h3,h4⟩:=h1;exact hno _ (Array.getElem_mem hk) h3 h4
def Ho (r:Option Nat)(P:Program)(ops:Array Oper)(Q:Exit->Act->World->Prop)(C:World->Prop):Nat->Array Bool->Act->World->Prop
 |0,listed,a,w=>Region.ready .any ops listed=[]/\Q .normal a w
 |fuel+1,listed,a,w=>(Region.ready .any ops listed=[]->Q .normal a w)/\ ∀i∈Region.ready .any ops listed,wpOpIn (D5 r) 0 P ops Q i (fun a' w'=>(C w'/\Ho r P ops Q C fuel (listed.setIfInBounds i true) a' w')\/(KW ops listed i=true/\wpAnyIn (D5 r) 0 P .any ops Q fuel (listed.setIfInBounds i true) a' w')) a w
theorem AY: ∀(fuel:Nat) (listed:Array Bool) (a:Act) (w:World),Ho r P ops Q C fuel listed a w->wpAnyIn (D5 r) 0 P .any ops Q fuel listed a w
 |0,_,_,_,h=>h
 |fuel+1,listed,a,w,h=>⟨h.1,fun i hi=>wpOpIn_mono (fun a w hh=>hh.elim (fun hh=>AY fuel _ a w hh.2) (fun hh=>hh.2)) (h.2 i hi)⟩
theorem Cy {C':World->Prop}(hC:∀w,C' w->C w): ∀(fuel:Nat) (listed:Array Bool) (a:Act) (w:World),Ho r P ops Q C' fuel listed a w->Ho r P ops Q C fuel listed a w
 |0,_,_,_,h=>h
 |fuel+1,listed,a,w,h=>⟨h.1,fun i hi=>wpOpIn_mono (fun a w hh=>hh.imp (fun hh=>⟨hC _ hh.1,Cy hC fuel _ a w hh.2⟩) id) (h.2 i hi)⟩
theorem Ak (hi:ops[i]? =some oi)(hni:∀(j:Nat) (o:Oper),ops[j]? =some o->eF o=true)(hsel:∀(j:Nat) (o:Oper) cs b,ops[j]? =some o->o.op≠ .select cs b)(hQ:∀c a w, ¬Q (.panic c) a w):
  ∀(fuel:Nat) (listed:Array Bool) (a:Act) (w:World),C w->
   (∀j oj,ops[j]? =some oj->j≠i->listed.getD j true=false->(∀e∈oj.after,Region.binds .any e=true->e.on≠i)->oi.apart ops oj=true)->
   i∈Region.ready .any ops listed->YieldsC P ops C oi v a->
   Ho r P ops Q C fuel (listed.setIfInBounds i true) (a.put oi.dst v) w->Ho r P ops Q C (fuel+1) listed a w:=by
 intro fuel
 induction fuel with
 |zero=>
  intro listed a w hC _ hr hy H;refine ⟨fun h=>(by rw [h] at hr;cases hr),fun j hj=> ?_⟩;by_cases hji:j=i
  ·subst hji;exact K2 hi (hni _ _ hi) hy hC (.inl ⟨hC,H⟩)
  have:=ready_mono hj hji;rw [H.1] at this;cases this
 | succ fuel ih=>
  intro listed a w hC hfree hr hy H;refine ⟨fun h=>(by rw [h] at hr;cases hr),fun j hj=> ?_⟩;by_cases hji:j=i
  ·subst hji;exact K2 hi (hni _ _ hi) hy hC (.inl ⟨hC,H⟩)
  have h1:=H.2 j (ready_mono hj hji);obtain ⟨hjun,oj,hoj,hall⟩:=mem_ready.1 hj
  have hnot: ∀e∈oj.after,Region.binds .any e=true->e.on≠i:=fun e he hb heq=>by
   have h1:=hall e he hb;have h0:=(mem_ready.1 hr).1;rw [heq] at h1;rcases XA i listed.size with h'|h'
   ·simp [h'] at h0 h1;rw [h0] at h1;cases h1
   simp [Wg h'] at h1
  have hlt:i<listed.size:=by
   have h0:=(mem_ready.1 hr).1;rcases XA i listed.size with h'|h'
   ·exact h'
   simp [Wg h'] at h0
  replace h1:=wpOpIn_mono (fun a w hh=>hh.resolve_right fun hb=>Rg hoj hlt hnot hb.1) h1;have h2:=Ix hoj (hni _ _ hoj) (hfree j oj hoj hji hjun hnot) (fun cs b=>hsel i oi cs b hi) (fun cs b=>hsel j oj cs b hoj) hQ hy h1
  have hfree': ∀k ok,ops[k]? =some ok->k≠i->(listed.setIfInBounds j true).getD k true=false->
    (∀e∈ok.after,Region.binds .any e=true->e.on≠i)->oi.apart ops ok=true:=fun k ok hk hki hun hno=>by
   refine hfree k ok hk hki ?_ hno;by_cases hjk:j=k
   ·subst hjk;exact hjun
   rw [getD_set_ne true hjk] at hun;exact hun
  refine wpOpIn_mono (fun a' w' h3=> .inl ⟨h3.1,ih (listed.setIfInBounds j true) a' w' h3.1 hfree' (ready_mono hr (Ne.symm hji)) h3.2.1 ?_⟩) h2;rw [Array.setIfInBounds_comm _ _ hji];exact h3.2.2
end
def CM (M:Wa)(w:World):Prop:= ∃Z,Sp Z M w
def z7 (K:K3):K3:=fun e s L=>e=.normal/\K .normal s L
def Og (ops:Array Oper):Bool:=ops.all eF
def mR (X:Cx)(ops:Array Oper)(K:K3)(M:Wa)(fuel:Nat)(listed:Array Bool)(s:bA)(L:Wa):Prop:=Cv L M-> ∀(H:Wa) (Ds:List Nat) (a:Act) (w:World),Fx X s a->a.defers=Ds.map xb->Sp (Ds.map cc++H) L w->Ho X.r X.P ops (yP X H (z7 K)) (CM M) fuel listed a w
def Od (ops:Array Oper)(listed:Array Bool)(i:Nat):Bool:=Og ops&&Region.noSelect ops&&Region.free .any ops listed i&&(Region.ready .any ops listed).contains i
theorem zi (h:Og ops=true)(j:Nat)(o:Oper)(hj:ops[j]? =some o):eF o=true:=Array.all_eq_true_iff_forall_mem.1 h o (Array.mem_of_getElem? hj)
section
variable {X:Cx}{K:K3}{M:Wa}{s:bA}{L:Wa}{d:Nat}{op:Op}
theorem LP (i:Nat)(hi:ops[i]? =some ⟨some d,op,ty,pos,af,gd⟩)(hk:Od ops listed i=true)(h:Rd X.P s M ⟨some d,op,ty,pos,af,gd⟩ v)(hg:aA ops s ⟨some d,op,ty,pos,af,gd⟩=some true)(hd:Nat.ble (d+1) X.n=true)(k:mR X ops K M fuel (listed.setIfInBounds i true) ((d,v)::s) L):mR X ops K M (fuel+1) listed s L:=by
 intro hc H Ds a w ha hds hw;unfold Od at hk;simp only [XW] at hk;obtain ⟨⟨⟨h0,h1⟩,h2⟩,h3⟩:=hk;refine Ak hi (zi h0) (Region.noSelect_spec h1) (fun c a w ⟨_,_,_,_,_,_,he,_⟩=>(by cases he)) fuel listed a w ⟨_,hc _ _ hw⟩ (Region.free_spec hi h2) (by simpa using h3) (.inl ⟨eG ha hg,fun w ⟨Z,hZ⟩=>h Z w hZ a.eval (fun x u hx=>ha.eval hx) w J⟩) ?_;exact k hc H Ds _ _ (ha.put v (Xw hd)) hds hw
theorem yM (i:Nat)(hi:ops[i]? =some ⟨some d,op,ty,pos,af,gd⟩)(hk:Od ops listed i=true)(h:Ev X.P s (fun _=>True) ⟨some d,op,ty,pos,af,gd⟩ v)(hg:aA ops s ⟨some d,op,ty,pos,af,gd⟩=some true)(hd:Nat.ble (d+1) X.n=true)(k:mR X ops K M fuel (listed.setIfInBounds i true) ((d,v)::s) L):mR X ops K M (fuel+1) listed s L:=LP i hi hk (fun _ _ _ ρ hρ w _=>h ρ hρ w trivial) hg hd k
theorem Hl (i:Nat)(hi:ops[i]? =some ⟨some d,op,ty,pos,af,gd⟩)(hk:Od ops listed i=true)(hg:aA ops s ⟨some d,op,ty,pos,af,gd⟩=some false)(hd:Nat.ble (d+1) X.n=true)(k:mR X ops K M fuel (listed.setIfInBounds i true) ((d,undef)::s) L):mR X ops K M (fuel+1) listed s L:=by
 intro hc H Ds a w ha hds hw;unfold Od at hk;simp only [XW] at hk;obtain ⟨⟨⟨h0,h1⟩,h2⟩,h3⟩:=hk;refine Ak hi (zi h0) (Region.noSelect_spec h1) (fun c a w ⟨_,_,_,_,_,_,he,_⟩=>(by cases he)) fuel listed a w ⟨_,hc _ _ hw⟩ (Region.free_spec hi h2) (by simpa using h3) (.inr ⟨eG ha hg,J⟩) ?_;exact k hc H Ds _ _ (ha.put undef (Xw hd)) hds hw
def JQ (X:Cx)(ops:Array Oper)(K:K3)(M:Wa)(fuel:Nat)(listed:Array Bool)(s:bA)(L:Wa)(i:Nat):Prop:=Cv L M-> ∀(H:Wa) (Ds:List Nat) (a:Act) (w:World),Fx X s a->a.defers=Ds.map xb->Sp (Ds.map cc++H) L w->wpOpIn (D5 X.r) 0 X.P ops (yP X H (z7 K)) i (fun a' w'=>(CM M w'/\Ho X.r X.P ops (yP X H (z7 K)) (CM M) fuel (listed.setIfInBounds i true) a' w')\/(KW ops listed i=true/\wpAnyIn (D5 X.r) 0 X.P .any ops (yP X H (z7 K)) fuel (listed.setIfInBounds i true) a' w')) a w
theorem La {R:Value->Wa->Prop}(hi:ops[i]? =some o)(h:OpX X.P s L o R)(hn:eF o=true)(hg:aA ops s o=some true)(hd:G8 X.n o.dst=true)(k:∀v L',R v L'-> ∃M',Cv L' M'/\Cv M' M/\mR X ops K M' fuel (listed.setIfInBounds i true) (putE o.dst v s) L'):JQ X ops K M fuel listed s L i:=by
 intro hc H Ds a w ha hds hw;unfold wpOpIn;rw [hi];simp only [eG ha hg,if_true]
 refine h.wpIn hn ha hw fun v L' w' h1 h2=> ?_
 obtain ⟨M',h3,h4,h5⟩:=k v L' h1;exact .inl ⟨⟨_,h4 _ _ (h3 _ _ h2)⟩,Cy (fun w ⟨Z,hZ⟩=>⟨Z,h4 _ _ hZ⟩) _ _ _ _ (h5 h3 H Ds _ _ (ha.putE v hd) ((put_defers _ _ _).trans hds) h2)⟩
theorem RJ (i:Nat){R:Value->Wa->Prop}(hi:ops[i]? =some o)(hr:Region.ready .any ops listed=[i])(h:OpX X.P s L o R)(hn:eF o=true)(hg:aA ops s o=some true)(hd:G8 X.n o.dst=true)(k:∀v L',R v L'-> ∃M',Cv L' M'/\Cv M' M/\mR X ops K M' fuel (listed.setIfInBounds i true) (putE o.dst v s) L'):mR X ops K M (fuel+1) listed s L:=
 fun hc H Ds a w ha hds hw=>⟨fun h=>absurd (hr.symm.trans h) (by simp),fun j hj=>by
  rw [hr,Xf] at hj;subst hj
  exact La hi h hn hg hd k hc H Ds a w ha hds hw⟩
theorem Pv (i:Nat){R:Value->Wa->Prop}(hi:ops[i]? =some o)(hr:Region.ready .any ops listed=[i])(hb:KW ops listed i=true)(h:OpX X.P s L o R)(hn:eF o=true)(hg:aA ops s o=some true)(hd:G8 X.n o.dst=true)(k:∀v L',R v L'->mR X ops K L' fuel (listed.setIfInBounds i true) (putE o.dst v s) L'):mR X ops K M (fuel+1) listed s L:=
 fun hc H Ds a w ha hds hw=>⟨fun h=>absurd (hr.symm.trans h) (by simp),fun j hj=>by
  rw [hr,Xf] at hj;subst hj;unfold wpOpIn;rw [hi];simp only [eG ha hg,if_true]
  refine h.wpIn hn ha hw fun v L' w' h1 h2=> ?_
  exact .inr ⟨hb,AY _ _ _ _ (k v L' h1 (ah _) H Ds _ _ (ha.putE v hd) ((put_defers _ _ _).trans hds) h2)⟩⟩
theorem qm (i j:Nat)(hr:Region.ready .any ops listed=[i,j])(h1:JQ X ops K M fuel listed s L i)(h2:JQ X ops K M fuel listed s L j):mR X ops K M (fuel+1) listed s L:=
 fun hc H Ds a w ha hds hw=>⟨fun h=>absurd (hr.symm.trans h) (by simp),fun q hq=>by
  rw [hr] at hq;simp only [W9,List.not_mem_nil,or_false] at hq;rcases hq with rfl|rfl
  ·exact h1 hc H Ds a w ha hds hw
  ·exact h2 hc H Ds a w ha hds hw⟩
theorem fg (hr:Region.ready .any ops listed=[])(h:K .normal s L):mR X ops K M fuel listed s L:=by
 intro hc H Ds a w ha hds hw;have hq:yP X H (z7 K) .normal a w:=⟨s,L,Ds,ha,hds,hw,rfl,h⟩
 cases fuel with
 |zero=>exact ⟨hr,hq⟩
 |succ n=>exact ⟨fun _=>hq,by rw [hr];simp⟩
theorem Ir {t:bA}{L':Wa}(h:mR X ops K M fuel listed t L')(hs:AV s t)(hl:Cv L L')(hm:Cv L' M):mR X ops K M fuel listed s L:=fun _ H Ds a w ha hds hw=>h hm H Ds a w (ha.sub hs) hds (hl _ _ hw)
def pE (l:Array Bool)(ix:List Nat):Array Bool:=ix.foldl (fun l i=>l.setIfInBounds i true) l
theorem Rm (d:Nat)(hl:jq s d=some (.bool g))(h1:g=true->mR X ops K M fuel listed s L)(h2:g=false->mR X ops K M fuel listed s L):mR X ops K M fuel listed s L:=by
 cases g with
 |true=>exact h1 rfl
 |false=>exact h2 rfl
theorem lg {L':Wa}(hl:Cv L L')(hm:Cv L' M)(h:mR X ops K M fuel listed s L'):mR X ops K M fuel listed s L:=Ir h dl hl hm
theorem cv_tl {c:Chunk}:Cv (c::L) L:=fun Z w h=>by
 have:=SepL.pick (L':=L++Z) h (· +1) (fun j c hj=>by simpa using hj) (fun i j _ _ e=>by omega);exact this
theorem bm {id:Nat}(hm:X.P.follows .mixedOrders=true)(M:Wa)(hM:Cv L M)(h:mR X l.toArray K M l.length (Array.replicate l.length false) s L):Wq X (.region id l.toArray true) K s L:=by
 intro H Ds a w ha hds hw;have hw1:Sp (Ds.map cc++H) L {w with drawn:=w.drawn+1}:=SepL.same hw ⟨rfl,rfl,rfl,Xx _,fun _ _ _=>rfl⟩;have h1:=AY _ _ _ _ (h hM H Ds a _ ha hds hw1);refine wpIn_mono (wpIn_region_any hm (by simpa using h1)) ?_;rintro e a' w' ⟨s',L',Ds',g1,g2,g3,rfl,g4⟩;exact ⟨s',L',Ds',g1,g2,g3,g4⟩
end
end
section
open Go.RowKit
section
variable {X:Cx}{K:K3}{s:bA}{L:Wa}{rest:List Oper}{d:Nat}{op:Op}
theorem LT {R:Value->Wa->Prop}(h:OpX X.P s L ⟨some d,op,ty,pos,af,gd⟩ R)(hn:eF ⟨some d,op,ty,pos,af,gd⟩=true)(hg:aA ops s ⟨some d,op,ty,pos,af,gd⟩=some true)(hd:Nat.ble (d+1) X.n=true)(k:∀v L',R v L'->aY X ops rest K ((d,v)::s) L'):aY X ops (⟨some d,op,ty,pos,af,gd⟩::rest) K s L:=Rr h hn hg hd k
theorem RL {R:Value->Wa->Prop}(h:OpX X.P s L ⟨none,op,ty,pos,af,gd⟩ R)(hn:eF ⟨none,op,ty,pos,af,gd⟩=true)(hg:aA ops s ⟨none,op,ty,pos,af,gd⟩=some true)(k:∀v L',R v L'->aY X ops rest K s L'):aY X ops (⟨none,op,ty,pos,af,gd⟩::rest) K s L:=Rr h hn hg rfl k
theorem Dj {M:Wa}(i:Nat){R:Value->Wa->Prop}(hi:ops[i]? =some ⟨some d,op,ty,pos,af,gd⟩)(hr:Region.ready .any ops listed=[i])(h:OpX X.P s L ⟨some d,op,ty,pos,af,gd⟩ R)(hn:eF ⟨some d,op,ty,pos,af,gd⟩=true)(hg:aA ops s ⟨some d,op,ty,pos,af,gd⟩=some true)(hd:Nat.ble (d+1) X.n=true)(k:∀v L',R v L'-> ∃M',Cv L' M'/\Cv M' M/\mR X ops K M' fuel (listed.setIfInBounds i true) ((d,v)::s) L'):mR X ops K M (fuel+1) listed s L:=RJ i hi hr h hn hg hd k
theorem SC {M:Wa}(i:Nat){R:Value->Wa->Prop}(hi:ops[i]? =some ⟨none,op,ty,pos,af,gd⟩)(hr:Region.ready .any ops listed=[i])(h:OpX X.P s L ⟨none,op,ty,pos,af,gd⟩ R)(hn:eF ⟨none,op,ty,pos,af,gd⟩=true)(hg:aA ops s ⟨none,op,ty,pos,af,gd⟩=some true)(k:∀v L',R v L'-> ∃M',Cv L' M'/\Cv M' M/\mR X ops K M' fuel (listed.setIfInBounds i true) s L'):mR X ops K M (fuel+1) listed s L:=RJ i hi hr h hn hg rfl k
theorem Rn {M:Wa}(i:Nat){R:Value->Wa->Prop}(hi:ops[i]? =some ⟨some d,op,ty,pos,af,gd⟩)(hr:Region.ready .any ops listed=[i])(hb:KW ops listed i=true)(h:OpX X.P s L ⟨some d,op,ty,pos,af,gd⟩ R)(k:∀v L',R v L'->mR X ops K L' fuel (listed.setIfInBounds i true) ((d,v)::s) L')(hn:eF ⟨some d,op,ty,pos,af,gd⟩=true:=by rfl)(hg:aA ops s ⟨some d,op,ty,pos,af,gd⟩=some true:=by rfl)(hd:Nat.ble (d+1) X.n=true:=by rfl):mR X ops K M (fuel+1) listed s L:=Pv i hi hr hb h hn hg hd k
theorem oV {M:Wa}(i:Nat){R:Value->Wa->Prop}(hi:ops[i]? =some ⟨none,op,ty,pos,af,gd⟩)(hr:Region.ready .any ops listed=[i])(hb:KW ops listed i=true)(h:OpX X.P s L ⟨none,op,ty,pos,af,gd⟩ R)(k:∀v L',R v L'->mR X ops K L' fuel (listed.setIfInBounds i true) s L')(hn:eF ⟨none,op,ty,pos,af,gd⟩=true:=by rfl)(hg:aA ops s ⟨none,op,ty,pos,af,gd⟩=some true:=by rfl):mR X ops K M (fuel+1) listed s L:=Pv i hi hr hb h hn hg rfl k
theorem bX {M:Wa}{R:Value->Wa->Prop}(hi:ops[i]? =some ⟨some d,op,ty,pos,af,gd⟩)(h:OpX X.P s L ⟨some d,op,ty,pos,af,gd⟩ R)(hn:eF ⟨some d,op,ty,pos,af,gd⟩=true)(hg:aA ops s ⟨some d,op,ty,pos,af,gd⟩=some true)(hd:Nat.ble (d+1) X.n=true)(k:∀v L',R v L'-> ∃M',Cv L' M'/\Cv M' M/\mR X ops K M' fuel (listed.setIfInBounds i true) ((d,v)::s) L'):JQ X ops K M fuel listed s L i:=La hi h hn hg hd k
theorem vF (k pd:Nat)(b:Bool)(h1:aY X ops (l.take k) (vd ((pd,.bool b)::s) L) s L)(h2:aY X ops (l.drop k) K ((pd,.bool b)::s) L):aY X ops l K s L:=TF k _ _ h1 h2
theorem ai {x y:Code}(Fam:bA->Wa->Prop)(h1:Wq X x (nx (fun s L=> ∃s2 L2,Fam s2 L2/\AV s s2/\Cv L L2) K) s L)(h2:∀s2 L2,Fam s2 L2->Wq X y K s2 L2):Wq X (.seq x y) K s L:=
 au (PB h1 fun e s L h=>by
  cases e with
  |normal=>obtain ⟨s2,L2,g1,g2,g3⟩:=h;exact gQ (h2 s2 L2 g1) g2 g3
  |_=>exact h)
theorem ii (Fam:Nat->bA->Wa->Prop)(m0:Nat)(s0:bA)(L0:Wa)(h0:Fam m0 s0 L0)(hs:AV s s0)(hl:Cv L L0)(round:∀m s2 L2,Fam m s2 L2->Wq X c (nx (fun s' L'=> ∃m' s3 L3,m'<m/\Fam m' s3 L3/\AV s' s3/\Cv L' L3) K) s2 L2):Wq X (.loop c) K s L:=
 SH (ι:=bA×Wa) (fun i=>i.1) (fun i=>i.2) (fun m i=>Fam m i.1 i.2) m0 (s0,L0) h0 hs hl fun m i hi=>PB (round m i.1 i.2 hi) fun e s L h=>by
  cases e with
  |normal=>obtain ⟨m',s3,L3,h1,h2,h3,h4⟩:=h;exact ⟨m',(s3,L3),h1,h2,h3,h4⟩
  |_=>exact h
end
section
variable {s:bA}{d:Option Nat}
theorem So {u:TypeId}{a b:Bool}(hx:be s x=some (.bool a))(hy:be s y=some (.bool b))(ht:P.underlying t=some .bool):Ev P s C ⟨d,.binOp .eql t x y u,ty,pos,af,gd⟩ (.bool (a==b)):=
 fD hx hy fun w=>by rw [XL];show (binOp .eql t (.bool a) (.bool b)).run P w=_;exact run_eql_bool w t a b ht
theorem O0 {u:TypeId}{a b:Bool}(hx:be s x=some (.bool a))(hy:be s y=some (.bool b))(ht:P.underlying t=some .bool):Ev P s C ⟨d,.binOp .neq t x y u,ty,pos,af,gd⟩ (.bool (!(a==b))):=
 fD hx hy fun w=>by rw [XL];show (binOp .neq t (.bool a) (.bool b)).run P w=_;exact run_neq_bool w t a b ht
end
theorem az {r:α}(h:none=some r):p:=by cases h
theorem toNat_lt {k:Int}(h0:0<=k)(h1:k<n):k.toNat<n:=by omega
section
variable {s:bA}{L:Wa}{d:Option Nat}
theorem vh {R:Rep α}{t f sz:Nat}{xs:List α}{c:Chunk}{k:Nat}(i:Nat)(hi:L[i]? =some c)(he:Gs R v xs c)(hx:be s x=some (dh v k sz off))(h1:k<xs.length)(hr:∀b o w,(Instr.fieldAt t (.pointer (some ⟨b,o,none⟩)) f).run P w=.ok (.pointer (some ⟨b,o,none⟩)) w):Rd P s L ⟨d,.fieldAddr t x f,ty,pos,af,gd⟩ (dh v k sz off):=fun Z w hw=>by
 obtain ⟨T,S,h⟩:=hw.get (aU hi);obtain ⟨A,cap,rfl, -, -,h4⟩:=he _ _ _ h;obtain ⟨b,o,vss,rfl, -⟩:=h4 U;exact sC (o:=o+k*sz+off) hx hr
end
end
section
open Go.RowKit
def NO (p:Value)(vs:Wb):Chunk where
 ok _ S w:= ∃b o,p=.pointer (some ⟨b,o,none⟩)/\S b/\b<w.heap.size/\CellsAt w b o vs
 loc:=fun h ⟨b,o,h1,h2,h3,h4⟩=>⟨b,o,h1,h2,Xz h3 h.size,h4.agr h (.inr h2) h3⟩
 mono:=fun h ⟨b,o,h1,h2,h3,h4⟩=>⟨b,o,h1,h _ h2,h3,h4⟩
 ro:=true
 dup:=fun _ _ _ _ h=>h
theorem Mj {R:Rep α}{L Z:Wa}{w:World}{xs:List α}{k:Nat}{x:α}{Q:Wb->Wa->Prop}(hw:Sp Z L w)(hi:L[i]? =some (iD R v xs))(hx:xs[k]? =some x)(ho:LQ R x Q): ∃vs cs,Q vs cs/\Sp Z (NO (dh v k R.sz 0) vs::(cs++L)) w:=by
 obtain ⟨T,S,h⟩:=hw;obtain ⟨A,c,rfl, -, -,h4⟩:=h.ok (aU hi);obtain ⟨b,o,vss,rfl,h5,h6,h7,h8⟩:=h4 (wy hx);obtain ⟨vs,h9,h10⟩:=h7.get hx;obtain ⟨cs,h11,h12⟩:=ho _ _ _ h10;refine ⟨vs,cs,h11,?_⟩;obtain ⟨T',h13⟩:=SepL.facts (NO (dh (.slice (some ⟨b,o,none⟩) xs.length c) k R.sz 0) vs::cs) h (t9 ⟨b,o+k*R.sz,rfl,h5,h6,fun j u hj=>by have:=h8 _ _ (vN h7 h9 hj);rw [Nat.add_assoc];exact this⟩ h12);refine ⟨T',S,?_⟩;simpa using h13
section
variable {s:bA}{L:Wa}{d:Option Nat}
theorem Nl {k sz o:Nat}(h:dh v k sz 0=.pointer (some ⟨b,o,none⟩)):dh v k sz off=.pointer (some ⟨b,o+off,none⟩):=by
 unfold dh at*;split at h
 ·injection h with h;injection h with h;injection h with h1 h2;subst h1 h2;rfl
 cases h
theorem sW {k sz:Nat}{vs us:Wb}(i:Nat)(hi:L[i]? =some (NO (dh v k sz 0) vs))(hx:be s x=some (dh v k sz off))(hu:Gq P t us.length=true)(hv:(vs.drop off).take us.length=us):Rd P s L ⟨d,.load t x,ty,pos,af,gd⟩ (.agg us.toArray):=fun Z w hw=>by
 obtain ⟨T,S,b,o,h1,h2,h3,h4⟩:=hw.get (aU hi);rw [Nl h1] at hx;have h5:=h4.part off us.length;rw [hv] at h5;exact yz hx (H0 (p:=fun w=>CellsAt w b (o+off) us) h5) hu
theorem Ck {u:TypeId}{k':IntKind}{z:Int}(hx:be s x=some (.int k z))(ht:(P.underlying t).isSome=true)(hu:P.underlying u=some (.int k')):Ev P s C ⟨d,.convert t u x,ty,pos,af,gd⟩ (.int k' (k'.wrap z)):=fun ρ hρ w _=>by
 obtain ⟨q,hq⟩:=Option.isSome_iff_exists.1 ht;unfold execOp;simp only [hρ x _ hx,convert,XL,XR hq,XR hu,XK];cases q<;>simp [Conv.intToInt]
theorem Q2 {u:TypeId}{a b:Int}(hx:be s x=some (.int k a))(hy:be s y=some (.int k b)):Ev P s C ⟨d,.binOp .sub t x y u,ty,pos,af,gd⟩ (.int k (k.wrap (a - b))):=fD hx hy fun w=>by cases k<;>rfl
end
section
variable {X:Cx}{K:K3}{M:Wa}{s:bA}{L:Wa}
theorem Pu (ix:Array Bool->Array Bool)(n2 pd:Nat)(b:Bool)(k:mR X ops K M n2 (ix listed) ((pd,.bool b)::s) L->mR X ops K M fuel listed s L)(h:mR X ops K M n2 (ix listed) ((pd,.bool b)::s) L):mR X ops K M fuel listed s L:=k h
theorem Cu {R:Rep α}{xs:List α}{k:Nat}{x:α}{Q:Wb->Wa->Prop}(i:Nat)(hi:L[i]? =some (iD R v xs))(hx:xs[k]? =some x)(ho:LQ R x Q)(h:∀vs cs,Q vs cs->aY X ops l K s (NO (dh v k R.sz 0) vs::(cs++L))):aY X ops l K s L:=fun H Ds a w ha hd hw=>by
 obtain ⟨vs,cs,h1,h2⟩:=Mj hw hi hx ho;exact h vs cs h1 H Ds a w ha hd h2
theorem mM {L L':Wa}(c:Chunk)(h:Cv L L'):Cv (c::L) (c::L'):=fun Z w hw=>by
 have h1:Sp (Z++ [c]) L w:=by
  refine SepL.pick (L:=(c::L)++Z) hw (fun j=>if j<L.length+Z.length then j+1 else 0) ?_ ?_
  ·intro j d hj;rw [<-V3] at hj;by_cases hlt:j<L.length+Z.length
   ·simp only [hlt,if_true,Wy,WL];rw [WJ (by simpa using hlt)] at hj;exact hj
   rw [WK (by simp;omega)] at hj
   have:j - (L++Z).length=0:=by
    rcases Xv (j - (L++Z).length) with h0|h0
    ·exact h0
    rw [show j - (L++Z).length=(j - (L++Z).length - 1)+1 by omega] at hj;simp at hj
   rw [this] at hj;simp only [hlt,if_false];simpa using hj
  intro i j h1 h2 e;simp only [XS,WY,W2] at h1 h2;split at e<;>split at e<;>omega
 have h2:SepL (L'++(Z++ [c])) w:=h _ _ h1;refine SepL.pick h2 (fun j=>if j=0 then L'.length+Z.length else j - 1) ?_ ?_
 ·intro j d hj
  cases j with
  |zero=>
   simp only [Wy,WM,XI] at hj;subst hj;simp only [if_true];rw [WK U,WK U];simp
  |succ j=>
   simp only [Wy,WL] at hj;have hlt:j<(L'++Z).length:=(WQ.1 hj).1;simp only [Nat.succ_ne_zero,if_false,Nat.add_sub_cancel];rw [<-V3,WJ hlt];exact hj
 intro i j h1 h2 e;simp only [XS,WY] at h1 h2;split at e<;>split at e<;>omega
theorem vv {L L':Wa}: ∀(cs:Wa),Cv L L'->Cv (cs++L) (cs++L')
 | [],h=>h
 |c::cs,h=>mM c (vv cs h)
end
end
section
open Go.RowKit
theorem Mp.agr {ek:α->Value}{ev:β->Value}{X:Nat->Prop}{w:World}{L:List (α×β)}(h:Mp w m ek ev L)(hx:Agr X w w')(hm:X m):Mp w' m ek ev L:=by
 have hlt:=h.lt;obtain ⟨es,clk,h1,h2⟩:=h;exact ⟨es,clk,(hx.block m hlt hm).trans h1,h2⟩
def ax (ek:α->Value)(ev:β->Value)(m:Nat)(kv:List (α×β)):Chunk where
 ok T _ w:=T m/\Mp w m ek ev kv
 loc:=fun h ⟨h1,h2⟩=>⟨h1,h2.agr h (.inl h1)⟩
 mono:=fun _ h=>h
 ro:=false
 dup:=fun h=>Bool.noConfusion h
def nc (ek:α->Value)(ev:β->Value)(m:Nat)(kv:List (α×β)):Chunk where
 ok _ S w:=S m/\Mp w m ek ev kv
 loc:=fun h ⟨h1,h2⟩=>⟨h1,h2.agr h (.inr h1)⟩
 mono:=fun h ⟨h1,h2⟩=>⟨h _ h1,h2⟩
 ro:=true
 dup:=fun _ _ _ _ h=>h
def RBlk (w:World)(b:Nat)(cs:Array Value):Prop:= ∃t p,w.heap[b]? =some (.cells cs t p)
theorem Blk.r {w:World}(h:Blk w b t cs):RBlk w b cs:=⟨t,(0,0),h⟩
theorem RBlk.lt {w:World}(h:RBlk w b cs):b<w.heap.size:=by
 obtain ⟨t,p,h⟩:=h;rcases XA b w.heap.size with hlt|hge
 ·exact hlt
 rw [Wg hge] at h;cases h
theorem RBlk.cells {w:World}(h:RBlk w b cs)(j:Nat):w.cell? ⟨b,j,none⟩=cs[j]? :=by
 obtain ⟨t,p,h⟩:=h;exact cell_of_row w b j cs t p h
def aB (b:Nat)(_t:TypeId)(cs:Wb):Chunk where
 ok _ S w:=S b/\RBlk w b cs.toArray
 loc:=fun h ⟨h1,h2⟩=>⟨h1,by obtain ⟨t,p,h3⟩:=h2;exact ⟨t,p,(h.block _ (RBlk.lt ⟨t,p,h3⟩) (.inr h1)).trans h3⟩⟩
 mono:=fun h ⟨h1,h2⟩=>⟨h _ h1,h2⟩
 ro:=true
 dup:=fun _ _ _ _ h=>h
def LR (ek:α->Value)(ev:β->Value)(m:Nat)(kv:List (α×β))(c:Chunk):Prop:= ∀T S w,c.ok T S w->Mp w m ek ev kv
theorem wD {ek:α->Value}{ev:β->Value}{kv:List (α×β)}:LR ek ev m kv (ax ek ev m kv):=fun _ _ _ h=>h.2
theorem Sb {ek:α->Value}{ev:β->Value}{kv:List (α×β)}:LR ek ev m kv (nc ek ev m kv):=fun _ _ _ h=>h.2
theorem pZ {L:Wa}{cs:Wb}(hi:L[i]? =some (ae b t cs)):wP L (aB b t cs):=fun _ _ _ h=>⟨(h.ok hi).2.lt,(h.ok hi).2.r⟩
theorem Fs {ek:α->Value}{ev:β->Value}{L:Wa}{kv:List (α×β)}(hi:L[i]? =some (ax ek ev m kv)):wP L (nc ek ev m kv):=fun _ _ _ h=>⟨(h.ok hi).2.lt,(h.ok hi).2⟩
def cj (a:Int):Value:=.int .i64 a
def fv (b:Bool):Value:=.bool b
def sP (a:Int):Value:=.int .i64 a
def DF (_:Unit):Value:=.agg #[]
def Dd [DecidableEq α](L:List (α×β))(a:α):List (α×β):=match fp a L 0 with
 |some (i,_)=>L.eraseIdx i
 |none=>L
theorem Dc (f:α->β): ∀(l:List α) (q:Nat),(l.map f).eraseIdx q=(l.eraseIdx q).map f
 | [],_=>rfl
 |_::_,0=>rfl
 |a::l,q+1=>by simp only [W6,List.eraseIdx_cons_succ,Dc f l q]
theorem Kb {et:TypeId}(ht:P.underlying t=some (.map kt et))(m:Nat)(w:World):(Op.equal t (.map (some m)) (.map none)).run P w=.ok false w:=by
 show (Op.equalIn (9999+1) t (.map (some m)) (.map none)).run P w=_;unfold Op.equalIn;rw [XL,XR ht,XK];rfl
section
theorem dX (hu:P.underlying kt=some (.int .i64)):KeyOk P kt cj where
 und:=⟨_,hu,fun a b=>by
  unfold cj Instr.sameNow
  first
   |exact .inr (by simp;rfl)
   |exact .inl rfl⟩
 eq:=fun a b w=>by
  have h:=run_equalIn_int (P:=P) w 9999 kt .i64 .i64 a b hu;show (Op.equalIn 10000 kt (.int .i64 a) (.int .i64 b)).run P w=_;rw [h];rfl
 check:=fun e a w=>by
  show (Instr.checkKey e (9999+1) kt (.int .i64 a)).run P w=_;unfold Instr.checkKey;rw [XL,XR hu,XK];rfl
 bits:=fun a=>by
  show Instr.sameBits (9999+1) (.int .i64 a) (.int .i64 a)=true;unfold Instr.sameBits;simp
variable {s:bA}{L:Wa}{d:Option Nat}
theorem Bp {o:Nat}{cs:Wb}(i:Nat)(hi:L[i]? =some (aB b bt cs))(hx:be s x=some (.pointer (some ⟨b,o,none⟩)))(hu:i9 P t=true)(hc:cs[o]? =some u):Rd P s L ⟨d,.load t x,ty,pos,af,gd⟩ u:=fun Z w hw=>by
 obtain ⟨T,S, -,h⟩:=hw.get (aU hi);exact Cj hx hu (H0 (p:=fun w=>w.cell? ⟨b,o,none⟩=some u) ((h.cells o).trans (by simpa using hc)))
theorem NT {o:Nat}{cs us:Wb}(i:Nat)(hi:L[i]? =some (aB b bt cs))(hx:be s x=some (.pointer (some ⟨b,o,none⟩)))(hu:Gq P t us.length=true)(hc:(cs.drop o).take us.length=us):Rd P s L ⟨d,.load t x,ty,pos,af,gd⟩ (.agg us.toArray):=fun Z w hw=>by
 obtain ⟨T,S, -,h⟩:=hw.get (aU hi)
 have h4:CellsAt w b 0 cs:=fun j u hj=>by rw [XC,h.cells];simpa using hj
 have h5:=h4.part o us.length;rw [hc,XC] at h5;exact yz hx (H0 (p:=fun w=>CellsAt w b o us) h5) hu
variable [DecidableEq α]{ek:α->Value}{ev:β->Value}{et:TypeId}
theorem Ov (kv:List (α×β))(a:α)(z:β):(match lk kv a with|some b=>ev b|none=>ev z)=ev ((lk kv a).getD z):=by cases lk kv a<;>rfl
theorem EP {a:α}{kv:List (α×β)}{z:β}{c:Chunk}(i:Nat)(hi:L[i]? =some c)(hm:LR ek ev m kv c)(hx:be s x=some (.map (some m)))(hy:be s y=some (ek a))(ht:P.underlying t=some (.map kt et))(hk:KeyOk P kt ek)(hz:∀w,(zeroValue et).run P w=.ok (ev z) w):Rd P s L ⟨d,.lookup t x y false,ty,pos,af,gd⟩ (ev ((lk kv a).getD z)):=fun Z w hw=>by
 obtain ⟨T,S,h⟩:=hw.get (aU hi);rw [<-Ov (ev:=ev)];exact KP hx hy ht hk hz (fun w' e=>by subst e;exact hm _ _ _ h)
theorem ua {a:α}{kv:List (α×β)}{z:β}{c:Chunk}(i:Nat)(hi:L[i]? =some c)(hm:LR ek ev m kv c)(hx:be s x=some (.map (some m)))(hy:be s y=some (ek a))(ht:P.underlying t=some (.map kt et))(hk:KeyOk P kt ek)(hz:∀w,(zeroValue et).run P w=.ok (ev z) w):Rd P s L ⟨d,.lookup t x y true,ty,pos,af,gd⟩ (.tuple #[ev ((lk kv a).getD z),.bool (lk kv a).isSome]):=fun Z w hw=>by
 obtain ⟨T,S,h⟩:=hw.get (aU hi);rw [<-Ov (ev:=ev)];exact KO hx hy ht hk hz (fun w' e=>by subst e;exact hm _ _ _ h)
omit [DecidableEq α] in
theorem BK {Z:Wa}{w:World}{kv kv':List (α×β)}(i:Nat)(hw:Sp Z L w)(hi:L[i]? =some (ax ek ev m kv)){o:Obj}(h:Mp {w with heap:=w.heap.setIfInBounds m o} m ek ev kv'):Sp Z (L.set i (ax ek ev m kv')) {w with heap:=w.heap.setIfInBounds m o}:=by
 have hf:=Mg w m o
 have h2:=SepL.upd (w':={w with heap:=w.heap.setIfInBounds m o}) hw (aU hi) (d:=ax ek ev m kv') fun T S ⟨g1,g2⟩ g3 _ _=>⟨Agr.of_fr hf fun q hq e=>hq (e▸g1),T,fun _=> .inl,fun q hq=>Xz (g3 q hq) hf.size,g1,h⟩
 rw [lL Z hi] at h2;exact h2
theorem iE {u:Operand}{a:α}{b:β}{kv:List (α×β)}(i:Nat)(hi:L[i]? =some (ax ek ev m kv))(hx:be s x=some (.map (some m)))(hy:be s y=some (ek a))(hu:be s u=some (ev b))(ht:P.underlying t=some (.map kt et))(hk:KeyOk P kt ek):OpX P s L ⟨d,.mapUpdate t x y u,ty,pos,af,gd⟩ fun _ L'=>L'=L.set i (ax ek ev m (wT kv a b)):=fun ρ hρ Z w hw=>by
 obtain ⟨T,S, -,hm⟩:=hw.get (aU hi);have hlt:=hm.lt;obtain ⟨es,clk,h1,h2,h3,h4⟩:=hm
 have hget:(getObj m).run P w=.ok (.map es clk) w:=by simp [getObj,Sem.run,h1]
 have hset: ∀o,(setObj m o).run P w=.ok () {w with heap:=w.heap.setIfInBounds m o}:=fun o=>by simp [setObj,Sem.run,h1]
 cases hf:fp a kv 0 with
 | none=>
  refine .inr (.inl ⟨{w with heap:=w.heap.setIfInBounds m (.map (es.push ⟨ek a,ev b,clk⟩) (clk+1))},_,?_,BK i hw hi (kv':=wT kv a b) ⟨es.push ⟨ek a,ev b,clk⟩,clk+1,by simp [hlt],?_,?_,?_⟩,J⟩)
  ·unfold execOp;simp only [hρ x _ hx,hρ y _ hy,hρ u _ hu,Instr.mapUpdate,XL,XR ht,XK,hget,hk.check,pm hk a w es.toList kv h2,hf,Option.map_none,hset];rfl
  ·simp [wT,hf,h2]
  ·simp only [Array.toList_push];rw [List.pairwise_append];exact ⟨h3,by simp,fun e he e' he'=>by simp only [Xf] at he';subst he';exact h4 e he⟩
  intro e he;simp only [Array.toList_push,W8,Xf] at he;rcases he with he|rfl
  ·have:=h4 e he;omega
  simp
 | some p=>
  obtain ⟨q,c⟩:=p;obtain ⟨-,hq⟩:=Ly a kv 0 q c hf;rw [Nat.sub_zero] at hq;have hil:q<kv.length:=(WQ.1 hq).1
  have hlen:es.size=kv.length:=by simpa using congrArg List.length h2
  have hei:q<es.size:=by omega
  have hkey:es[q].key=ek a:=by
   have h5:=congrArg (fun l=>l[q]?) h2;simp only [WR,hq,XG] at h5;simp [hei] at h5;exact h5.1
  refine .inr (.inl ⟨{w with heap:=w.heap.setIfInBounds m (.map (es.modify q fun e=>{e with key:=ek a,val:=ev b}) clk)},_,?_,BK i hw hi (kv':=wT kv a b) ⟨es.modify q fun e=>{e with key:=ek a,val:=ev b},clk,by simp [hlt],?_,?_,?_⟩,J⟩)
  ·unfold execOp
   have hst:(Instr.keyThatStays (ek a) (ek a)).run P w=.ok (ek a) w:=by unfold Instr.keyThatStays;rw [if_pos (hk.bits a)];rfl
   simp only [hρ x _ hx,hρ y _ hy,hρ u _ hu,Instr.mapUpdate,XL,XR ht,XK,hget,hk.check,pm hk a w es.toList kv h2,hf,XG,Wf hei,XF,hkey,hst,hset];rfl
  ·simp only [wT,hf,Array.toList_modify];apply WE;intro j;have h5:=congrArg (fun l=>l[j]?) h2;simp only [WR] at h5;simp only [WR,List.getElem?_modify,List.getElem?_set];by_cases e:q=j
   ·subst e;simp [hil,hei]
   simp [e];simpa using h5
  ·simp only [Array.toList_modify];rw [Xh] at h3⊢;intro j j' hj hj' hlt';simp only [List.length_modify] at hj hj';have:=h3 j j' hj hj' hlt';simp only [List.getElem_modify];split<;>split<;>exact this
  intro e he;simp only [Array.toList_modify] at he;obtain ⟨j,hj,rfl⟩:=WX he;simp only [List.length_modify] at hj;have:=h4 _ (XY hj);simp only [List.getElem_modify];split<;>exact this
theorem MB {a:α}{kv:List (α×β)}{t2:TypeId}(i:Nat)(hi:L[i]? =some (ax ek ev m kv))(hx:be s x=some (.map (some m)))(hy:be s y=some (ek a))(ht:P.underlying t=some (.map kt et))(hk:KeyOk P kt ek):OpX P s L ⟨d,.call ⟨.builtin .delete, #[x,y], #[t,t2]⟩,ty,pos,af,gd⟩ fun _ L'=>L'=L.set i (ax ek ev m (Dd kv a)):=fun ρ hρ Z w hw=>by
 have hw0:=hw;obtain ⟨T,S, -,hm⟩:=hw.get (aU hi);have hlt:=hm.lt;obtain ⟨es,clk,h1,h2,h3,h4⟩:=hm
 have hget:(getObj m).run P w=.ok (.map es clk) w:=by simp [getObj,Sem.run,h1]
 have hset: ∀o,(setObj m o).run P w=.ok () {w with heap:=w.heap.setIfInBounds m o}:=fun o=>by simp [setObj,Sem.run,h1]
 have hb:=fz (P:=P) (ρ:=ρ) (d:=d) (ty:=ty) (pos:=pos) (af:=af) (gd:=gd) (b:=.delete) (xs:=[x,y]) (ats:= #[t,t2]) (vs:=[.map (some m),ek a]) (by simp [hρ x _ hx,hρ y _ hy]) w
 cases hf:fp a kv 0 with
 |none=>
  refine .inl ⟨.tuple #[],{w with heap:=w.heap.setIfInBounds m (.map es clk)},_,?_,BK i hw0 hi (kv':=Dd kv a) ⟨es,clk,by simp [hlt],by simp [Dd,hf,h2],h3,h4⟩,J⟩;rw [hb];simp only [builtin,Builtin.delete_,XL,WV,WM,WL,XR ht,XK,hget,hk.check,pm hk a w es.toList kv h2,hf,Option.map_none,hset];rfl
 | some p=>
  obtain ⟨q,c⟩:=p
  have hlen:es.size=kv.length:=by simpa using congrArg List.length h2
  refine .inl ⟨.tuple #[],{w with heap:=w.heap.setIfInBounds m (.map (es.eraseIdxIfInBounds q) clk)},_,?_,BK i hw0 hi (kv':=Dd kv a) ⟨es.eraseIdxIfInBounds q,clk,by simp [hlt],?_,?_,?_⟩,J⟩
  ·rw [hb];simp only [builtin,Builtin.delete_,XL,WV,WM,WL,XR ht,XK,hget,hk.check,pm hk a w es.toList kv h2,hf,XG,hset];rfl
  ·have e1:(es.eraseIdxIfInBounds q).toList=es.toList.eraseIdx q:=by simp [Array.eraseIdxIfInBounds];split<;>simp_all [List.eraseIdx_of_length_le]
   rw [e1];simp only [Dd,hf];have h5:=congrArg (fun l=>List.eraseIdx l q) h2;simp only [Dc] at h5;exact h5
  ·have e1:(es.eraseIdxIfInBounds q).toList=es.toList.eraseIdx q:=by simp [Array.eraseIdxIfInBounds];split<;>simp_all [List.eraseIdx_of_length_le]
   rw [e1];exact h3.sublist (List.eraseIdx_sublist ..)
  have e1:(es.eraseIdxIfInBounds q).toList=es.toList.eraseIdx q:=by simp [Array.eraseIdxIfInBounds];split<;>simp_all [List.eraseIdx_of_length_le]
  rw [e1]
  exact fun e he=>h4 e (List.mem_of_mem_eraseIdx he)
omit [DecidableEq α] in
theorem Oa {kv:List (α×β)}{q:TypeDesc}(i:Nat)(hi:L[i]? =some (ax ek ev m kv))(hx:be s x=some (.map (some m)))(ht:P.underlying t=some q):OpX P s L ⟨d,.call ⟨.builtin .clear, #[x], #[t]⟩,ty,pos,af,gd⟩ fun _ L'=>L'=L.set i (ax ek ev m ([]:List (α×β))):=fun ρ hρ Z w hw=>by
 have hw0:=hw;obtain ⟨T,S, -,hm⟩:=hw.get (aU hi);have hlt:=hm.lt;obtain ⟨es,clk,h1,h2,h3,h4⟩:=hm
 have hget:(getObj m).run P w=.ok (.map es clk) w:=by simp [getObj,Sem.run,h1]
 have hset: ∀o,(setObj m o).run P w=.ok () {w with heap:=w.heap.setIfInBounds m o}:=fun o=>by simp [setObj,Sem.run,h1]
 refine .inl ⟨.tuple #[],{w with heap:=w.heap.setIfInBounds m (.map #[] clk)},_,?_,BK i hw0 hi (kv':=[]) ⟨#[],clk,by simp [hlt],by simp,by simp,by simp⟩,J⟩;rw [fz (P:=P) (ρ:=ρ) (xs:=[x]) (vs:=[.map (some m)]) (by simp [hρ x _ hx]) w];simp only [builtin,Builtin.clear_,XL,WV,WM,XR ht,XK];cases q<;>simp [hget,hset]
omit [DecidableEq α] in
theorem ug:OpX P s L ⟨d,.makeMap t none,ty,pos,af,gd⟩ fun u L'=> ∃m,u=.map (some m)/\L'=ax ek ev m ([]:List (α×β))::L:=fun ρ hρ Z w hw=>by
 refine .inl ⟨.map (some w.heap.size),w.alloc (.map #[] 0),ax ek ev w.heap.size []::L,J,SepL.new hw (Agr.of_ext ((Ext.refl w).alloc _)) fun _ S _=>⟨(· =w.heap.size),fun q hq=>by subst hq;simp,rfl, #[],0,heap_alloc_new w _,by simp,by simp,by simp⟩,_,J,J⟩
theorem Ni {u:TypeId}(hx:be s x=some (.map (some m)))(ht:P.underlying t=some (.map kt et)):Ev P s C ⟨d,.binOp .eql t x (.const (.map none)) u,ty,pos,af,gd⟩ (.bool false):=
 fD hx rfl fun w=>by
  rw [XL];show (binOp .eql t (.map (some m)) (.map none)).run P w=_;simp only [binOp,XL,Kb ht m w,XK];rfl
end
end
section
open Go.RowKit
def K1 (P:Program)(v:Value)(G:Wa)(en:α->Wb)(ev:β->Value)(φ:α->Option β):Prop:=
 (∀c∈G,c.ro=true)/\ ∃f bs caps,v=.func (.func f) bs caps/\qn P f/\ ∀x r,φ x=some r->Okc P f (bs.toList++(en x++caps.toList)) G fun u post=>u=ev r/\post=[]
theorem yZ {d:Option Nat}{w:World}{vs:Wb}{bs caps:Array Value}(hf:qn P f)(hv:xs.map ρ=vs)(hρ:ρ x=.func (.func f) bs caps):
  (execOp ρ ⟨d,.call ⟨.value x,xs.toArray,ats⟩,ty,pos,af,gd⟩).run P w=.ok (.enter f (bs.toList++(vs++caps.toList)).toArray) w:=by
 unfold execOp;simp only [resolve,hρ,Deferred.ofValue,W7,hv];obtain ⟨fn,hf,hb,hn⟩:=hf
 have hn': ¬fn.name= "runtime.NumGoroutine" :=by simpa using hn
 have hb': ¬fn.body=none:=by intro h;rw [h] at hb;cases hb
 simp [invoke,callFunc,hf,hb',hn',XL]
theorem O8 (E G Z:Wa):Cv (E++(G++Z)) (G++(E++Z)):=fun Z2 w h=>by
 refine SepL.pick (L:=(E++(G++Z))++Z2) h (fun j=>if j<G.length then j+E.length else if j<G.length+E.length then j - G.length else j) ?_ ?_
 ·intro j c hj;simp only [V3] at hj⊢;by_cases h1:j<G.length
  ·rw [WJ h1] at hj;simp only [h1,if_true];rw [WK U,Nat.add_sub_cancel,WJ h1];exact hj
  simp only [h1,if_false];rw [WK U] at hj;by_cases h2:j<G.length+E.length
  ·simp only [h2,if_true];rw [WJ U] at hj;rw [WJ U];exact hj
  simp only [h2,if_false];rw [WK U] at hj;rw [WK U,WK U];rw [show j - E.length - G.length=j - G.length - E.length by omega];exact hj
 intro i j _ _ e;split at e<;>split at e<;>(try split at e)<;>(try split at e)<;>omega
section
variable {s:bA}{d:Option Nat}
theorem Qj {L:Wa}{c:Chunk}(h:c∈L)(hc:c.ro=true):wP L c:=by
 obtain ⟨i,hi⟩:=List.getElem?_of_mem h;exact jU hi hc
theorem C1 {E G:Wa}(hG:∀c∈G,c.ro=true): ∀c∈G,wP (E++G) c:=fun c hc=>Qj (V5 _ hc) (hG c hc)
theorem Q7 {L:Wa}(ix:List Nat)(k:Nat)(hk:Gg ix k=true)(hl:Nat.ble k L.length=true):Cv L (ix.filterMap fun i=>L[i]?):=(yC ix k hk hl).trans fun Z w h=>by
 unfold DT at h;refine SepL.pick (L':=(ix.filterMap fun i=>L[i]?)++Z) h (fun j=>if j<(ix.filterMap fun i=>L[i]?).length then j else j+(L.drop k).length) ?_ ?_
 ·intro j c hj;by_cases hlt:j<(ix.filterMap fun i=>L[i]?).length
  ·simp only [hlt,if_true];rw [WJ hlt] at hj;rw [V3,WJ hlt];exact hj
  simp only [hlt,if_false];rw [WK U] at hj;rw [V3,WK U,WK U];rw [show j+(L.drop k).length - (ix.filterMap fun i=>L[i]?).length - (L.drop k).length=j - (ix.filterMap fun i=>L[i]?).length by omega];exact hj
 intro i j _ _ e;split at e<;>split at e<;>omega
def vc {σ:Type}(P:Program)(l:Nat)(G:σ->Wa)(en:α->Wb)(φ:α->σ->Option (Bool×σ)):Prop:=
 ∀x σ₁ b σ₂,φ x σ₁=some (b,σ₂)-> ∀Z w,Sp Z (G σ₁) w-> ∃fn tmps assign body,(Instr.yield l (en x).toArray).run P w=.ok (.round l fn tmps assign body) w/\RoundIn Fence.wide 0 P l fn tmps assign body w fun e w'=>e=.returned (.bool b)/\Sp Z (G σ₂) w'
theorem N6 {σ:Type}{l:Nat}{G:σ->Wa}{E Z:Wa}{en:α->Wb}{φ:α->σ->Option (Bool×σ)}{a:α}{σ₁:σ}{y:Bool×σ}(hY:vc P l G en φ)(hr:φ a σ₁=some y)(hx:be s x=some (.func (.yield l) #[] #[]))(hv:DE s xs=some (en a)):OpX P s (E++(G σ₁++Z)) ⟨d,.call ⟨.value x,xs.toArray,ats⟩,ty,pos,af,gd⟩ fun u L'=>u=.bool y.1/\L'=E++(G y.2++Z):=fun ρ hρ Z2 w hw=>by
 obtain ⟨b,σ₂⟩:=y
 have h1:Sp ((E++Z)++Z2) (G σ₁) w:=by have:=O8 E (G σ₁) Z _ _ hw;unfold Sp at*;simpa only [V3] using this
 obtain ⟨fn,tmps,assign,body,h2,h3⟩:=hY a σ₁ b σ₂ hr _ w h1;refine .inr (.inr (.inr ⟨l,fn,tmps,assign,body,?_,?_⟩))
 ·unfold execOp;simp only [resolve,hρ x _ hx,Deferred.ofValue,W7,nL hρ hv];simp only [invoke,XL,XM,XK];simpa using h2
 refine h3.mono ?_;rintro e w' ⟨rfl,h4⟩;refine ⟨_,_,J,?_,J,J⟩
 have h5:Sp Z2 (G σ₂++(E++Z)) w':=by unfold Sp at*;simpa only [V3] using h4
 exact O8 (G σ₂) E Z _ _ h5
end
section
variable {s:bA}{d:Option Nat}
theorem E5 {G:Wa}(E:Wa){en:α->Wb}{ev:β->Value}{φ:α->Option β}{a:α}{r:β}(hφ:K1 P v G en ev φ)(hr:φ a=some r)(hx:be s x=some v)(hv:DE s xs=some (en a)):OpX P s (E++G) ⟨d,.call ⟨.value x,xs.toArray,ats⟩,ty,pos,af,gd⟩ fun u L'=>u=ev r/\L'=E++G:=fun ρ hρ Z w hw=>by
 obtain ⟨hG,f,bs,caps,rfl,hf,hok⟩:=hφ;refine .inr (.inr (.inl ⟨f,_,yZ hf (nL hρ hv) (hρ _ _ hx),?_⟩));refine (Fa (hok a r hr) (C1 hG) (by rintro _ _ ⟨-,rfl⟩;exact aR) Z w hw).mono ?_;rintro e w' ⟨u,post,rfl,h2,rfl,rfl⟩;exact ⟨_,_,J,h2,J,J⟩
theorem zh {σ:Type}{l:Nat}{G:σ->Wa}(E:Wa){en:α->Wb}{φ:α->σ->Option (Bool×σ)}{a:α}{σ₁:σ}{y:Bool×σ}(hY:vc P l G en φ)(hr:φ a σ₁=some y)(hx:be s x=some (.func (.yield l) #[] #[]))(hv:DE s xs=some (en a)):OpX P s (E++G σ₁) ⟨d,.call ⟨.value x,xs.toArray,ats⟩,ty,pos,af,gd⟩ fun u L'=>u=.bool y.1/\L'=E++G y.2:=by
 have h:=N6 (d:=d) (ty:=ty) (pos:=pos) (af:=af) (gd:=gd) (E:=E) (Z:=[]) (ats:=ats) hY hr hx hv;simpa using h
theorem eB {vs:Wb}(hv:DE s caps=some vs):Ev P s C ⟨d,.makeFunc (.func f) #[] caps.toArray,ty,pos,af,gd⟩ (.func (.func f) #[] vs.toArray):=fun ρ hρ w _=>by
 unfold execOp;simp [nL hρ hv,Instr.makeFunc]
theorem Ci {bds:List Operand}{us vs:Wb}(hb:DE s bds=some us)(hv:DE s caps=some vs):Ev P s C ⟨d,.makeFunc (.func f) bds.toArray caps.toArray,ty,pos,af,gd⟩ (.func (.func f) us.toArray vs.toArray):=fun ρ hρ w _=>by
 unfold execOp;simp [nL hρ hb,nL hρ hv,Instr.makeFunc]
theorem H9 {u:TypeId}{yk:IntKind}{a b v:Int}(hx:be s x=some (.int k a))(hy:be s y=some (.int yk b))(hr:∀w,(Op.shift .shr k a yk b).run P w=.ok (.int k v) w):Ev P s C ⟨d,.binOp .shr t x y u,ty,pos,af,gd⟩ (.int k v):=fD hx hy fun w=>by rw [XL];exact hr w
end
theorem jz {L:Wa}{cs:Wb}(i:Nat)(hi:L[i]? =some (ae b t cs)):Cv L (L.set i (aB b t cs)):=fun Z w h=>by
 have h1:=SepL.frz h (aU hi) (d:=aB b t cs) fun T S ⟨h1,h2⟩=>⟨.inr h1,h2.r⟩
 rw [lL Z hi] at h1;exact h1
def lR (l:Nat)(r:Loop):Chunk where
 ok T _ w:=T l/\w.heap[l]? =some (.loop r)
 loc:=fun {T S w w'} h ⟨h1,h2⟩=>⟨h1,(h.block l (by rcases XA l w.heap.size with hl|hl;exact hl;rw [Wg hl] at h2;cases h2) (.inl h1)).trans h2⟩
 mono:=fun _ h=>h
 ro:=false
 dup:=fun h=>Bool.noConfusion h
theorem PR {l:Nat}{r r':Loop}{L:Wa}{w:World}(h:SepL L w)(hi:L[i]? =some (lR l r)):SepL (L.set i (lR l r')) (w.putObj l (.loop r')):=by
 obtain ⟨T,S,hT,hk⟩:=h.get hi;have hlt:l<w.heap.size:=(Array.getElem?_eq_some_iff.1 hk).1
 refine h.upd hi fun T S h2 h3 _ _=> ?_
 have hx:=grownBy_putObj' w l (.loop r');exact ⟨⟨hx.os,hx.tape,hx.output,hx.size,fun q hq hn=>hx.block q hq fun e=>hn (by cases e;exact h2.1)⟩,T,fun _=> .inl,fun q hq=>Xz (h3 q hq) hx.size,h2.1,World.putObj_heap_same hlt⟩
def wL:Exit->Option Code
 | .ret=>some .ret
 | .exit i=>some (.exit i)
 |_=>none
def RK (je:Option Exit)(L':Wa):K3:=fun e _ L=>((je=none/\e=.normal)\/(je=some e/\(wL e).isSome=true))/\Cv L L'
def cM {σ:Type}(φ:α->σ->Option (Option Exit×σ)):α->(Option Exit×σ)->Option (Bool×(Option Exit×σ)):=fun x s=>match s.1 with
 |none=>(φ x s.2).map fun r=>(r.1.isNone,r)
 |some _=>none
def Cl (ps:List Nat)(vs:Wb)(s:bA):bA:=(ps.zip vs).reverse++s
theorem H4 {X:Cx}{ds:List Deferred}: ∀(l:List (Nat×Value)) (s:bA) (t:Array Value),l.all (fun p=>Nat.ble (p.1+1) X.n)=true->Fx X s ⟨t,ds⟩->Fx X (l.reverse++s) ⟨l.foldl (fun t (p:Nat×Value)=>t.setIfInBounds p.1 p.2) t,ds⟩
 | [],s,t,_,h=>h
 |p::l,s,t,hl,h=>by
  simp only [List.all_cons,XW] at hl;have h1:=h.put p.2 (d:=p.1) (Xw hl.1);have h2:Fx X ((p.1,p.2)::s) ⟨t.setIfInBounds p.1 p.2,ds⟩:=⟨h1.size,h1.at_⟩;have h3:=H4 l _ _ hl.2 h2;simpa using h3
theorem PZ {L L':Wa}(h:L.Perm L'): ∃f:Nat->Nat,(∀(j:Nat) (c:Chunk),L'[j]? =some c->L[f j]? =some c)/\ ∀i j,i<L'.length->j<L'.length->f i=f j->i=j:=by
 induction h with
 |nil=>exact ⟨id,fun _ _ h=>h,fun _ _ _ _ h=>h⟩
 | cons c h ih=>
  obtain ⟨f,h1,h2⟩:=ih;refine ⟨fun j=>match j with|0=>0|j+1=>f j+1,?_,?_⟩
  ·intro j d hj
   cases j with
   |zero=>simpa using hj
   |succ j=>simp only [WL] at hj⊢;exact h1 j d hj
  intro i j hi hj e
  cases i with
  |zero=>cases j with
   |zero=>rfl
   |succ j=>simp at e
  |succ i=>cases j with
   |zero=>simp at e
   |succ j=>simp only [WY] at hi hj;simp only [Nat.add_right_cancel_iff] at e;rw [h2 i j U U e]
 | swap a b l=>
  refine ⟨fun j=>match j with|0=>1|1=>0|j+2=>j+2,?_,?_⟩
  ·intro j d hj
   match j with
   |0=>simpa using hj
   |1=>simpa using hj
   |j+2=>simpa using hj
  intro i j _ _ e
  match i,j with
  |0,0=>rfl
  |0,1=>simp at e
  |0,j+2=>simp at e
  |1,0=>simp at e
  |1,1=>rfl
  |1,j+2=>simp at e
  |i+2,0=>simp at e
  |i+2,1=>simp at e
  |i+2,j+2=>simp at e;omega
 |trans h1 h2 ih1 ih2=>
  obtain ⟨f,f1,f2⟩:=ih1;obtain ⟨g,g1,g2⟩:=ih2;refine ⟨fun j=>f (g j),fun j c hj=>f1 _ _ (g1 j c hj),fun i j hi hj e=> ?_⟩
  have hb: ∀k,k<_->g k<_:=fun k hk=>(WQ.1 (g1 k _ (WO hk))).1
  exact g2 i j hi hj (f2 _ _ (hb i hi) (hb j hj) e)
theorem SepL.perm {L L':Wa}{w:World}(h:SepL L w)(hp:L.Perm L'):SepL L' w:=by
 obtain ⟨f,h1,h2⟩:=PZ hp;exact h.pick f h1 h2
theorem SepL.dropL {A hU:Wa}{w:World}(h:SepL (A++hU) w):SepL hU w:=h.pick (fun j=>j+A.length) (fun j c hj=>by rw [WK U,Nat.add_sub_cancel];exact hj) (fun i j _ _ e=>by omega)
theorem zc {A Z:Wa}{l:Nat}{r r':Loop}{w:World}(h:SepL (A++(lR l r::Z)) w):SepL (A++(lR l r'::Z)) (w.putObj l (.loop r')):=by
 have h1:=PR (l:=l) (r:=r) (r':=r') (i:=A.length) h (by simp);simpa using h1
theorem uN {A Z:Wa}{l:Nat}{r:Loop}{w:World}(h:SepL (A++(lR l r::Z)) w):w.heap[l]? =some (.loop r):=by
 obtain ⟨T,S, -,hk⟩:=h.get (i:=A.length) (c:=lR l r) (by simp);exact hk
theorem Rq {σ:Type}{X:Cx}{K:K3}{s:bA}{g:Operand}{ps:List Nat}{assign body:Code}{gf:FuncId}{caps:Array Value}{en:α->Wb}(φ:α->σ->Option (Option Exit×σ))(E:σ->Wa)(pre:Wa)(σ₀:σ){je:Option Exit}{σr:σ}{L:Wa}(hr:X.r=none)(hg:be s g=some (.func (.func gf) #[] caps))(hf:qn X.P gf)(hps:ps.all (fun p=>Nat.ble (p+1) X.n)=true)(hen:∀x,(en x).length=ps.length)(hit:∀l (G:(Option Exit×σ)->Wa),vc X.P l G en (cM φ)->Okc X.P gf (.func (.yield l) #[] #[]::caps.toList) (pre++G (none,σ₀)) fun _ post=>post=G (je,σr))(hL:Cv L (pre++E σ₀))(hbody:∀l x σ₁ je' σ₂,φ x σ₁=some (je',σ₂)->Wq ⟨X.P,X.n,some l⟩ assign (nx (fun s1 L1=>Wq ⟨X.P,X.n,some l⟩ body (RK je' (E σ₂)) s1 L1) fun _ _ _=>False) (Cl ps (en x) s) (E σ₁))(hdone:je=none->K .normal s (E σr))(hleft:∀e,je=some e->(wL e).isSome=true/\K e s (E σr)):
  Wq X (.rangeFunc g ps.toArray assign body) K s L:=by
 intro H Ds a w ha hds hw;obtain ⟨P,n,r⟩:=X;simp only at hr hf hps hit hbody;subst hr;refine wpIn_rangeFunc ?_;intro fn hfn;have hev:a.eval g=.func (.func gf) #[] caps:=ha.eval hg
 obtain ⟨rec_,hrec⟩: ∃rec_:Option Exit->LoopState->Loop,rec_=fun j st=>{state:=st,pending:=j.bind wL,fn,tmps:=a.tmps,params:=ps.toArray,assign,body,defers:=w.heap.size}:=⟨_,rfl⟩
 obtain ⟨stOf,hst⟩: ∃stOf:Option Exit->LoopState,stOf=fun j=>if j.isNone then .ready else .done:=⟨_,rfl⟩
 obtain ⟨l,hl⟩: ∃l,l=w.heap.size+1:=⟨_,rfl⟩;obtain ⟨W1,hW1⟩: ∃W1,(w.alloc (.deferred (some []))).alloc (.loop (rec_ none .ready))=W1:=⟨_,rfl⟩
 have hY:vc P l (fun q=>lR l (rec_ q.1 (stOf q.1))::E q.2) en (cM φ):=by
  rintro x ⟨j₁,σ₁⟩ b ⟨j₂,σ₂⟩ hx Z w1 hw1;unfold cM at hx
  cases j₁ with
  |some e=>cases hx
  | none=>
   simp only at hx
   cases hφ:φ x σ₁ with
   |none=>rw [hφ] at hx;cases hx
   | some y=>
    rw [hφ] at hx;simp only [XG,XI,Prod.mk.injEq] at hx;obtain ⟨hb,hy⟩:=hx;subst hb hy
    have h0:SepL ([]++(lR l (rec_ none .ready)::(E σ₁++Z))) w1:=by
     have:stOf none=.ready:=by rw [hst];rfl
     simp only [this] at hw1;exact hw1
    have a8:=uN h0;have hy:=run_yield (P:=P) (args:=(en x).toArray) a8 (by rw [hrec];simp [hen x]);refine ⟨_,_,_,_,hy,roundIn_of_wpIn (F:=Fence.wide) trivial ?_⟩
    have hfx:Fx ⟨P,n,some l⟩ (Cl ps (en x) s) ⟨((rec_ none .ready).params.zip (en x).toArray).foldl (fun t (p:Nat×Value)=>t.setIfInBounds p.1 p.2) (rec_ none .ready).tmps,[]⟩:=by
     have h1:=H4 (X:=⟨P,n,some l⟩) (ds:=[]) (ps.zip (en x)) s a.tmps (by
      rw [Wu] at hps⊢;intro p hp
      exact hps p.1 (List.of_mem_zip hp).1) ⟨ha.size,ha.at_⟩
     have e:(((rec_ none .ready).params.zip (en x).toArray).foldl (fun t (p:Nat×Value)=>t.setIfInBounds p.1 p.2) (rec_ none .ready).tmps)=(ps.zip (en x)).foldl (fun t (p:Nat×Value)=>t.setIfInBounds p.1 p.2) a.tmps:=by
      rw [hrec];simp
     rw [e];exact h1
    have hsp:Sp (([]:List Nat).map cc++(lR l (rec_ none .ready)::Z)) (E σ₁) w1:=h0.perm (by simpa using Xj.symm);have hrun:=hbody l x σ₁ j₂ σ₂ hφ (lR l (rec_ none .ready)::Z) [] _ w1 hfx rfl hsp
    have hasg:(rec_ none .ready).assign=assign:=by rw [hrec]
    have hbdy:(rec_ none .ready).body=body:=by rw [hrec]
    rw [hasg,hbdy];refine wpIn_mono hrun ?_;rintro e a1 w2 ⟨s1,L1,Ds1,g1,g2,g3,g4⟩
    cases e with
    | normal=>
     have g3':SepL ((L1++Ds1.map cc)++(lR l (rec_ none .ready)::Z)) w2:=by unfold Sp at g3;simpa only [V3] using g3
     have b0:=uN g3';have hbusy:=zc (r':={rec_ none .ready with state:=.busy}) g3';refine ⟨_,run_beginRound b0 (by rw [hrec]),?_⟩
     have b5:Sp (Ds1.map cc++(lR l {rec_ none .ready with state:=.busy}::Z)) L1 (w2.putObj l (.loop {rec_ none .ready with state:=.busy})):=by unfold Sp;simpa only [V3] using hbusy
     refine wpIn_mono (g4 (lR l {rec_ none .ready with state:=.busy}::Z) Ds1 a1 _ g1 g2 b5) ?_;rintro e3 a3 w3 ⟨s3,L3,Ds3,k1,k2,k3,k4,k5⟩
     have k3':SepL ((L3++Ds3.map cc)++(lR l {rec_ none .ready with state:=.busy}::Z)) w3:=by unfold Sp at k3;simpa only [V3] using k3
     have b6:=uN k3'
     have fin: ∀(j:Option Exit) (jump:Option Code),jump=j.bind wL->jump.isNone=j.isNone->j₂=j-> ∃v w',(Instr.endRound l jump).run P w3=.ok v w'/\(Ending.returned v=.returned (.bool j₂.isNone)/\Sp Z (lR l (rec_ j₂ (stOf j₂))::E σ₂) w'):=by
      intro j jump hj1 hj2 hj3;subst hj3;refine ⟨_,_,run_endRound jump b6,by rw [hj2],?_⟩
      have e:({{rec_ none .ready with state:=.busy} with state:=if jump.isNone then LoopState.ready else LoopState.done,pending:=jump}:Loop)=rec_ j₂ (stOf j₂):=by
       rw [hrec,hst,hj2,hj1]
      rw [e];have h6:=zc (r':=rec_ j₂ (stOf j₂)) k3'
      have h7:SepL (L3++(lR l (rec_ j₂ (stOf j₂))::Z)) (w3.putObj l (.loop (rec_ j₂ (stOf j₂)))):=by
       have h8:SepL (Ds3.map cc++(L3++(lR l (rec_ j₂ (stOf j₂))::Z))) (w3.putObj l (.loop (rec_ j₂ (stOf j₂)))):=h6.perm (by
        rw [<-V3]
        exact List.Perm.append_right _ List.perm_append_comm)
       exact h8.dropL
      have h9:=k5 (lR l (rec_ j₂ (stOf j₂))::Z) _ h7;unfold Sp at h9⊢;exact h9.perm Xj
     rcases k4 with ⟨h10,rfl⟩|⟨h10,h11⟩
     ·exact fin none none J J h10
     cases e3 with
     |ret=>exact fin (some .ret) (some .ret) rfl rfl h10
     |exit i=>exact fin (some (.exit i)) (some (.exit i)) rfl rfl h10
     |_=>cases h11
    |_=>exact g4.elim
 have hdeep:SepL (lR l (rec_ none .ready)::cc w.heap.size::((pre++E σ₀)++(Ds.map cc++H))) W1:=by
  have h1:SepL ((pre++E σ₀)++(Ds.map cc++H)) w:=hL _ _ hw
  have h2:SepL (cc w.heap.size::((pre++E σ₀)++(Ds.map cc++H))) (w.alloc (.deferred (some []))):=h1.new (Agr.of_ext ((Ext.refl w).alloc _)) fun _ S _=>⟨(· =w.heap.size),fun q hq=>by subst hq;simp,rfl,World.alloc_heap_new w _⟩
  rw [<-hW1]
  refine h2.new (Agr.of_ext ((Ext.refl _).alloc _)) fun _ S _=>⟨(· =l),fun q hq=>by subst hq;rw [hl];simp,rfl,?_⟩
  have:=World.alloc_heap_new (w.alloc (.deferred (some []))) (.loop (rec_ none .ready));rw [World.size_alloc] at this;rw [hl];exact this
 have hstn:stOf none=.ready:=by rw [hst];rfl
 have hstart:Sp (cc w.heap.size::(Ds.map cc++H)) (pre++(lR l (rec_ none (stOf none))::E σ₀)) W1:=by
  rw [hstn];refine hdeep.perm ?_;refine (List.Perm.swap _ _ _).trans ?_;refine List.Perm.trans ?_ Xj.symm;refine List.Perm.cons _ ?_;rw [<-Wy];exact List.Perm.append_right _ Xj.symm
 obtain ⟨fnc,hfn1,a6,hn1⟩:=hf
 have hn': ¬fnc.name= "runtime.NumGoroutine" :=by simpa using hn1
 have hb': ¬fnc.body=none:=by intro h;rw [h] at a6;cases a6
 refine ⟨l,[{target:=.collected w.heap.size,args:= #[]}],W1,{target:=.fn (.func gf) caps,args:= #[.func (.yield l) #[] #[]]},W1,gf,(.func (.yield l) #[] #[]::caps.toList).toArray,W1,?_,?_,fun _ _=>trivial,?_,(by intro h;cases h),?_⟩
 ·rw [<-hW1,hl,hrec];exact run_enterLoop_outer _ _ _ _ _
 ·simp only [resolve,hev];simp [Deferred.ofValue,Act.eval]
 ·simp [invoke,callFunc,hfn1,hb',hn',XL]
 have h1:=(hit l _ hY).run _ W1 hstart;refine (callsIn_wide.2 h1:CallsIn Fence.wide (0 - 1) P gf _ W1 _).mono ?_;rintro e w3 ⟨v,post,rfl,h2,rfl⟩;have h2':SepL ([]++(lR l (rec_ je (stOf je))::(E σr++(cc w.heap.size::(Ds.map cc++H))))) w3:=h2;have hk:=uN h2';refine ⟨_,_,run_endLoop hk (by rw [hrec,hst];cases je<;>simp),?_⟩;have h3:=zc (r':={rec_ je (stOf je) with state:=.exhausted}) h2';generalize w3.putObj l (.loop {rec_ je (stOf je) with state:=.exhausted})=w4 at h3⊢
 have h4:Sp ((w.heap.size::Ds).map cc++H) (E σr) w4:=by
  have h5:SepL ([lR l {rec_ je (stOf je) with state:=.exhausted}]++(E σr++(cc w.heap.size::(Ds.map cc++H)))) _:=h3;have h6:=h5.dropL;unfold Sp;simpa using h6
 have hfin: ∀e,K e s (E σr)->yP ⟨P,n,none⟩ H K e {a with defers:=[{target:=.collected w.heap.size,args:= #[]}]++a.defers} w4:=fun e he=>⟨s,E σr,w.heap.size::Ds,⟨ha.size,ha.at_⟩,by simp [hds,xb],h4,he⟩
 cases hje:je with
 |none=>
  have:(rec_ je (stOf je)).pending=none:=by rw [hrec,hje];rfl
  rw [<-hje,this];exact hfin .normal (hdone hje)
 |some e=>
  obtain ⟨h7,h8⟩:=hleft e hje
  have:(rec_ je (stOf je)).pending=wL e:=by rw [hrec,hje];rfl
  rw [<-hje,this]
  cases e with
  |ret=>exact wpIn_ret (hfin .ret h8)
  |exit i=>exact wpIn_exit (hfin (.exit i) h8)
  |_=>cases h7
end
section
open Go.RowKit
def dO (Q:ι->Wa):Chunk where
 ok T S w:= ∃(x:ι) (T':Nat->Nat->Prop),(∀(i:Nat) (c:Chunk),(Q x)[i]? =some c->c.ok (T' i) S w)/\(∀(i j q:Nat),i≠j->T' i q->T' j q->False)/\ ∀(i q:Nat),T' i q->T q
 loc:=fun h ⟨x,T',h1,h2,h3⟩=>⟨x,T',fun i c hi=>c.loc (h.mono fun q hq=>hq.imp (h3 i q) id) (h1 i c hi),h2,h3⟩
 mono:=fun h ⟨x,T',h1,h2,h3⟩=>⟨x,T',fun i c hi=>c.mono h (h1 i c hi),h2,h3⟩
 ro:=false
 dup:=fun h=>Bool.noConfusion h
theorem BZ {cs:Wb}:mT (ae b t cs):=fun _ _ _ _ h=>h
theorem Okc.mono {args:Wb}{L:Wa}{R R':Value->Wa->Prop}(h:Okc P f args L R)(hr:∀v post,R v post->R' v post):Okc P f args L R':=⟨h.cal,fun Z w hw=>(h.run Z w hw).mono fun e w' ⟨v,post,h1,h2,h3⟩=>⟨v,post,h1,h2,hr _ _ h3⟩⟩
theorem Ha {R:Rep α}{L Z:Wa}{w:World}{c:Nat}{xs:List α}(hw:Sp Z L w)(hi:L[i]? =some (iD R (.slice A n c) xs)){l:Nat}(h1:l<=h)(h2:h<=xs.length):Sp Z (iD R (.slice (mu A c l R.sz) (h - l) (c - l)) ((xs.drop l).take (h - l))::L) w:=by
 obtain ⟨T,S,hT⟩:=hw;have hs1:SlR R S w (.slice A n c) xs:=hT.ok (aU hi);obtain ⟨T',h'⟩:=SepL.facts [iD R (.slice (mu A c l R.sz) (h - l) (c - l)) ((xs.drop l).take (h - l))] hT (fun c hc=>by simp only [Xf] at hc;subst hc;exact hs1.cut l h h1 h2);exact ⟨T',S,h'⟩
theorem RM {R:Rep α}{X:Cx}{K:K3}{s:bA}{L:Wa}{ol:List Oper}{c:Nat}{xs:List α}(i:Nat)(hi:L[i]? =some (iD R (.slice A n c) xs)){l:Nat}(h1:l<=h)(h2:h<=xs.length)(k:∀A' n' c',A'=mu A c l R.sz/\n'=h - l/\c'=c - l->aY X ops ol K s (iD R (.slice A' n' c') ((xs.drop l).take (h - l))::L)):aY X ops ol K s L:=fun H Ds a w ha hd hw=>k _ _ _ ⟨rfl,rfl,rfl⟩ H Ds a w ha hd (Ha hw hi h1 h2)
theorem Dk {R:Rep α}{X:Cx}{K:K3}{M:Wa}{s:bA}{L:Wa}{c:Nat}{xs:List α}(i:Nat)(hi:L[i]? =some (iD R (.slice A n c) xs)){l:Nat}(h1:l<=h)(h2:h<=xs.length)(k:∀A' n' c',A'=mu A c l R.sz/\n'=h - l/\c'=c - l->mR X ops K (iD R (.slice A' n' c') ((xs.drop l).take (h - l))::M) fuel listed s (iD R (.slice A' n' c') ((xs.drop l).take (h - l))::L)):mR X ops K M fuel listed s L:=fun hc H Ds a w ha hd hw=>by
 have h3:=k _ _ _ ⟨rfl,rfl,rfl⟩ (mM _ hc) H Ds a w ha hd (Ha hw hi h1 h2);exact Cy (fun w ⟨Z,hZ⟩=>⟨Z,cv_tl _ _ hZ⟩) _ _ _ _ h3
section
variable {s:bA}{L:Wa}{d:Option Nat}
theorem NU {R:Rep α}{t e sz:Nat}{A':Option Addr}{c n' c':Nat}{xs:List α}{l:Nat}(i:Nat)(hL:L[i]? =some (iD R (.slice A n c) xs))(he:A'=mu A c l R.sz/\n'=h - l/\c'=c - l)(hx:be s x=some (.slice A n c))(hu:P.underlying t=some (.slice e))(hs:kP P e sz=true)(hsz:R.sz=sz)(hl:match lo with|none=>l=0|some o=>be s o=some (.int .i64 (l:Int)))(hh:be s y=some (.int .i64 (h:Int)))(h1:l<=h)(h2:h<=xs.length):Rd P s L ⟨d,.slice t x lo (some y) none,ty,pos,af,gd⟩ (.slice A' n' c'):=fun Z w hw=>by
 obtain ⟨rfl,rfl,rfl⟩:=he;subst hsz;obtain ⟨T,S,A2,c2,e2,g1, -⟩:=hw.get (aU hL)
 injection e2 with q1 q2 q3
 subst q1 q2 q3;exact rT (hi:=some y) hx hu hs hl hh h1 U
theorem zd {R:Rep α}{t e sz:Nat}{A':Option Addr}{c n' c':Nat}{xs:List α}{l:Nat}(i:Nat)(hL:L[i]? =some (iD R (.slice A n c) xs))(he:A'=mu A c l R.sz/\n'=xs.length - l/\c'=c - l)(hx:be s x=some (.slice A n c))(hu:P.underlying t=some (.slice e))(hs:kP P e sz=true)(hsz:R.sz=sz)(hl:match lo with|none=>l=0|some o=>be s o=some (.int .i64 (l:Int)))(h1:l<=xs.length):Rd P s L ⟨d,.slice t x lo none none,ty,pos,af,gd⟩ (.slice A' n' c'):=fun Z w hw=>by
 obtain ⟨rfl,rfl,rfl⟩:=he;subst hsz;obtain ⟨T,S,A2,c2,e2,g1, -⟩:=hw.get (aU hL)
 injection e2 with q1 q2 q3
 subst q1 q2 q3;exact rT (hi:=none) hx hu hs hl J h1 U
end
theorem kK {Q:ι->Wa}{L Z:Wa}{w:World}(h:Sp Z (dO Q::L) w): ∃x,Sp Z (Q x++L) w:=by
 obtain ⟨T,S,h⟩:=h;obtain ⟨x,T',h1,h2,h3⟩:=h.ok (i:=0) (c:=dO Q) rfl;refine ⟨x,fun i=>if i<(Q x).length then T' i else T (i - (Q x).length+1),S,?_,?_,?_,?_,h.lts⟩
 ·intro i c hi;rw [V3] at hi;by_cases hlt:i<(Q x).length
  ·rw [WJ hlt] at hi;simp only [hlt,if_true];exact h1 i c hi
  rw [WK U] at hi;simp only [hlt,if_false];exact h.ok (i:=i - (Q x).length+1) (by simpa using hi)
 ·intro i j q hij h4 h5;by_cases e1:i<(Q x).length<;>by_cases e2:j<(Q x).length
  ·simp only [e1,e2,if_true] at h4 h5;exact h2 i j q hij h4 h5
  ·simp only [e1,e2,if_true,if_false] at h4 h5;exact h.apart (i:=0) U (h3 i q h4) h5
  ·simp only [e1,e2,if_true,if_false] at h4 h5;exact h.apart (i:=0) U (h3 j q h5) h4
  simp only [e1,e2,if_false] at h4 h5;exact h.apart U h4 h5
 ·intro i q h4 h5;by_cases e1:i<(Q x).length
  ·simp only [e1,if_true] at h4;exact h.ro (h3 i q h4) h5
  simp only [e1,if_false] at h4;exact h.ro h4 h5
 intro i q h4;by_cases e1:i<(Q x).length
 ·simp only [e1,if_true] at h4;exact h.lt (h3 i q h4)
 simp only [e1,if_false] at h4;exact h.lt h4
theorem fb {Q:ι->Wa}{L:Wa}(x:ι):Cv (Q x++L) (dO Q::L):=fun Z w h=>by
 obtain ⟨T,S,h⟩:=h;refine ⟨fun i=>match i with|0=>fun q=> ∃j,j<(Q x).length/\T j q|i+1=>T (i+(Q x).length),S,?_,?_,?_,?_,h.lts⟩
 ·intro i c hi
  cases i with
  |zero=>
   simp only [Wy,WM,XI] at hi;subst hi;refine ⟨x,fun j q=>j<(Q x).length/\T j q,fun j c hj=> ?_,fun i j q hij h1 h2=>h.apart hij h1.2 h2.2,fun j q hq=>⟨j,hq⟩⟩;have hlt:=(WQ.1 hj).1
   have e:(fun q=>j<(Q x).length/\T j q)=T j:=by funext q;simp [hlt]
   show c.ok (fun q=>j<(Q x).length/\T j q) S w;rw [e];exact h.ok (by rw [V3,WJ hlt];exact hj)
  |succ i=>
   simp only [Wy,WL] at hi;exact h.ok (by rw [V3,WK U,Nat.add_sub_cancel];exact hi)
 ·intro i j q hij h1 h2
  cases i with
  |zero=>cases j with
   |zero=>exact hij rfl
   |succ j=>obtain ⟨k,hk,h3⟩:=h1;exact h.apart U h3 h2
  |succ i=>cases j with
   |zero=>obtain ⟨k,hk,h3⟩:=h2;exact h.apart U h3 h1
   |succ j=>exact h.apart U h1 h2
 ·intro i q h1 h2
  cases i with
  |zero=>obtain ⟨k,hk,h3⟩:=h1;exact h.ro h3 h2
  |succ i=>exact h.ro h1 h2
 intro i q h1
 cases i with
 |zero=>obtain ⟨k,hk,h3⟩:=h1;exact h.lt h3
 |succ i=>exact h.lt h1
theorem gL {Q:ι->Wa}{L:Wa}(x:ι)(h:L=Q x):Cv L [dO Q]:=fun Z w hw=>by
 subst h;have:=fb (Q:=Q) (L:=[]) x Z w (by simpa using hw);exact this
theorem PA {Q:ι->Wa}{X:Cx}{K:K3}{s:bA}(h:∀x,Wq X c K s (Q x)):Wq X c K s [dO Q]:=fun H Ds a w ha hd hw=>by
 obtain ⟨x,hx⟩:=kK hw;exact h x H Ds a w ha hd (by simpa using hx)
end
section
open Go.RowKit Go.ChangeShapes Go.WideShapes Go.Deep
theorem Gc {w:World}{a:Addr}(h:w.cell? a=some v):a=⟨a.block,a.off,none⟩:=by
 obtain ⟨b,o,sp⟩:=a
 cases sp with
 |none=>rfl
 |some s=>
  exfalso;unfold World.cell? at h;split at h<;>simp at h
theorem Hk (b o n:Nat):(⟨b,o,none⟩:Addr).add n=⟨b,o+n,none⟩:=by unfold Addr.add;split<;>simp_all
end
section
open Go.RowKit Go.ChangeShapes Go.WideShapes Go.Deep
def Rdr (P:Program)(t:TypeId)(R:Rep α)(wf:α->Prop):Prop:= ∀{H:Type} {enc:TypeId×Value->H} {w:World} {base:Nat} {spare:Nat->Bool} {held:Bool} {n:Nat} {cs:Wb} {y:DataW H×List MemPlace},DataW.trod enc P w base spare held n t cs=some y-> ∃a,R.rel (fun q=>q<w.heap.size) w cs a/\wf a
theorem HZ {a:Int}(h:(Lit.int .i64 a).wf=true):in64 a:=by
 have e1:IntKind.i64.min= -9223372036854775808:=rfl;have e2:IntKind.i64.max=9223372036854775807:=rfl;unfold Lit.wf at h;simp only [e1,e2,XW,XO] at h;exact h
theorem ra (ht:P.underlying t=some (.int .i64)):Rdr P t (jM .i64) in64:=fun h=>by
 obtain ⟨a,r,hw⟩:=DataW.trod_int ht h;exact ⟨a,r,by first|exact HZ hw|exact HZ hw.1|exact HZ hw.2⟩
theorem NS (ht:P.underlying t=some .bool):Rdr P t SV (fun _=>True):=fun h=>by
 obtain ⟨a,r, -⟩:=DataW.trod_bool ht h;exact ⟨a,r,trivial⟩
theorem zN {R:Rep α}{w:World}{o:Nat}: ∀(k:Nat) (vss:List Wb) (xs:List α),All2 (R.rel S w) vss xs->(∀(i:Nat) (vs:Wb),vss[i]? =some vs->CellsAt w b (o+(k+i)*R.sz) vs)->CellsAt w b (o+k*R.sz) vss.flatten
 |_,_,_,.nil,_=>fun j u hj=>by simp at hj
 | k,_,_,.cons (a:=a) (l:=l) h1 h2,hc=>fun j u hj=>by
  rw [WI] at hj;by_cases hlt:j<a.length
  ·rw [WJ hlt] at hj;have:=hc 0 a rfl j u hj;simpa using this
  rw [WK U] at hj;have h3:=zN (k+1) _ _ h2 (fun i vs hi=>by have:=hc (i+1) vs (by simpa using hi);rwa [show k+1+i=k+(i+1) by omega]);have h4:=h3 _ _ hj;rw [R.len h1] at h4 hlt;rw [show o+k*R.sz+j=o+(k+1)*R.sz+(j - R.sz) by rw [Xt];omega];exact h4
theorem Di {R:Wb->α->Prop}: ∀{n:Nat} (f:_root_.Fin n->Wb) (g:_root_.Fin n->α),(∀i,R (f i) (g i))->All2 R (List.ofFn f) (List.ofFn g)
 |0,_,_,_=>by simp;exact .nil
 |n+1,f,g,h=>by rw [List.ofFn_succ,List.ofFn_succ];exact .cons (h 0) (Di _ _ fun i=>h i.succ)
theorem J5 {w:World}{L:Wa}{c:Chunk}(h:∃T,SepT (L++ [Ge w]) T (fun q=>q<w.heap.size) w)(hc:c.ok (fun _=>False) (fun q=>q<w.heap.size) w): ∃T,SepT ((c::L)++ [Ge w]) T (fun q=>q<w.heap.size) w:=by
 obtain ⟨T,h⟩:=h;obtain ⟨T',h'⟩:=SepL.facts [c] h (t9 hc aR);exact ⟨T',h'⟩
theorem Mc (w:World): ∃T,SepT ([]++ [Ge w]) T (fun q=>q<w.heap.size) w:=⟨fun _ _=>False,fun {i c} hi=>by
 cases i with
 |zero=>simp only [XX,WM,XI] at hi;subst hi;exact ⟨Ext.refl w,fun _ h=>h⟩
 |succ i=>simp at hi,fun _ h=>h.elim,fun h=>h.elim,fun h=>h.elim,fun h=>h⟩
theorem Ij {args:Wb}{L:Wa}{w:World}(h:Okc P f args L fun u post=>u=.bool true/\post=[])(hs:∃T,SepT (L++ [Ge w]) T (fun q=>q<w.heap.size) w):Calls P f args.toArray w fun e w'=>e=.returned (.bool true)/\Ext w w':=by
 obtain ⟨T,hT⟩:=hs;refine (h.run [Ge w] w ⟨T,_,hT⟩).mono ?_;rintro e w' ⟨u,post,rfl,h2,rfl,rfl⟩;obtain ⟨T2,S2,h3, -⟩:=SepL.get h2 (i:=0) (c:=Ge w) rfl;exact ⟨J,h3⟩
end
end Go.Proofs.YthhiddkljcacaaaGreat