/- Merged texts: part 2. No conditions of their own. -/
import Derived.Test.YtdcccmadhipinaaGreatG1
import Derived.Lib.AppendZeros
import Derived.LoopNIn
import Derived.KernelRfl
namespace Go.Proofs.YtdcccmadhipinaaGreat
section
open Go.RowKit
def o8 (p:Prop):Chunk where
 ok _ _ _:=p
 loc:=fun _ h=>h
 mono:=fun _ h=>h
 ro:=true
 dup:=fun _ _ _ _ h=>h
theorem qc {L Z:List Chunk}{w:World}{p:Prop}(h:Sp Z L w)(i:Nat)(hi:L[i]? =some (o8 p)):p:=by
 obtain ⟨T,S,h⟩:=h.get (bd hi);exact h
theorem nX {L:List Chunk}{p:Prop}(hp:p):Cv L (o8 p::L):=fun Z w h=>SepL.fact0 h fun _=>hp
inductive Rch (ops:Array Oper):Nat→Nat→Prop
 |one {j:Nat} {o:Oper} {e:Edge}:ops[j]? =some o→e∈o.after→Region.binds .any e=true→Rch ops j e.on
 |more {j k:Nat} {o:Oper} {e:Edge}:Rch ops j k→ops[k]? =some o→e∈o.after→Region.binds .any e=true→Rch ops j e.on
def ki (ops:Array Oper)(listed:Array Bool):Prop:= ∀k o e,listed.getD k false=true→ops[k]? =some o→e∈o.after→Region.binds .any e=true→listed.getD e.on false=true
theorem iF {ops:Array Oper}{listed:Array Bool}{j i:Nat}(hc:ki ops listed)(hr:j∈Region.ready .any ops listed)(h:Rch ops j i):listed.getD i false=true:=by
 induction h with
 |one ho he hb=>obtain ⟨_,o',ho',hall⟩:=mem_ready.1 hr;rw [ho] at ho';cases ho';exact hall _ he hb
 |more _ ho he hb ih=>exact hc _ _ _ ih ho he hb
theorem eU {listed:Array Bool}{i k:Nat}(h:(listed.setIfInBounds i true).getD k false=true):k=i∨listed.getD k false=true:=by
 by_cases e:i=k
 ·exact .inl e.symm
 rw [getD_set_ne false e] at h;exact .inr h
theorem ng {ops:Array Oper}{listed:Array Bool}{j:Nat}(hc:ki ops listed)(hr:j∈Region.ready .any ops listed):ki ops (listed.setIfInBounds j true):=by
 intro k o e hk ho he hb;rcases eU hk with e1|hk
 ·subst e1;obtain ⟨_,o',ho',hall⟩:=mem_ready.1 hr;rw [ho] at ho';cases ho';exact getD_set_true (hall _ he hb)
 exact getD_set_true (hc _ _ _ hk ho he hb)
def iZ (ops:Array Oper)(k:Nat):List Nat:=match ops[k]? with
 |some o=>(o.after.toList.filter (Region.binds .any)).map (·.on)
 |none=> []
def o1 (ops:Array Oper)(R:List Nat)(k:Nat):List Nat:=if R.contains k then iZ ops k++R else R
def ju (ops:Array Oper)(t:Nat):List Nat:=(List.range t).reverse.foldl (o1 ops) (iZ ops t)
theorem kB {ops:Array Oper}{k x:Nat}(h:x∈iZ ops k): ∃o e,ops[k]? =some o∧e∈o.after∧Region.binds .any e=true∧e.on=x:=by
 unfold iZ at h;split at h
 ·rename_i o ho
  obtain ⟨e,he,rfl⟩:=List.mem_map.1 h;obtain ⟨h1,h2⟩:=List.mem_filter.1 he;exact ⟨o,e,ho,by simpa using h1,h2,rfl⟩
 cases h
theorem gk {ops:Array Oper}{t:Nat}: ∀x∈ju ops t,Rch ops t x:=by
 unfold ju
 have key: ∀(l:List Nat) (R:List Nat),(∀x∈R,Rch ops t x)→ ∀x∈l.foldl (o1 ops) R,Rch ops t x:=by
  intro l
  induction l with
  |nil=>intro R h;exact h
  | cons k l ih=>
   intro R h
   refine ih _ fun x hx=> ?_
   unfold o1 at hx;split at hx
   ·rename_i hk
    rcases List.mem_append.1 hx with h1|h1
    ·obtain ⟨o,e,ho,he,hb,rfl⟩:=kB h1;exact .more (h k (by simpa using hk)) ho he hb
    exact h x h1
   exact h x hx
 refine key _ _ fun x hx=> ?_
 obtain ⟨o,e,ho,he,hb,rfl⟩:=kB hx;exact .one ho he hb
def OpAt (P:Program)(ρ:Operand→Value)(o:Oper)(R:Value→List Chunk→Prop)(Z:List Chunk)(w:World):Prop:=
  (∃v w' L',(execOp ρ o).run P w=.ok (.value v) w'∧Sp Z L' w'∧R v L')∨
  (∃w' L',(execOp ρ o).run P w=.ok .skip w'∧Sp Z L' w'∧R undef L')∨
  (∃f args,(execOp ρ o).run P w=.ok (.enter f args) w∧Calls P f args w fun e w'=> ∃v L',e=.returned v∧Sp Z L' w'∧R v L')∨
  (∃l f tmps assign body,(execOp ρ o).run P w=.ok (.round l f tmps assign body) w∧RoundIn Fence.wide 0 P l f tmps assign body w fun e w'=> ∃v L',e=.returned v∧Sp Z L' w'∧R v L')
def MS (P:Program)(ops:Array Oper)(s:aQ)(L:List Chunk)(o:Oper)(A:Value→List Chunk):Prop:= ∀Z w,Sp Z L w→(aM ops s o=some true∧ ∀ρ:Operand→Value,(∀x u,aY s x=some u→ρ x=u)→OpAt P ρ o (fun u L'=>Cv L' (A u++L)) Z w)∨(aM ops s o=some false∧Sp Z (A undef++L) w)
section
variable {P:Program} {ops:Array Oper} {s:aQ} {L:List Chunk} {o:Oper} {A:Value→List Chunk}
end
def mM (X:Cx)(ops:Array Oper)(K:K3)(fuel:Nat)(listed:Array Bool)(s:aQ)(L:List Chunk):Prop:= ∀(H:List Chunk) (Ds:List Nat) (a:Act) (w:World),Fx X s a→a.defers=Ds.map fU→Sp (Ds.map aU++H) L w→wpAnyIn (jZ X.r) 0 X.P .any ops (gH X H (iu K)) fuel listed a w
section
variable {X:Cx} {ops:Array Oper} {K:K3} {s:aQ} {L:List Chunk} {fuel:Nat} {listed:Array Bool} {d:Nat} {op:Op} {ty:TypeId} {pos:String} {af:Array Edge} {gd:Option (Nat×Bool)}
theorem mc (hr:Region.ready .any ops listed=[])(h:K .normal s L):mM X ops K fuel listed s L:=by
 intro H Ds a w ha hds hw;have hq:gH X H (iu K) .normal a w:=⟨s,L,Ds,ha,hds,hw,rfl,h⟩
 cases fuel with
 |zero=>exact ⟨hr,hq⟩
 |succ n=>exact ⟨fun _=>hq,by rw [hr];simp⟩
theorem mN {t:aQ}{L':List Chunk}(h:mM X ops K fuel listed t L')(hs:le s t)(hl:Cv L L'):mM X ops K fuel listed s L:=fun H Ds a w ha hds hw=>h H Ds a w (ha.sub hs) hds (hl _ _ hw)
theorem tj (i:Nat){o:Oper}{R:Value→List Chunk→Prop}(hi:ops[i]? =some o)(hr:Region.ready .any ops listed=[i])(h:OpX X.P s L o R)(hn:dh o=true)(hg:aM ops s o=some true)(hd:lp X.n o.dst=true)(k: ∀v L',R v L'→mM X ops K fuel (listed.setIfInBounds i true) (putE o.dst v s) L'):mM X ops K (fuel+1) listed s L:=
 fun H Ds a w ha hds hw=>⟨fun h=>absurd (hr.symm.trans h) (by simp),fun j hj=>by
  rw [hr,List.mem_singleton] at hj;subst hj;unfold wpOpIn;rw [hi];simp only [bP ha hg,if_true]
  exact h.wpIn hn ha hw fun v L' w' h1 h2=>k v L' h1 H Ds _ _ (ha.putE v hd) ((put_defers _ _ _).trans hds) h2⟩
theorem mO (i:Nat){R:Value→List Chunk→Prop}(hi:ops[i]? =some ⟨some d,op,ty,pos,af,gd⟩)(hr:Region.ready .any ops listed=[i])(h:OpX X.P s L ⟨some d,op,ty,pos,af,gd⟩ R)(hn:dh ⟨some d,op,ty,pos,af,gd⟩=true)(hg:aM ops s ⟨some d,op,ty,pos,af,gd⟩=some true)(hd:Nat.ble (d+1) X.n=true)(k: ∀v L',R v L'→mM X ops K fuel (listed.setIfInBounds i true) ((d,v)::s) L'):mM X ops K (fuel+1) listed s L:=tj i hi hr h hn hg hd k
theorem oh (i:Nat){R:Value→List Chunk→Prop}(hi:ops[i]? =some ⟨none,op,ty,pos,af,gd⟩)(hr:Region.ready .any ops listed=[i])(h:OpX X.P s L ⟨none,op,ty,pos,af,gd⟩ R)(hn:dh ⟨none,op,ty,pos,af,gd⟩=true)(hg:aM ops s ⟨none,op,ty,pos,af,gd⟩=some true)(k: ∀v L',R v L'→mM X ops K fuel (listed.setIfInBounds i true) s L'):mM X ops K (fuel+1) listed s L:=tj i hi hr h hn hg rfl k
theorem ma (i:Nat){v:Value}(hi:ops[i]? =some ⟨some d,op,ty,pos,af,gd⟩)(hr:Region.ready .any ops listed=[i])(h:Ev X.P s (fun _=>True) ⟨some d,op,ty,pos,af,gd⟩ v)(hn:dh ⟨some d,op,ty,pos,af,gd⟩=true)(hg:aM ops s ⟨some d,op,ty,pos,af,gd⟩=some true)(hd:Nat.ble (d+1) X.n=true)(k:mM X ops K fuel (listed.setIfInBounds i true) ((d,v)::s) L):mM X ops K (fuel+1) listed s L:=mO i hi hr (pe h) hn hg hd fun _ _ ⟨e1,e2⟩=>by subst e1 e2;exact k
end
def kW (m:Nat)(listed:Array Bool):List Nat:=(List.range m).filter fun i=>listed.getD i false
def sQ (ops:Array Oper)(m:Nat)(qs:List Nat)(ds:List Nat)(pr:List (List Nat))(s:aQ)(n:Nat):Bool:=
 Region.noSelect ops&&qs.all (fun q=>(match ops[q]? with|some o=>(List.range ops.size).all fun j=>Nat.beq j q||(iZ ops j).contains q||(ju ops q).contains j||(match ops[j]? with|some oj=>o.apart ops oj|none=>true)|none=>false))&&ph ops&&decide (m≤ops.size)&&decide (ds.length=m)&&decide ds.Nodup&&ds.all (fun d=>Nat.ble (d+1) n&&s.all fun p=> !Nat.beq p.1 d)
 &&(List.range m).all (fun i=>(match ops[i]? with|some o=>o.dst==ds[i]? |none=>false)&&(pr.getD i []).all (fun k=>(ju ops i).contains k&&Nat.blt k m)&&decide (pr.getD i []).Nodup&&(iZ ops i).all fun k=>Nat.blt k i)
 &&(List.range ops.size).all (fun t=>Nat.blt t m||(List.range m).all fun i=>qs.contains i||(ju ops t).contains i)
def kZ (ds:List Nat)(val:Nat→Value)(ix:List Nat)(s:aQ):aQ:=ix.map (fun i=>(ds.getD i 0,val i))++s
def jQ (As:List (Value→List Chunk))(val:Nat→Value)(ix:List Nat)(L:List Chunk):List Chunk:=(ix.flatMap fun i=>(As.getD i fun _=> []) (val i))++L
theorem i2: ∀(a b:aQ) (k:Nat) (v:Value),cy (a++b) k=some v→cy a k=some v∨(cy b k=some v)
 | [],_,_,_,h=> .inr h
 |(d,u)::a,b,k,v,h=>by
  rw [List.cons_append,cN] at h;rw [cN];split at h
  ·rename_i e;rw [if_pos e];exact .inl h
  rename_i e
  rw [if_neg e];exact i2 a b k v h
theorem fC: ∀(a:aQ) (k:Nat) (v:Value),cy a k=some v→(k,v)∈a
 | [],_,_,h=>by cases h
 |(d,u)::a,k,v,h=>by
  rw [cN] at h;split at h
  ·rename_i e;cases h;subst e;simp
  simp [fC a k v h]
theorem OpAt.wpIn {X:Cx}{o:Oper}{R:Value→List Chunk→Prop}{Z:List Chunk}{a:Act}{w:World}(h:OpAt X.P a.eval o R Z w)(hn:dh o=true)
  {K:Act→World→Prop} {Q:Exit→Act→World→Prop} (hK: ∀v L' w',R v L'→Sp Z L' w'→K (a.put o.dst v) w'):o.wpIn (jZ X.r) 0 X.P a w K Q:=by
 refine ⟨fun _ _=>trivial,?_⟩
 have e:o.semAt (jZ X.r).round a.eval=execOp a.eval o:=Oper.semAt_eq _ _ _ fun c hc=>by unfold dh at hn;rw [hc] at hn;cases hn
 rw [e];rcases h with ⟨v,w',L',h1,h2,h3⟩|⟨w',L',h1,h2,h3⟩|⟨f,args,h1,h2⟩|⟨l,f,tmps,assign,body,h1,h2⟩
 ·rw [h1];exact hK _ _ _ h3 h2
 ·rw [h1];exact hK _ _ _ h3 h2
 ·rw [h1];refine ⟨(by intro h;cases h),?_⟩;have h3:CallsIn (jZ X.r) (0 - 1) X.P f args w _:=callsIn_wide.2 h2;refine h3.mono ?_;rintro e w' ⟨v,L',rfl,h4,h5⟩;exact hK _ _ _ h5 h4
 rw [h1];refine ⟨(by intro h;cases h),?_⟩;have h3:RoundIn (jZ X.r) (0 - 1) X.P l f tmps assign body w _:=h2;refine h3.mono ?_;rintro e w' ⟨v,L',rfl,h4,h5⟩;exact hK _ _ _ h5 h4
theorem df: ∀(ix:List Nat) (l:Array Bool),(eO l ix).size=l.size
 | [],_=>rfl
 |i::ix,l=>by show (eO (l.setIfInBounds i true) ix).size=_;rw [df ix];simp
theorem iD: ∀(ix:List Nat) (l:Array Bool) (k:Nat),k<l.size→(eO l ix).getD k false=(l.getD k false||ix.contains k)
 | [],_,_,_=>by simp [eO]
 | i::ix,l,k,hk=>by
  show (eO (l.setIfInBounds i true) ix).getD k false=_;rw [iD ix _ k (by simpa using hk)];by_cases e:i=k
  ·subst e;simp [hk]
  rw [getD_set_ne false e];simp [show¬k=i from fun h=>e h.symm]
theorem dN {m:Nat}{listed:Array Bool}{i:Nat}:i∈kW m listed↔i<m∧listed.getD i false=true:=by unfold kW;simp
theorem lst_nodup {m:Nat}{listed:Array Bool}:(kW m listed).Nodup:=List.nodup_range.filter _
theorem kf {As:List (Value→List Chunk)}{val:Nat→Value}{a b:List Nat}(h:a.Perm b):(a.flatMap fun i=>(As.getD i fun _=> []) (val i)).Perm (b.flatMap fun i=>(As.getD i fun _=> []) (val i)):=h.flatMap_right _
theorem pQ {r:Option Nat}{P:Program}{ops:Array Oper}{Q:Exit→Act→World→Prop}: ∀(fuel:Nat) (listed:Array Bool) (a:Act) (w:World),wpAnyIn (jZ r) 0 P .any ops Q fuel listed a w→ls r P ops Q (fun _=>True) fuel listed a w
 |0,_,_,_,h=>h
 |fuel+1,listed,a,w,h=>⟨h.1,fun i hi=>wpOpIn_mono (fun a w hh=> .inl ⟨trivial,pQ fuel _ a w hh⟩) (h.2 i hi)⟩
def QS (P:Program)(ops:Array Oper)(s:aQ)(L:List Chunk)(o:Oper)(A:Value→List Chunk):Prop:= ∀Z w,Sp Z L w→ ∃v,aM ops s o=some true∧Ev P s (fun _=>True) o v∧Sp Z (A v++L) w
def tM (P:Program)(ops:Array Oper)(s:aQ)(L L0:List Chunk)(o:Oper)(A:Value→List Chunk):Prop:= ∀Z w,Sp Z L w→ ∃v,aM ops s o=some true∧Ev P s (fun _=>True) o v∧Sp Z (A v++L0) w
theorem og {P:Program}{ops:Array Oper}{s:aQ}{L L0:List Chunk}{o:Oper}{A:Value→List Chunk}{v:Value}(h:Ev P s (fun _=>True) o v)(hg:aM ops s o=some true)(k:Cv L (A v++L0)):tM P ops s L L0 o A:=fun _ _ hw=>⟨v,hg,h,k _ _ hw⟩
theorem gL {p:Nat→Oper→Prop}{ops:Array Oper}: ∀(i:Nat) (o:Oper),i<0→ops[i]? =some o→p i o:=fun i o h=>by omega
theorem au {p:Nat→Oper→Prop}{ops:Array Oper}{n:Nat}{o':Oper}(ho:ops[n]? =some o')(h2:p n o')(h1: ∀(i:Nat) (o:Oper),i<n→ops[i]? =some o→p i o): ∀(i:Nat) (o:Oper),i<n+1→ops[i]? =some o→p i o:=fun i o hi h=>by
 by_cases e:i=n
 ·subst e;rw [ho] at h;cases h;exact h2
 exact h1 i o O h
theorem lB {p:Nat→Oper→Prop}{ops:Array Oper}{m:Nat}: ∀q∈([]:List Nat), ∀(o:Oper),q<m→ops[q]? =some o→p q o:=fun q h=>by cases h
theorem ka {p:Nat→Oper→Prop}{ops:Array Oper}{m q':Nat}{qs:List Nat}{o':Oper}(ho:ops[q']? =some o')(h2:p q' o')(h1: ∀q∈qs, ∀(o:Oper),q<m→ops[q]? =some o→p q o): ∀q∈q'::qs, ∀(o:Oper),q<m→ops[q]? =some o→p q o:=fun q hq o hm h=>by
 rcases List.mem_cons.1 hq with e|hq
 ·subst e;rw [ho] at h;cases h;exact h2
 exact h1 q hq o hm h
def sx (P:Program)(ops:Array Oper)(s:aQ)(L L0:List Chunk)(o:Oper)(A:Value→List Chunk):Prop:= ∀Z w,Sp Z L w→(aM ops s o=some true∧ ∀ρ:Operand→Value,(∀x u,aY s x=some u→ρ x=u)→OpAt P ρ o (fun u L'=>Cv L' (A u++L0)) Z w)∨(aM ops s o=some false∧Sp Z (A undef++L0) w)
section
variable {P:Program} {ops:Array Oper} {s:aQ} {L L0:List Chunk} {o:Oper} {A:Value→List Chunk}
theorem oR {R:Value→List Chunk→Prop}(h:OpX P s L o R)(hg:aM ops s o=some true)(k: ∀u L',R u L'→Cv L' (A u++L0)):sx P ops s L L0 o A:=fun Z w hw=> .inl ⟨hg,fun ρ hρ=>by
 rcases h ρ hρ Z w hw with ⟨v,w',L',h1,h2,h3⟩|⟨w',L',h1,h2,h3⟩|⟨f,args,h1,h2⟩|⟨l,f,t,a,b,h1,h2⟩
 ·exact .inl ⟨v,w',L',h1,h2,k _ _ h3⟩
 ·exact .inr (.inl ⟨w',L',h1,h2,k _ _ h3⟩)
 ·exact .inr (.inr (.inl ⟨f,args,h1,h2.mono fun e w' ⟨v,L',g1,g2,g3⟩=>⟨v,L',g1,g2,k _ _ g3⟩⟩))
 ·exact .inr (.inr (.inr ⟨l,f,t,a,b,h1,h2.mono fun e w' ⟨v,L',g1,g2,g3⟩=>⟨v,L',g1,g2,k _ _ g3⟩⟩))⟩
theorem ei {v:Value}(h:Ev P s (fun _=>True) o v)(hg:aM ops s o=some true)(k:Cv L (A v++L0)):sx P ops s L L0 o A:=oR (pe h) hg fun u L' ⟨e1,e2⟩=>by subst e1 e2;exact k
theorem jG {v:Value}(h:Rd P s L o v)(hg:aM ops s o=some true)(k:Cv L (A v++L0)):sx P ops s L L0 o A:=oR (ir h) hg fun u L' ⟨e1,e2⟩=>by subst e1 e2;exact k
end
def cl (u:Value)(k:Nat):Value:=u.cells.getD k undef
def tl (u:Value)(k:Nat):Value:=match u with| .tuple vs=>vs.getD k undef|_=>undef
def pb (u:Value):Nat:=match u with| .pointer (some a)=>a.block|_=>0
def mb (u:Value):Nat:=match u with| .map (some m)=>m|_=>0
end
section
open Go.RowKit
section
variable {P:Program} {s:aQ} {C:World→Prop} {d:Option Nat} {ty:TypeId} {pos:String} {af:Array Edge} {gd:Option (Nat×Bool)}
theorem oy {t e:TypeId}(ht:P.underlying t=some (.slice e))(A:Option Addr)(n c:Nat)(w:World):(Op.equal t (.slice A n c) (Y none 0 0)).run P w=.ok A.isNone w:=by
 show (Op.equalIn (9999+1) t (.slice A n c) (Y none 0 0)).run P w=_;unfold Op.equalIn;rw [Sem.run_bind,run_underlying ht,Result.andThen_ok];cases A<;>rfl
theorem my {t e u:TypeId}{x:Operand}{A:Option Addr}{n c:Nat}(hx:aY s x=some (.slice A n c))(ht:P.underlying t=some (.slice e)):Ev P s C ⟨d,.binOp .eql t x (.const (Y none 0 0)) u,ty,pos,af,gd⟩ (.bool A.isNone):=
 ck hx rfl fun w=>by
  rw [Sem.run_bind];show (binOp .eql t (.slice A n c) (Y none 0 0)).run P w=_;have h1:(Op.equal t (.slice A n c) (Y none 0 0)).run P w=.ok A.isNone w:=oy ht A n c w;simp only [binOp,Sem.run_bind,h1,Result.andThen_ok];rfl
theorem rU {t u:TypeId}{x y:Operand}{k k2:IntKind}{a b:Int}(hx:aY s x=some (.int k a))(hy:aY s y=some (.int k b))(ht:P.underlying t=some (.int k2))(hu:P.underlying u=some (.int k2)):Ev P s C ⟨d,.call ⟨.builtin .min, #[x,y], #[t,u]⟩,ty,pos,af,gd⟩ (.int k (min a b)):=fun ρ hρ w _=>by
 rw [fd (P:=P) (ρ:=ρ) (xs:=[x,y]) (vs:=[.int k a,.int k b]) (by simp [hρ x _ hx,hρ y _ hy]) w]
 have e:(if b<a then b else a)=min a b:=by rw [Int.min_def];split<;>split<;>omega
 cases k<;>simp [builtin,Builtin.min_,Builtin.min2,e]
end
def ux (P:Program)(s:aQ)(L:List Chunk)(o:Oper)(v:Value):Prop:= ∀Z w,Sp Z L w→Ev P s (fun _=>True) o v
section
variable {P:Program} {s:aQ} {L:List Chunk} {d:Option Nat} {ty:TypeId} {pos:String} {af:Array Edge} {gd:Option (Nat×Bool)}
end
theorem ji {a b:ByteArray}:a.toList=b.toList↔a=b:=by
 constructor
 ·intro h;rw [ByteArray.toList_eq,ByteArray.toList_eq] at h;exact WideShapes.bytes_inj h
 rintro rfl;rfl
theorem rl {X:Cx}{K:K3}{s:aQ}{L:List Chunk}{cd:Code}{α:Type}{R:Rep α}{A:Option Addr}{n c:Nat}{xs:List α}{ch:Chunk}(i:Nat)(hi:L[i]? =some ch)(he:oV R (.slice A n c) xs ch)(hA:A.isNone=true)(k:xs=[]→Wq X cd K s L):Wq X cd K s L:=fun H Ds a w ha hd hw=>by
 obtain ⟨T,S,h⟩:=hw.get (bd hi);obtain ⟨A',cap,e,h1,h2,h3⟩:=he _ _ _ h
 have hx:xs=[]:=by
  rcases Nat.eq_zero_or_pos xs.length with h0|h0
  ·exact List.eq_nil_of_length_eq_zero h0
  obtain ⟨b,o,vss,e2, -⟩:=h3 h0
  injection e with e
  rw [e,e2] at hA;cases hA
 exact k hx H Ds a w ha hd hw
section
variable {P:Program} {s:aQ} {L:List Chunk} {d:Option Nat} {ty:TypeId} {pos:String} {af:Array Edge} {gd:Option (Nat×Bool)}
theorem dk {f:FuncId}{x:Operand}{xs:List Operand}{ats:Array TypeId}{vs us:List Value}{caps:Array Value}{pre:List Chunk}{R:Value→List Chunk→Prop}(hc:Okc P f us pre R)(hf:am P f)(hx:aY s x=some (.func (.func f) #[] caps))(hv:nU s xs=some vs)(hu:vs++caps.toList=us)(hp: ∀c∈pre,nt L c)(hfr: ∀v post,R v post→ ∀c∈post,bZ c):OpX P s L ⟨d,.call ⟨.value x,xs.toArray,ats⟩,ty,pos,af,gd⟩ fun u L'=> ∃post,R u post∧L'=post++L:=fun ρ hρ Z w hw=>by
 subst hu;refine .inr (.inr (.inl ⟨f,_,oA hf (eI hρ hv) (hρ _ _ hx),?_⟩));refine (mo hc hp hfr Z w hw).mono ?_;rintro e w' ⟨v,post,rfl,h2,h3⟩;exact ⟨v,post++L,J,h2,post,h3,J⟩
end
end
section
open Go.RowKit
def gA {α σ:Type}(P:Program)(l:Nat)(G:σ→List Chunk)(Q:α→List Value→List Chunk→Prop)(φ:α→σ→Option (Bool×σ)):Prop:=
 ∀x σ₁ b σ₂,φ x σ₁=some (b,σ₂)→ ∀vs cs,Q x vs cs→ ∀Z w,Sp Z (cs++G σ₁) w→ ∃fn tmps assign body,(Instr.yield l vs.toArray).run P w=.ok (.round l fn tmps assign body) w∧RoundIn Fence.wide 0 P l fn tmps assign body w fun e w'=>e=.returned (.bool b)∧Sp Z (G σ₂) w'
section
variable {P:Program} {s:aQ} {d:Option Nat} {ty:TypeId} {pos:String} {af:Array Edge} {gd:Option (Nat×Bool)}
theorem oD {α σ:Type}{l:Nat}{G:σ→List Chunk}(E:List Chunk){Q:α→List Value→List Chunk→Prop}{φ:α→σ→Option (Bool×σ)}{a:α}{σ₁:σ}{y:Bool×σ}{x:Operand}{xs:List Operand}{ats:Array TypeId}{vs:List Value}{cs:List Chunk}(hY:gA P l G Q φ)(hr:φ a σ₁=some y)(hx:aY s x=some (.func (.yield l) #[] #[]))(hv:nU s xs=some vs)(hq:Q a vs cs)(hd:Cv (E++G σ₁) (cs++(E++G σ₁))):OpX P s (E++G σ₁) ⟨d,.call ⟨.value x,xs.toArray,ats⟩,ty,pos,af,gd⟩ fun u L'=>u=.bool y.1∧L'=E++G y.2:=fun ρ hρ Z2 w hw=>by
 obtain ⟨b,σ₂⟩:=y;have h0:=hd Z2 w hw
 have h1:Sp (E++Z2) (cs++G σ₁) w:=by
  have h2:SepL ((cs++(E++G σ₁))++Z2) w:=h0;refine SepL.perm h2 ?_;simp only [uR];exact List.Perm.append_left cs (List.perm_append_comm_assoc _ _ _)
 obtain ⟨fn,tmps,assign,body,h2,h3⟩:=hY a σ₁ b σ₂ hr vs cs hq _ w h1;refine .inr (.inr (.inr ⟨l,fn,tmps,assign,body,?_,?_⟩))
 ·unfold execOp;simp only [resolve,hρ x _ hx,Deferred.ofValue,List.map_toArray,eI hρ hv];simp only [invoke,Sem.run_bind,Sem.run_pure,Result.andThen_ok];simpa using h2
 refine h3.mono ?_;rintro e w' ⟨rfl,h4⟩;refine ⟨_,_,J,?_,J,J⟩;have h5:SepL (G σ₂++(E++Z2)) w':=h4;refine SepL.perm h5 ?_;simp only [uR];exact List.perm_append_comm_assoc _ _ _
end
theorem oS {ι:Type}{Q:ι→List Chunk}{X:Cx}{K:K3}{s:aQ}{c:Code}(cs:List Chunk)(h: ∀x,Wq X c K s (cs++Q x)):Wq X c K s (cs++ [cz Q]):=fun H Ds a w ha hd hw=>by
 have h1:Sp (cs++(Ds.map aU++H)) [cz Q] w:=by
  refine SepL.perm hw ?_;simp only [uR];exact List.perm_append_comm_assoc _ _ _
 obtain ⟨x,hx⟩:=dA h1
 have h2:Sp (Ds.map aU++H) (cs++Q x) w:=by
  refine SepL.perm hx ?_;simp only [uR,List.nil_append];exact List.perm_append_comm_assoc _ _ _
 exact h x H Ds a w ha hd h2
theorem oU {α σ:Type}{X:Cx}{K:K3}{s:aQ}{g:Operand}{ps:List Nat}{assign body:Code}{gf:FuncId}{caps:Array Value}{Q:α→List Value→List Chunk→Prop}(φ:α→σ→Option (Option Exit×σ))(E:σ→List Chunk)(pre:List Chunk)(σ₀:σ){je:Option Exit}{σr:σ}{L:List Chunk}
  (hr:X.r=none) (hg:aY s g=some (.func (.func gf) #[] caps)) (hf:am X.P gf) (hps:ps.all (fun p=>Nat.ble (p+1) X.n)=true) (hen: ∀x vs cs,Q x vs cs→vs.length=ps.length)
  (hit: ∀l (G:(Option Exit×σ)→List Chunk),gA X.P l G Q (iv φ)→Okc X.P gf (.func (.yield l) #[] #[]::caps.toList) (pre++G (none,σ₀)) fun _ post=>post=G (je,σr))
  (hL:Cv L (pre++E σ₀))
  (hbody: ∀l x σ₁ je' σ₂,φ x σ₁=some (je',σ₂)→ ∀vs cs,Q x vs cs→Wq ⟨X.P,X.n,some l⟩ assign (nx (fun s1 L1=>Wq ⟨X.P,X.n,some l⟩ body (RK je' (E σ₂)) s1 L1) fun _ _ _=>False) (mB ps vs s) (cs++E σ₁))
  (hdone:je=none→K .normal s (E σr)) (hleft: ∀e,je=some e→(fM e).isSome=true∧K e s (E σr)):
  Wq X (.rangeFunc g ps.toArray assign body) K s L:=by
 intro H Ds a w ha hds hw;obtain ⟨P,n,r⟩:=X;simp only at hr hf hps hit hbody;subst hr;refine wpIn_rangeFunc ?_;intro fn hfn;have hev:a.eval g=.func (.func gf) #[] caps:=ha.eval hg
 obtain ⟨rec_,hrec⟩: ∃rec_:Option Exit→LoopState→Loop,rec_=fun j st=>{state:=st,pending:=j.bind fM,fn,tmps:=a.tmps,params:=ps.toArray,assign,body,defers:=w.heap.size}:=⟨_,rfl⟩
 obtain ⟨stOf,hst⟩: ∃stOf:Option Exit→LoopState,stOf=fun j=>if j.isNone then .ready else .done:=⟨_,rfl⟩
 obtain ⟨l,hl⟩: ∃l,l=w.heap.size+1:=⟨_,rfl⟩;obtain ⟨W1,hW1⟩: ∃W1,(w.alloc (.deferred (some []))).alloc (.loop (rec_ none .ready))=W1:=⟨_,rfl⟩
 have hY:gA P l (fun q=>cL l (rec_ q.1 (stOf q.1))::E q.2) Q (iv φ):=by
  rintro x ⟨j₁,σ₁⟩ b ⟨j₂,σ₂⟩ hx vs cs hq Z w1 hw1;unfold iv at hx
  cases j₁ with
  |some e=>cases hx
  | none=>
   simp only at hx
   cases hφ:φ x σ₁ with
   |none=>rw [hφ] at hx;cases hx
   | some y=>
    rw [hφ] at hx;simp only [Option.map_some,Option.some.injEq,Prod.mk.injEq] at hx;obtain ⟨hb,hy⟩:=hx;subst hb hy
    have h0:SepL (cs++(cL l (rec_ none .ready)::(E σ₁++Z))) w1:=by
     have:stOf none=.ready:=by rw [hst];rfl
     simp only [this] at hw1;unfold Sp at hw1;simpa only [uR,List.cons_append] using hw1
    have hk1:=fe h0;have hy:=run_yield (P:=P) (args:=vs.toArray) hk1 (by rw [hrec];simp [hen x vs cs hq]);refine ⟨_,_,_,_,hy,roundIn_of_wpIn (F:=Fence.wide) trivial ?_⟩
    have hfx:Fx ⟨P,n,some l⟩ (mB ps vs s) ⟨((rec_ none .ready).params.zip vs.toArray).foldl (fun t (p:Nat×Value)=>t.setIfInBounds p.1 p.2) (rec_ none .ready).tmps,[]⟩:=by
     have h1:=lK (X:=⟨P,n,some l⟩) (ds:=[]) (ps.zip vs) s a.tmps (by
      rw [List.all_eq_true] at hps⊢;intro p hp
      exact hps p.1 (List.of_mem_zip hp).1) ⟨ha.size,ha.at_⟩
     have e:(((rec_ none .ready).params.zip vs.toArray).foldl (fun t (p:Nat×Value)=>t.setIfInBounds p.1 p.2) (rec_ none .ready).tmps)=(ps.zip vs).foldl (fun t (p:Nat×Value)=>t.setIfInBounds p.1 p.2) a.tmps:=by
      rw [hrec];simp
     rw [e];exact h1
    have hsp:Sp (([]:List Nat).map aU++(cL l (rec_ none .ready)::Z)) (cs++E σ₁) w1:=h0.perm (by simpa only [uR,List.map_nil,List.nil_append] using List.Perm.append_left cs List.perm_middle.symm);have hrun:=hbody l x σ₁ j₂ σ₂ hφ vs cs hq (cL l (rec_ none .ready)::Z) [] _ w1 hfx rfl hsp
    have hasg:(rec_ none .ready).assign=assign:=by rw [hrec]
    have hbdy:(rec_ none .ready).body=body:=by rw [hrec]
    rw [hasg,hbdy];refine wpIn_mono hrun ?_;rintro e a1 w2 ⟨s1,L1,Ds1,g1,g2,g3,g4⟩
    cases e with
    | normal=>
     have g3':SepL ((L1++Ds1.map aU)++(cL l (rec_ none .ready)::Z)) w2:=by unfold Sp at g3;simpa only [uR] using g3
     have hk2:=fe g3';have hbusy:=gN (r':={rec_ none .ready with state:=.busy}) g3';refine ⟨_,run_beginRound hk2 (by rw [hrec]),?_⟩
     have hb2:Sp (Ds1.map aU++(cL l {rec_ none .ready with state:=.busy}::Z)) L1 (w2.putObj l (.loop {rec_ none .ready with state:=.busy})):=by unfold Sp;simpa only [uR] using hbusy
     refine wpIn_mono (g4 (cL l {rec_ none .ready with state:=.busy}::Z) Ds1 a1 _ g1 g2 hb2) ?_;rintro e3 a3 w3 ⟨s3,L3,Ds3,k1,k2,k3,k4,k5⟩
     have k3':SepL ((L3++Ds3.map aU)++(cL l {rec_ none .ready with state:=.busy}::Z)) w3:=by unfold Sp at k3;simpa only [uR] using k3
     have hk3:=fe k3'
     have fin: ∀(j:Option Exit) (jump:Option Code),jump=j.bind fM→jump.isNone=j.isNone→j₂=j→ ∃v w',(Instr.endRound l jump).run P w3=.ok v w'∧(Ending.returned v=.returned (.bool j₂.isNone)∧Sp Z (cL l (rec_ j₂ (stOf j₂))::E σ₂) w'):=by
      intro j jump hj1 hj2 hj3;subst hj3;refine ⟨_,_,run_endRound jump hk3,by rw [hj2],?_⟩
      have e:({{rec_ none .ready with state:=.busy} with state:=if jump.isNone then LoopState.ready else LoopState.done,pending:=jump}:Loop)=rec_ j₂ (stOf j₂):=by
       rw [hrec,hst,hj2,hj1]
      rw [e];have h6:=gN (r':=rec_ j₂ (stOf j₂)) k3'
      have h7:SepL (L3++(cL l (rec_ j₂ (stOf j₂))::Z)) (w3.putObj l (.loop (rec_ j₂ (stOf j₂)))):=by
       have h8:SepL (Ds3.map aU++(L3++(cL l (rec_ j₂ (stOf j₂))::Z))) (w3.putObj l (.loop (rec_ j₂ (stOf j₂)))):=h6.perm (by
        rw [←uR]
        exact List.Perm.append_right _ List.perm_append_comm)
       exact h8.dropL
      have h9:=k5 (cL l (rec_ j₂ (stOf j₂))::Z) _ h7;unfold Sp at h9⊢;exact h9.perm List.perm_middle
     rcases k4 with ⟨h10,rfl⟩|⟨h10,h11⟩
     ·exact fin none none J J h10
     cases e3 with
     |ret=>exact fin (some .ret) (some .ret) rfl rfl h10
     |exit i=>exact fin (some (.exit i)) (some (.exit i)) rfl rfl h10
     |_=>cases h11
    |_=>exact g4.elim
 have hdeep:SepL (cL l (rec_ none .ready)::aU w.heap.size::((pre++E σ₀)++(Ds.map aU++H))) W1:=by
  have h1:SepL ((pre++E σ₀)++(Ds.map aU++H)) w:=hL _ _ hw
  have h2:SepL (aU w.heap.size::((pre++E σ₀)++(Ds.map aU++H))) (w.alloc (.deferred (some []))):=h1.new (Agr.of_ext ((Ext.refl w).alloc _)) fun _ S _=>⟨(· =w.heap.size),fun q hq=>by subst hq;simp,rfl,World.alloc_heap_new w _⟩
  rw [←hW1]
  refine h2.new (Agr.of_ext ((Ext.refl _).alloc _)) fun _ S _=>⟨(· =l),fun q hq=>by subst hq;rw [hl];simp,rfl,?_⟩
  have:=World.alloc_heap_new (w.alloc (.deferred (some []))) (.loop (rec_ none .ready));rw [World.size_alloc] at this;rw [hl];exact this
 have hstn:stOf none=.ready:=by rw [hst];rfl
 have hstart:Sp (aU w.heap.size::(Ds.map aU++H)) (pre++(cL l (rec_ none (stOf none))::E σ₀)) W1:=by
  rw [hstn];refine hdeep.perm ?_;refine (List.Perm.swap _ _ _).trans ?_;refine List.Perm.trans ?_ List.perm_middle.symm;refine List.Perm.cons _ ?_;rw [←List.cons_append];exact List.Perm.append_right _ List.perm_middle.symm
 obtain ⟨fnc,hfn1,hb1,hn1⟩:=hf
 have hn': ¬fnc.name= "runtime.NumGoroutine" :=by simpa using hn1
 have hb': ¬fnc.body=none:=by intro h;rw [h] at hb1;cases hb1
 refine ⟨l,[{target:=.collected w.heap.size,args:= #[]}],W1,{target:=.fn (.func gf) caps,args:= #[.func (.yield l) #[] #[]]},W1,gf,(.func (.yield l) #[] #[]::caps.toList).toArray,W1,?_,?_,fun _ _=>trivial,?_,(by intro h;cases h),?_⟩
 ·rw [←hW1,hl,hrec];exact run_enterLoop_outer _ _ _ _ _
 ·simp only [resolve,hev];simp [Deferred.ofValue,Act.eval]
 ·simp [invoke,callFunc,hfn1,hb',hn',Sem.run_bind]
 have h1:=hit l _ hY _ W1 hstart;refine (callsIn_wide.2 h1:CallsIn Fence.wide (0 - 1) P gf _ W1 _).mono ?_;rintro e w3 ⟨v,post,rfl,h2,rfl⟩;have h2':SepL ([]++(cL l (rec_ je (stOf je))::(E σr++(aU w.heap.size::(Ds.map aU++H))))) w3:=h2;have hk:=fe h2';refine ⟨_,_,run_endLoop hk (by rw [hrec,hst];cases je<;>simp),?_⟩;have h3:=gN (r':={rec_ je (stOf je) with state:=.exhausted}) h2';generalize w3.putObj l (.loop {rec_ je (stOf je) with state:=.exhausted})=w4 at h3⊢
 have h4:Sp ((w.heap.size::Ds).map aU++H) (E σr) w4:=by
  have h5:SepL ([cL l {rec_ je (stOf je) with state:=.exhausted}]++(E σr++(aU w.heap.size::(Ds.map aU++H)))) _:=h3;have h6:=h5.dropL;unfold Sp;simpa using h6
 have hfin: ∀e,K e s (E σr)→gH ⟨P,n,none⟩ H K e {a with defers:=[{target:=.collected w.heap.size,args:= #[]}]++a.defers} w4:=fun e he=>⟨s,E σr,w.heap.size::Ds,⟨ha.size,ha.at_⟩,by simp [hds,fU],h4,he⟩
 cases hje:je with
 |none=>
  have:(rec_ je (stOf je)).pending=none:=by rw [hrec,hje];rfl
  rw [←hje,this];exact hfin .normal (hdone hje)
 |some e=>
  obtain ⟨h7,h8⟩:=hleft e hje
  have:(rec_ je (stOf je)).pending=fM e:=by rw [hrec,hje];rfl
  rw [←hje,this]
  cases e with
  |ret=>exact wpIn_ret (hfin .ret h8)
  |exit i=>exact wpIn_exit (hfin (.exit i) h8)
  |_=>cases h7
theorem oT {α σ ι ρ:Type}{X:Cx}{K:K3}{s:aQ}{g:Operand}{ps:List Nat}{assign body:Code}{gf:FuncId}{caps:Array Value}{R:α→List Value→List Chunk→Prop}(φ:α→σ→Option (Option Exit×σ))(Q:σ→ι→List Chunk)(pre:List Chunk)(σ₀:σ)(x₀:ι){je:Option Exit}{σr:σ}{L:List Chunk}{id:Nat}{vn vr:Option ρ}{vx:Nat→Option ρ}{v:ρ}
  (hr:X.r=none) (hg:aY s g=some (.func (.func gf) #[] caps)) (hf:am X.P gf) (hps:ps.all (fun p=>Nat.ble (p+1) X.n)=true) (hen: ∀x vs cs,R x vs cs→vs.length=ps.length)
  (hit: ∀l (G:(Option Exit×σ)→List Chunk),gA X.P l G R (iv φ)→Okc X.P gf (.func (.yield l) #[] #[]::caps.toList) (pre++G (none,σ₀)) fun _ post=>post=G (je,σr))
  (hL:Cv L (pre++Q σ₀ x₀)) (h:nZ je vn vr vx=some v)
  (hbody: ∀l x σ₁ je' σ₂ z,φ x σ₁=some (je',σ₂)→ ∀vs cs,R x vs cs→Wq ⟨X.P,X.n,some l⟩ assign (nx (fun s1 L1=>Wq ⟨X.P,X.n,some l⟩ body (RK je' [cz (Q σ₂)]) s1 L1) fun _ _ _=>False) (mB ps vs s) (cs++Q σ₁ z))
  (hn: ∀z,vn=some v→bk id K .normal s (Q σr z)) (hret: ∀z,vr=some v→bk id K .ret s (Q σr z)) (hx: ∀i z,vx i=some v→bk id K (.exit i) s (Q σr z)):
  Wq X (.block id (.rangeFunc g ps.toArray assign body)) K s L:=by
 refine gY (om (K':=fun e s' L'=>s'=s∧L'=[cz (Q σr)]∧ ∀z,bk id K e s (Q σr z)) ?_ ?_)
 ·refine oU φ (fun q=> [cz (Q q)]) pre σ₀ hr hg hf hps hen hit ?_ ?_ ?_ ?_
  ·exact hL.trans (ft pre (eW x₀ J))
  ·intro l x σ₁ je' σ₂ hφ vs cs hq
   exact oS cs fun z=>hbody l x σ₁ je' σ₂ z hφ vs cs hq
  ·intro hj;rw [hj] at h;exact ⟨J,J,fun z=>hn z h⟩
  intro e he;rw [he] at h
  cases e with
  |ret=>exact ⟨rfl,rfl,rfl,fun z=>hret z h⟩
  |exit i=>exact ⟨rfl,rfl,rfl,fun z=>hx i z h⟩
  |_=>cases h
 rintro e s' L' ⟨rfl,rfl,h3⟩;exact ⟨ι,Q σr,J,h3⟩
theorem SlR.recap {α:Type}{R:Rep α}{S:Nat→Prop}{w:World}{A1 A2:Option Addr}{n1 n2 c1 c2:Nat}{ys:List α}(h:SlR R S w (Y A1 n1 c1) ys)(hn:n2=ys.length)(hA:0<ys.length→A2=A1)(h1:ys.length≤c2)(h2:c2≤9223372036854775807):SlR R S w (Y A2 n2 c2) ys:=by
 obtain ⟨A,c,e,g1,g2,g3⟩:=h
 injection e with e1 e2 e3
 subst e1 e3 hn;exact ⟨_,_,J,h1,h2,fun h0=>by rw [hA h0];exact g3 h0⟩
theorem nf {α:Type}{R:Rep α}{L Z:List Chunk}{w:World}{A:Option Addr}{n c:Nat}{xs:List α}(hw:Sp Z L w){i:Nat}(hi:L[i]? =some (cK R (.slice A n c) xs)){l h:Nat}(h1:l≤h)(h2:h≤xs.length):Sp Z (cK R (.slice (ij A h l R.sz) (h - l) (h - l)) ((xs.drop l).take (h - l))::L) w:=by
 obtain ⟨T,S,hT⟩:=hw;have hs1:SlR R S w (.slice A n c) xs:=hT.ok (bd hi)
 have hl:((xs.drop l).take (h - l)).length=h - l:=by rw [List.length_take,List.length_drop];omega
 have hb:=hs1;obtain ⟨A2,c2,e2,g1,g2, -⟩:=hb
 injection e2 with q1 q2 q3
 subst q1 q2 q3
 obtain ⟨T',h'⟩:=SepL.facts [cK R (.slice (ij A h l R.sz) (h - l) (h - l)) ((xs.drop l).take (h - l))] hT (fun c hc=>by
  simp only [List.mem_singleton] at hc;subst hc;refine SlR.recap (hs1.cut l h h1 h2) hl.symm (fun h0=> ?_) O O;rw [hl] at h0;unfold ij
  rw [if_neg O,if_neg O])
 exact ⟨T',S,h'⟩
theorem sB {α:Type}{R:Rep α}{X:Cx}{ops:Array Oper}{K:K3}{s:aQ}{L:List Chunk}{ol:List Oper}{A:Option Addr}{n c:Nat}{xs:List α}(i:Nat)(hi:L[i]? =some (cK R (.slice A n c) xs)){l h:Nat}(h1:l≤h)(h2:h≤xs.length)(k: ∀A' n' c',A'=ij A h l R.sz∧n'=h - l∧c'=h - l→bw X ops ol K s (cK R (.slice A' n' c') ((xs.drop l).take (h - l))::L)):bw X ops ol K s L:=fun H Ds a w ha hd hw=>k _ _ _ ⟨rfl,rfl,rfl⟩ H Ds a w ha hd (nf hw hi h1 h2)
section
variable {P:Program} {s:aQ} {L:List Chunk} {d:Option Nat} {ty:TypeId} {pos:String} {af:Array Edge} {gd:Option (Nat×Bool)}
theorem qJ {C:World→Prop}{t e sz:Nat}{x o y z:Operand}{A:Option Addr}{n c:Nat}{l h:Nat}(hx:aY s x=some (.slice A n c))(hu:P.underlying t=some (.slice e))(hs:cf P e sz=true)(hl:aY s o=some (.int .i64 (l:Int)))(hh:aY s y=some (.int .i64 (h:Int)))(hm:aY s z=some (.int .i64 (h:Int)))(h1:l≤h)(h2:h≤c):Ev P s C ⟨d,.slice t x (some o) (some y) (some z),ty,pos,af,gd⟩ (.slice (ij A h l sz) (h - l) (h - l)):=fun ρ hρ w _=>by
 unfold execOp;simp only [Option.map_some,Option.map_none,hρ x _ hx,hρ o _ hl,hρ y _ hh,hρ z _ hm,Instr.sliceAt,Instr.slice,Instr.sliceBounds,Sem.run_bind,run_underlying hu,Result.andThen_ok,jq h2,jq h1,jq (Nat.le_refl h),dj hs w,Sem.run_pure];rfl
theorem qk {α:Type}{R:Rep α}{t e sz:Nat}{x o y z:Operand}{A A':Option Addr}{n c n' c':Nat}{xs:List α}{l h:Nat}(i:Nat)(hL:L[i]? =some (cK R (.slice A n c) xs))(he:A'=ij A h l R.sz∧n'=h - l∧c'=h - l)(hx:aY s x=some (.slice A n c))(hu:P.underlying t=some (.slice e))(hs:cf P e sz=true)(hsz:R.sz=sz)
  (hl:aY s o=some (.int .i64 (l:Int))) (hh:aY s y=some (.int .i64 (h:Int))) (hm:aY s z=some (.int .i64 (h:Int))) (h1:l≤h) (h2:h≤xs.length):Rd P s L ⟨d,.slice t x (some o) (some y) (some z),ty,pos,af,gd⟩ (.slice A' n' c'):=fun Z w hw=>by
 obtain ⟨rfl,rfl,rfl⟩:=he;subst hsz;obtain ⟨T,S,A2,c2,e2,g1, -⟩:=hw.get (bd hL)
 injection e2 with q1 q2 q3
 subst q1 q2 q3;exact qJ hx hu hs hl hh hm h1 O
end
end
section
open Go.RowKit
section
variable {α β:Type} [DecidableEq α] {ek:α→Value} {ev:β→Value}
def ui (w:World)(m:Nat)(ek:α→Value)(ev:β→Value)(kv:List (α×β))(a:α)(s:Nat):Prop:=
 ∃es clk,w.heap[m]? =some (.map es clk)∧es.toList.map (fun e=>(e.key,e.val))=kv.map (fun p=>(ek p.1,ev p.2))∧es.toList.Pairwise (fun a b=>a.born<b.born)∧(∀e∈es.toList,e.born<clk)∧ ∃q e b,es[q]? =some e∧e.born=s∧e.key=ek a∧fp a kv 0=some (q,b)
def uf (ek:α→Value)(ev:β→Value)(m:Nat)(kv:List (α×β))(a:α)(s:Nat):Chunk where
 ok T _ w:=T m∧ui w m ek ev kv a s
 loc:=fun {T S w w'} h ⟨h1,es,clk,g1,g2⟩=>⟨h1,es,clk,(h.block m (by rcases Nat.lt_or_ge m w.heap.size with hl|hl;exact hl;rw [Array.getElem?_eq_none hl] at g1;cases g1) (.inl h1)).trans g1,g2⟩
 mono:=fun _ h=>h
 ro:=false
 dup:=fun h=>Bool.noConfusion h
def ue (kv:List (α×β))(a:α)(z:β):List (α×β):=match fp a kv 0 with
 |some _=>kv
 |none=>kv++ [(a,z)]
variable {P:Program} {s:aQ} {L:List Chunk} {d:Option Nat} {ty t kt et:TypeId} {pos:String} {af:Array Edge} {gd:Option (Nat×Bool)}
end
end
section
open Go.RowKit
theorem mC {L:List Chunk}: ∀(cs:List Chunk),Cv (cs++L) L
 | []=>ao _
 |_::cs=>cv_tl.trans (mC cs)
inductive Asn:Type 1
 |aV (v:Value)
 |aX1 {ι0:Type} (v:ι0→Value) (ch:ι0→List Chunk)
 |aX2 {ι0 ι1:Type} (v:ι0→ι1→Value) (ch:ι0→ι1→List Chunk)
 |aX3 {ι0 ι1 ι2:Type} (v:ι0→ι1→ι2→Value) (ch:ι0→ι1→ι2→List Chunk)
 |aX4 {ι0 ι1 ι2 ι3:Type} (v:ι0→ι1→ι2→ι3→Value) (ch:ι0→ι1→ι2→ι3→List Chunk)
 |aX5 {ι0 ι1 ι2 ι3 ι4:Type} (v:ι0→ι1→ι2→ι3→ι4→Value) (ch:ι0→ι1→ι2→ι3→ι4→List Chunk)
 |aX6 {ι0 ι1 ι2 ι3 ι4 ι5:Type} (v:ι0→ι1→ι2→ι3→ι4→ι5→Value) (ch:ι0→ι1→ι2→ι3→ι4→ι5→List Chunk)
 |aX7 {ι0 ι1 ι2 ι3 ι4 ι5 ι6:Type} (v:ι0→ι1→ι2→ι3→ι4→ι5→ι6→Value) (ch:ι0→ι1→ι2→ι3→ι4→ι5→ι6→List Chunk)
 |aX8 {ι0 ι1 ι2 ι3 ι4 ι5 ι6 ι7:Type} (v:ι0→ι1→ι2→ι3→ι4→ι5→ι6→ι7→Value) (ch:ι0→ι1→ι2→ι3→ι4→ι5→ι6→ι7→List Chunk)
 |aX9 {ι0 ι1 ι2 ι3 ι4 ι5 ι6 ι7 ι8:Type} (v:ι0→ι1→ι2→ι3→ι4→ι5→ι6→ι7→ι8→Value) (ch:ι0→ι1→ι2→ι3→ι4→ι5→ι6→ι7→ι8→List Chunk)
 |aX10 {ι0 ι1 ι2 ι3 ι4 ι5 ι6 ι7 ι8 ι9:Type} (v:ι0→ι1→ι2→ι3→ι4→ι5→ι6→ι7→ι8→ι9→Value) (ch:ι0→ι1→ι2→ι3→ι4→ι5→ι6→ι7→ι8→ι9→List Chunk)
 |aX11 {ι0 ι1 ι2 ι3 ι4 ι5 ι6 ι7 ι8 ι9 ι10:Type} (v:ι0→ι1→ι2→ι3→ι4→ι5→ι6→ι7→ι8→ι9→ι10→Value) (ch:ι0→ι1→ι2→ι3→ι4→ι5→ι6→ι7→ι8→ι9→ι10→List Chunk)
 |aX12 {ι0 ι1 ι2 ι3 ι4 ι5 ι6 ι7 ι8 ι9 ι10 ι11:Type} (v:ι0→ι1→ι2→ι3→ι4→ι5→ι6→ι7→ι8→ι9→ι10→ι11→Value) (ch:ι0→ι1→ι2→ι3→ι4→ι5→ι6→ι7→ι8→ι9→ι10→ι11→List Chunk)
namespace Asn
def full:Asn→Value→List Chunk
 |aV v,u=> [o8 (u=v)]
 | @aX1 ι0 v ch,u=> [cz fun x:{x:ι0 // u=v x}=>ch x.1]
 | @aX2 ι0 ι1 v ch,u=> [cz fun x:{x:ι0×ι1 // u=v x.1 x.2}=>ch x.1.1 x.1.2]
 | @aX3 ι0 ι1 ι2 v ch,u=> [cz fun x:{x:ι0×ι1×ι2 // u=v x.1 x.2.1 x.2.2}=>ch x.1.1 x.1.2.1 x.1.2.2]
 | @aX4 ι0 ι1 ι2 ι3 v ch,u=> [cz fun x:{x:ι0×ι1×ι2×ι3 // u=v x.1 x.2.1 x.2.2.1 x.2.2.2}=>ch x.1.1 x.1.2.1 x.1.2.2.1 x.1.2.2.2]
 | @aX5 ι0 ι1 ι2 ι3 ι4 v ch,u=> [cz fun x:{x:ι0×ι1×ι2×ι3×ι4 // u=v x.1 x.2.1 x.2.2.1 x.2.2.2.1 x.2.2.2.2}=>ch x.1.1 x.1.2.1 x.1.2.2.1 x.1.2.2.2.1 x.1.2.2.2.2]
 | @aX6 ι0 ι1 ι2 ι3 ι4 ι5 v ch,u=> [cz fun x:{x:ι0×ι1×ι2×ι3×ι4×ι5 // u=v x.1 x.2.1 x.2.2.1 x.2.2.2.1 x.2.2.2.2.1 x.2.2.2.2.2}=>ch x.1.1 x.1.2.1 x.1.2.2.1 x.1.2.2.2.1 x.1.2.2.2.2.1 x.1.2.2.2.2.2]
 | @aX7 ι0 ι1 ι2 ι3 ι4 ι5 ι6 v ch,u=> [cz fun x:{x:ι0×ι1×ι2×ι3×ι4×ι5×ι6 // u=v x.1 x.2.1 x.2.2.1 x.2.2.2.1 x.2.2.2.2.1 x.2.2.2.2.2.1 x.2.2.2.2.2.2}=>ch x.1.1 x.1.2.1 x.1.2.2.1 x.1.2.2.2.1 x.1.2.2.2.2.1 x.1.2.2.2.2.2.1 x.1.2.2.2.2.2.2]
 | @aX8 ι0 ι1 ι2 ι3 ι4 ι5 ι6 ι7 v ch,u=> [cz fun x:{x:ι0×ι1×ι2×ι3×ι4×ι5×ι6×ι7 // u=v x.1 x.2.1 x.2.2.1 x.2.2.2.1 x.2.2.2.2.1 x.2.2.2.2.2.1 x.2.2.2.2.2.2.1 x.2.2.2.2.2.2.2}=>ch x.1.1 x.1.2.1 x.1.2.2.1 x.1.2.2.2.1 x.1.2.2.2.2.1 x.1.2.2.2.2.2.1 x.1.2.2.2.2.2.2.1 x.1.2.2.2.2.2.2.2]
 | @aX9 ι0 ι1 ι2 ι3 ι4 ι5 ι6 ι7 ι8 v ch,u=> [cz fun x:{x:ι0×ι1×ι2×ι3×ι4×ι5×ι6×ι7×ι8 // u=v x.1 x.2.1 x.2.2.1 x.2.2.2.1 x.2.2.2.2.1 x.2.2.2.2.2.1 x.2.2.2.2.2.2.1 x.2.2.2.2.2.2.2.1 x.2.2.2.2.2.2.2.2}=>ch x.1.1 x.1.2.1 x.1.2.2.1 x.1.2.2.2.1 x.1.2.2.2.2.1 x.1.2.2.2.2.2.1 x.1.2.2.2.2.2.2.1 x.1.2.2.2.2.2.2.2.1 x.1.2.2.2.2.2.2.2.2]
 | @aX10 ι0 ι1 ι2 ι3 ι4 ι5 ι6 ι7 ι8 ι9 v ch,u=> [cz fun x:{x:ι0×ι1×ι2×ι3×ι4×ι5×ι6×ι7×ι8×ι9 // u=v x.1 x.2.1 x.2.2.1 x.2.2.2.1 x.2.2.2.2.1 x.2.2.2.2.2.1 x.2.2.2.2.2.2.1 x.2.2.2.2.2.2.2.1 x.2.2.2.2.2.2.2.2.1 x.2.2.2.2.2.2.2.2.2}=>ch x.1.1 x.1.2.1 x.1.2.2.1 x.1.2.2.2.1 x.1.2.2.2.2.1 x.1.2.2.2.2.2.1 x.1.2.2.2.2.2.2.1 x.1.2.2.2.2.2.2.2.1 x.1.2.2.2.2.2.2.2.2.1 x.1.2.2.2.2.2.2.2.2.2]
 | @aX11 ι0 ι1 ι2 ι3 ι4 ι5 ι6 ι7 ι8 ι9 ι10 v ch,u=> [cz fun x:{x:ι0×ι1×ι2×ι3×ι4×ι5×ι6×ι7×ι8×ι9×ι10 // u=v x.1 x.2.1 x.2.2.1 x.2.2.2.1 x.2.2.2.2.1 x.2.2.2.2.2.1 x.2.2.2.2.2.2.1 x.2.2.2.2.2.2.2.1 x.2.2.2.2.2.2.2.2.1 x.2.2.2.2.2.2.2.2.2.1 x.2.2.2.2.2.2.2.2.2.2}=>ch x.1.1 x.1.2.1 x.1.2.2.1 x.1.2.2.2.1 x.1.2.2.2.2.1 x.1.2.2.2.2.2.1 x.1.2.2.2.2.2.2.1 x.1.2.2.2.2.2.2.2.1 x.1.2.2.2.2.2.2.2.2.1 x.1.2.2.2.2.2.2.2.2.2.1 x.1.2.2.2.2.2.2.2.2.2.2]
 | @aX12 ι0 ι1 ι2 ι3 ι4 ι5 ι6 ι7 ι8 ι9 ι10 ι11 v ch,u=> [cz fun x:{x:ι0×ι1×ι2×ι3×ι4×ι5×ι6×ι7×ι8×ι9×ι10×ι11 // u=v x.1 x.2.1 x.2.2.1 x.2.2.2.1 x.2.2.2.2.1 x.2.2.2.2.2.1 x.2.2.2.2.2.2.1 x.2.2.2.2.2.2.2.1 x.2.2.2.2.2.2.2.2.1 x.2.2.2.2.2.2.2.2.2.1 x.2.2.2.2.2.2.2.2.2.2.1 x.2.2.2.2.2.2.2.2.2.2.2}=>ch x.1.1 x.1.2.1 x.1.2.2.1 x.1.2.2.2.1 x.1.2.2.2.2.1 x.1.2.2.2.2.2.1 x.1.2.2.2.2.2.2.1 x.1.2.2.2.2.2.2.2.1 x.1.2.2.2.2.2.2.2.2.1 x.1.2.2.2.2.2.2.2.2.2.1 x.1.2.2.2.2.2.2.2.2.2.2.1 x.1.2.2.2.2.2.2.2.2.2.2.2]
def Op:Asn→(Value→List Chunk→Prop)→Prop
 |aV v,K=>K v []
 |aX1 v ch,K=> ∀x0,K (v x0) (ch x0)
 |aX2 v ch,K=> ∀x0 x1,K (v x0 x1) (ch x0 x1)
 |aX3 v ch,K=> ∀x0 x1 x2,K (v x0 x1 x2) (ch x0 x1 x2)
 |aX4 v ch,K=> ∀x0 x1 x2 x3,K (v x0 x1 x2 x3) (ch x0 x1 x2 x3)
 |aX5 v ch,K=> ∀x0 x1 x2 x3 x4,K (v x0 x1 x2 x3 x4) (ch x0 x1 x2 x3 x4)
 |aX6 v ch,K=> ∀x0 x1 x2 x3 x4 x5,K (v x0 x1 x2 x3 x4 x5) (ch x0 x1 x2 x3 x4 x5)
 |aX7 v ch,K=> ∀x0 x1 x2 x3 x4 x5 x6,K (v x0 x1 x2 x3 x4 x5 x6) (ch x0 x1 x2 x3 x4 x5 x6)
 |aX8 v ch,K=> ∀x0 x1 x2 x3 x4 x5 x6 x7,K (v x0 x1 x2 x3 x4 x5 x6 x7) (ch x0 x1 x2 x3 x4 x5 x6 x7)
 |aX9 v ch,K=> ∀x0 x1 x2 x3 x4 x5 x6 x7 x8,K (v x0 x1 x2 x3 x4 x5 x6 x7 x8) (ch x0 x1 x2 x3 x4 x5 x6 x7 x8)
 |aX10 v ch,K=> ∀x0 x1 x2 x3 x4 x5 x6 x7 x8 x9,K (v x0 x1 x2 x3 x4 x5 x6 x7 x8 x9) (ch x0 x1 x2 x3 x4 x5 x6 x7 x8 x9)
 |aX11 v ch,K=> ∀x0 x1 x2 x3 x4 x5 x6 x7 x8 x9 x10,K (v x0 x1 x2 x3 x4 x5 x6 x7 x8 x9 x10) (ch x0 x1 x2 x3 x4 x5 x6 x7 x8 x9 x10)
 |aX12 v ch,K=> ∀x0 x1 x2 x3 x4 x5 x6 x7 x8 x9 x10 x11,K (v x0 x1 x2 x3 x4 x5 x6 x7 x8 x9 x10 x11) (ch x0 x1 x2 x3 x4 x5 x6 x7 x8 x9 x10 x11)
theorem hop: ∀(a:Asn) (K:Value→List Chunk→Prop) (u:Value) (L Z:List Chunk) (w:World),Sp Z (a.full u++L) w→a.Op K→ ∃c,K u c∧Sp Z (c++L) w∧ ∀L',Cv (c++L') (a.full u++L')
 |aV v,K,u,L,Z,w,hs,hk=>by
  have h:u=v:=qc hs 0 rfl;subst h;exact ⟨[],hk,cv_tl _ _ hs,fun L'=>nX J⟩
 | @aX1 ι0 v ch,K,u,L,Z,w,hs,hk=>by
  obtain ⟨⟨x,hx⟩,hs⟩:=dA hs;subst hx;exact ⟨_,hk x,hs,fun L'=>cY (Q:=fun y:{y:ι0 // v x=v y}=>ch y.1) ⟨x,J⟩⟩
 | @aX2 ι0 ι1 v ch,K,u,L,Z,w,hs,hk=>by
  obtain ⟨⟨x,hx⟩,hs⟩:=dA hs;subst hx;exact ⟨_,hk x.1 x.2,hs,fun L'=>cY (Q:=fun y:{y:ι0×ι1 // v x.1 x.2=v y.1 y.2}=>ch y.1.1 y.1.2) ⟨x,J⟩⟩
 | @aX3 ι0 ι1 ι2 v ch,K,u,L,Z,w,hs,hk=>by
  obtain ⟨⟨x,hx⟩,hs⟩:=dA hs;subst hx;exact ⟨_,hk x.1 x.2.1 x.2.2,hs,fun L'=>cY (Q:=fun y:{y:ι0×ι1×ι2 // v x.1 x.2.1 x.2.2=v y.1 y.2.1 y.2.2}=>ch y.1.1 y.1.2.1 y.1.2.2) ⟨x,J⟩⟩
 | @aX4 ι0 ι1 ι2 ι3 v ch,K,u,L,Z,w,hs,hk=>by
  obtain ⟨⟨x,hx⟩,hs⟩:=dA hs;subst hx;exact ⟨_,hk x.1 x.2.1 x.2.2.1 x.2.2.2,hs,fun L'=>cY (Q:=fun y:{y:ι0×ι1×ι2×ι3 // v x.1 x.2.1 x.2.2.1 x.2.2.2=v y.1 y.2.1 y.2.2.1 y.2.2.2}=>ch y.1.1 y.1.2.1 y.1.2.2.1 y.1.2.2.2) ⟨x,J⟩⟩
 | @aX5 ι0 ι1 ι2 ι3 ι4 v ch,K,u,L,Z,w,hs,hk=>by
  obtain ⟨⟨x,hx⟩,hs⟩:=dA hs;subst hx;exact ⟨_,hk x.1 x.2.1 x.2.2.1 x.2.2.2.1 x.2.2.2.2,hs,fun L'=>cY (Q:=fun y:{y:ι0×ι1×ι2×ι3×ι4 // v x.1 x.2.1 x.2.2.1 x.2.2.2.1 x.2.2.2.2=v y.1 y.2.1 y.2.2.1 y.2.2.2.1 y.2.2.2.2}=>ch y.1.1 y.1.2.1 y.1.2.2.1 y.1.2.2.2.1 y.1.2.2.2.2) ⟨x,J⟩⟩
 | @aX6 ι0 ι1 ι2 ι3 ι4 ι5 v ch,K,u,L,Z,w,hs,hk=>by
  obtain ⟨⟨x,hx⟩,hs⟩:=dA hs;subst hx;exact ⟨_,hk x.1 x.2.1 x.2.2.1 x.2.2.2.1 x.2.2.2.2.1 x.2.2.2.2.2,hs,fun L'=>cY (Q:=fun y:{y:ι0×ι1×ι2×ι3×ι4×ι5 // v x.1 x.2.1 x.2.2.1 x.2.2.2.1 x.2.2.2.2.1 x.2.2.2.2.2=v y.1 y.2.1 y.2.2.1 y.2.2.2.1 y.2.2.2.2.1 y.2.2.2.2.2}=>ch y.1.1 y.1.2.1 y.1.2.2.1 y.1.2.2.2.1 y.1.2.2.2.2.1 y.1.2.2.2.2.2) ⟨x,J⟩⟩
 | @aX7 ι0 ι1 ι2 ι3 ι4 ι5 ι6 v ch,K,u,L,Z,w,hs,hk=>by
  obtain ⟨⟨x,hx⟩,hs⟩:=dA hs;subst hx;exact ⟨_,hk x.1 x.2.1 x.2.2.1 x.2.2.2.1 x.2.2.2.2.1 x.2.2.2.2.2.1 x.2.2.2.2.2.2,hs,fun L'=>cY (Q:=fun y:{y:ι0×ι1×ι2×ι3×ι4×ι5×ι6 // v x.1 x.2.1 x.2.2.1 x.2.2.2.1 x.2.2.2.2.1 x.2.2.2.2.2.1 x.2.2.2.2.2.2=v y.1 y.2.1 y.2.2.1 y.2.2.2.1 y.2.2.2.2.1 y.2.2.2.2.2.1 y.2.2.2.2.2.2}=>ch y.1.1 y.1.2.1 y.1.2.2.1 y.1.2.2.2.1 y.1.2.2.2.2.1 y.1.2.2.2.2.2.1 y.1.2.2.2.2.2.2) ⟨x,J⟩⟩
 | @aX8 ι0 ι1 ι2 ι3 ι4 ι5 ι6 ι7 v ch,K,u,L,Z,w,hs,hk=>by
  obtain ⟨⟨x,hx⟩,hs⟩:=dA hs;subst hx;exact ⟨_,hk x.1 x.2.1 x.2.2.1 x.2.2.2.1 x.2.2.2.2.1 x.2.2.2.2.2.1 x.2.2.2.2.2.2.1 x.2.2.2.2.2.2.2,hs,fun L'=>cY (Q:=fun y:{y:ι0×ι1×ι2×ι3×ι4×ι5×ι6×ι7 // v x.1 x.2.1 x.2.2.1 x.2.2.2.1 x.2.2.2.2.1 x.2.2.2.2.2.1 x.2.2.2.2.2.2.1 x.2.2.2.2.2.2.2=v y.1 y.2.1 y.2.2.1 y.2.2.2.1 y.2.2.2.2.1 y.2.2.2.2.2.1 y.2.2.2.2.2.2.1 y.2.2.2.2.2.2.2}=>ch y.1.1 y.1.2.1 y.1.2.2.1 y.1.2.2.2.1 y.1.2.2.2.2.1 y.1.2.2.2.2.2.1 y.1.2.2.2.2.2.2.1 y.1.2.2.2.2.2.2.2) ⟨x,J⟩⟩
 | @aX9 ι0 ι1 ι2 ι3 ι4 ι5 ι6 ι7 ι8 v ch,K,u,L,Z,w,hs,hk=>by
  obtain ⟨⟨x,hx⟩,hs⟩:=dA hs;subst hx;exact ⟨_,hk x.1 x.2.1 x.2.2.1 x.2.2.2.1 x.2.2.2.2.1 x.2.2.2.2.2.1 x.2.2.2.2.2.2.1 x.2.2.2.2.2.2.2.1 x.2.2.2.2.2.2.2.2,hs,fun L'=>cY (Q:=fun y:{y:ι0×ι1×ι2×ι3×ι4×ι5×ι6×ι7×ι8 // v x.1 x.2.1 x.2.2.1 x.2.2.2.1 x.2.2.2.2.1 x.2.2.2.2.2.1 x.2.2.2.2.2.2.1 x.2.2.2.2.2.2.2.1 x.2.2.2.2.2.2.2.2=v y.1 y.2.1 y.2.2.1 y.2.2.2.1 y.2.2.2.2.1 y.2.2.2.2.2.1 y.2.2.2.2.2.2.1 y.2.2.2.2.2.2.2.1 y.2.2.2.2.2.2.2.2}=>ch y.1.1 y.1.2.1 y.1.2.2.1 y.1.2.2.2.1 y.1.2.2.2.2.1 y.1.2.2.2.2.2.1 y.1.2.2.2.2.2.2.1 y.1.2.2.2.2.2.2.2.1 y.1.2.2.2.2.2.2.2.2) ⟨x,J⟩⟩
 | @aX10 ι0 ι1 ι2 ι3 ι4 ι5 ι6 ι7 ι8 ι9 v ch,K,u,L,Z,w,hs,hk=>by
  obtain ⟨⟨x,hx⟩,hs⟩:=dA hs;subst hx;exact ⟨_,hk x.1 x.2.1 x.2.2.1 x.2.2.2.1 x.2.2.2.2.1 x.2.2.2.2.2.1 x.2.2.2.2.2.2.1 x.2.2.2.2.2.2.2.1 x.2.2.2.2.2.2.2.2.1 x.2.2.2.2.2.2.2.2.2,hs,fun L'=>cY (Q:=fun y:{y:ι0×ι1×ι2×ι3×ι4×ι5×ι6×ι7×ι8×ι9 // v x.1 x.2.1 x.2.2.1 x.2.2.2.1 x.2.2.2.2.1 x.2.2.2.2.2.1 x.2.2.2.2.2.2.1 x.2.2.2.2.2.2.2.1 x.2.2.2.2.2.2.2.2.1 x.2.2.2.2.2.2.2.2.2=v y.1 y.2.1 y.2.2.1 y.2.2.2.1 y.2.2.2.2.1 y.2.2.2.2.2.1 y.2.2.2.2.2.2.1 y.2.2.2.2.2.2.2.1 y.2.2.2.2.2.2.2.2.1 y.2.2.2.2.2.2.2.2.2}=>ch y.1.1 y.1.2.1 y.1.2.2.1 y.1.2.2.2.1 y.1.2.2.2.2.1 y.1.2.2.2.2.2.1 y.1.2.2.2.2.2.2.1 y.1.2.2.2.2.2.2.2.1 y.1.2.2.2.2.2.2.2.2.1 y.1.2.2.2.2.2.2.2.2.2) ⟨x,J⟩⟩
 | @aX11 ι0 ι1 ι2 ι3 ι4 ι5 ι6 ι7 ι8 ι9 ι10 v ch,K,u,L,Z,w,hs,hk=>by
  obtain ⟨⟨x,hx⟩,hs⟩:=dA hs;subst hx;exact ⟨_,hk x.1 x.2.1 x.2.2.1 x.2.2.2.1 x.2.2.2.2.1 x.2.2.2.2.2.1 x.2.2.2.2.2.2.1 x.2.2.2.2.2.2.2.1 x.2.2.2.2.2.2.2.2.1 x.2.2.2.2.2.2.2.2.2.1 x.2.2.2.2.2.2.2.2.2.2,hs,fun L'=>cY (Q:=fun y:{y:ι0×ι1×ι2×ι3×ι4×ι5×ι6×ι7×ι8×ι9×ι10 // v x.1 x.2.1 x.2.2.1 x.2.2.2.1 x.2.2.2.2.1 x.2.2.2.2.2.1 x.2.2.2.2.2.2.1 x.2.2.2.2.2.2.2.1 x.2.2.2.2.2.2.2.2.1 x.2.2.2.2.2.2.2.2.2.1 x.2.2.2.2.2.2.2.2.2.2=v y.1 y.2.1 y.2.2.1 y.2.2.2.1 y.2.2.2.2.1 y.2.2.2.2.2.1 y.2.2.2.2.2.2.1 y.2.2.2.2.2.2.2.1 y.2.2.2.2.2.2.2.2.1 y.2.2.2.2.2.2.2.2.2.1 y.2.2.2.2.2.2.2.2.2.2}=>ch y.1.1 y.1.2.1 y.1.2.2.1 y.1.2.2.2.1 y.1.2.2.2.2.1 y.1.2.2.2.2.2.1 y.1.2.2.2.2.2.2.1 y.1.2.2.2.2.2.2.2.1 y.1.2.2.2.2.2.2.2.2.1 y.1.2.2.2.2.2.2.2.2.2.1 y.1.2.2.2.2.2.2.2.2.2.2) ⟨x,J⟩⟩
 | @aX12 ι0 ι1 ι2 ι3 ι4 ι5 ι6 ι7 ι8 ι9 ι10 ι11 v ch,K,u,L,Z,w,hs,hk=>by
  obtain ⟨⟨x,hx⟩,hs⟩:=dA hs;subst hx;exact ⟨_,hk x.1 x.2.1 x.2.2.1 x.2.2.2.1 x.2.2.2.2.1 x.2.2.2.2.2.1 x.2.2.2.2.2.2.1 x.2.2.2.2.2.2.2.1 x.2.2.2.2.2.2.2.2.1 x.2.2.2.2.2.2.2.2.2.1 x.2.2.2.2.2.2.2.2.2.2.1 x.2.2.2.2.2.2.2.2.2.2.2,hs,fun L'=>cY (Q:=fun y:{y:ι0×ι1×ι2×ι3×ι4×ι5×ι6×ι7×ι8×ι9×ι10×ι11 // v x.1 x.2.1 x.2.2.1 x.2.2.2.1 x.2.2.2.2.1 x.2.2.2.2.2.1 x.2.2.2.2.2.2.1 x.2.2.2.2.2.2.2.1 x.2.2.2.2.2.2.2.2.1 x.2.2.2.2.2.2.2.2.2.1 x.2.2.2.2.2.2.2.2.2.2.1 x.2.2.2.2.2.2.2.2.2.2.2=v y.1 y.2.1 y.2.2.1 y.2.2.2.1 y.2.2.2.2.1 y.2.2.2.2.2.1 y.2.2.2.2.2.2.1 y.2.2.2.2.2.2.2.1 y.2.2.2.2.2.2.2.2.1 y.2.2.2.2.2.2.2.2.2.1 y.2.2.2.2.2.2.2.2.2.2.1 y.2.2.2.2.2.2.2.2.2.2.2}=>ch y.1.1 y.1.2.1 y.1.2.2.1 y.1.2.2.2.1 y.1.2.2.2.2.1 y.1.2.2.2.2.2.1 y.1.2.2.2.2.2.2.1 y.1.2.2.2.2.2.2.2.1 y.1.2.2.2.2.2.2.2.2.1 y.1.2.2.2.2.2.2.2.2.2.1 y.1.2.2.2.2.2.2.2.2.2.2.1 y.1.2.2.2.2.2.2.2.2.2.2.2) ⟨x,J⟩⟩
end Asn
open Asn
theorem cq {u v:Value}{L L0:List Chunk}(hp:u=v)(h:Cv L L0):Cv L ((Asn.aV v).full u++L0):=h.trans (nX hp)
theorem qN {ι0 ι1 ι2:Type}{v:ι0→ι1→ι2→Value}{ch:ι0→ι1→ι2→List Chunk}{L L0:List Chunk}(x0:ι0)(x1:ι1)(x2:ι2)(h:Cv L (ch x0 x1 x2++L0)):Cv L ((Asn.aX3 v ch).full (v x0 x1 x2)++L0):=h.trans (cY (Q:=fun y:{y:ι0×ι1×ι2 // v x0 x1 x2=v y.1 y.2.1 y.2.2}=>ch y.1.1 y.1.2.1 y.1.2.2) ⟨(x0,x1,x2),rfl⟩)
def mw (ds:List Nat)(As:List Asn):List Nat→(aQ→List Chunk→List Chunk→Prop)→aQ→List Chunk→List Chunk→Prop
 | [],K,s,L,L2=>K s L L2
 |i::r,K,s,L,L2=>(As.getD i (aV undef)).Op fun u c=>mw ds As r (fun s' L' L2'=>K ((ds.getD i 0,u)::s') (c++L') (c++L2')) s L L2
abbrev qo (ds:List Nat)(As:List Asn)(ix:List Nat)(K:aQ→List Chunk→Prop)(s:aQ)(L:List Chunk):Prop:=mw ds As ix (fun s L _=>K s L) s L L
def fi (As:List Asn):List (Value→List Chunk):=As.map Asn.full
theorem jz (As:List Asn)(i:Nat)(h:i<As.length):(fi As).getD i (fun _=> [])=(As.getD i (aV undef)).full:=by
 simp [fi,h]
section
variable {As:List Asn} {val:Nat→Value} {ds:List Nat}
theorem mD {i:Nat}{r:List Nat}{L:List Chunk}(hi:i<As.length):jQ (fi As) val (i::r) L=(As.getD i (aV undef)).full (val i)++jQ (fi As) val r L:=by
 unfold jQ;rw [List.flatMap_cons,jz _ _ hi,uR]
theorem fK {s:aQ}{L L2:List Chunk}{w:World}: ∀(ix:List Nat) (K:aQ→List Chunk→List Chunk→Prop) (Z:List Chunk),(∀i∈ix,i<As.length)→Sp Z (jQ (fi As) val ix L) w→mw ds As ix K s L L2→ ∃C,K (kZ ds val ix s) (C++L) (C++L2)∧Sp Z (C++L) w∧ ∀L',Cv (C++L') (jQ (fi As) val ix L')
 | [],K,Z,_,hw,h=>⟨[],h,hw,fun L'=>ao _⟩
 | i::r,K,Z,hi,hw,h=>by
  have hil:=hi i (by simp);rw [mD hil] at hw;obtain ⟨c,h1,h2,h3⟩:=(As.getD i (aV undef)).hop _ _ _ _ _ hw h
  have h4:Sp (c++Z) (jQ (fi As) val r L) w:=SepL.perm h2 (by
   show ((c++jQ (fi As) val r L)++Z).Perm (jQ (fi As) val r L++(c++Z));rw [uR]
   exact (List.perm_append_comm_assoc _ _ _))
  obtain ⟨C,g1,g2,g3⟩:=fK r _ (c++Z) (fun j hj=>hi j (by simp [hj])) h4 h1;refine ⟨c++C,?_,?_,fun L'=> ?_⟩
  ·rw [uR,uR];exact g1
  ·rw [uR];refine SepL.perm g2 ?_;show ((C++L)++(c++Z)).Perm ((c++(C++L))++Z);rw [uR c (C++L) Z];exact List.perm_append_comm_assoc _ _ _
  rw [uR,mD hil];exact (ft c (g3 L')).trans (h3 _)
variable {P:Program} {ops:Array Oper} {s:aQ} {o:Oper} {A:Value→List Chunk} {L L2:List Chunk}
theorem oZ {ix:List Nat}(hi: ∀i∈ix,i<As.length)(h:mw ds As ix (fun s' L' L''=>sx P ops s' L' L'' o A) s L L2):sx P ops (kZ ds val ix s) (jQ (fi As) val ix L) (jQ (fi As) val ix L2) o A:=fun Z w hw=>by
 obtain ⟨C,h1,h2,h3⟩:=fK ix _ Z hi hw h;rcases h1 Z w h2 with ⟨h1,h2⟩|⟨h1,h2⟩
 ·refine .inl ⟨h1,fun ρ hρ=> ?_⟩;rcases h2 ρ hρ with ⟨v,w',L',h1,h2,h4⟩|⟨w',L',h1,h2,h4⟩|⟨f,args,h1,h2⟩|⟨l,f,t,a,b,h1,h2⟩
  ·exact .inl ⟨v,w',L',h1,h2,h4.trans (ft _ (h3 _))⟩
  ·exact .inr (.inl ⟨w',L',h1,h2,h4.trans (ft _ (h3 _))⟩)
  ·exact .inr (.inr (.inl ⟨f,args,h1,h2.mono fun e w' ⟨v,L',g1,g2,g3⟩=>⟨v,L',g1,g2,g3.trans (ft _ (h3 _))⟩⟩))
  exact .inr (.inr (.inr ⟨l,f,t,a,b,h1,h2.mono fun e w' ⟨v,L',g1,g2,g3⟩=>⟨v,L',g1,g2,g3.trans (ft _ (h3 _))⟩⟩))
 exact .inr ⟨h1,ft _ (h3 _) _ _ h2⟩
theorem o7 {ix:List Nat}(hi: ∀i∈ix,i<As.length)(h:qo ds As ix (fun s' L'=>tM P ops s' L' L' o A) s L):QS P ops (kZ ds val ix s) (jQ (fi As) val ix L) o A:=fun Z w hw=>by
 obtain ⟨C,h1,h2,h3⟩:=fK ix _ Z hi hw h;obtain ⟨v,g1,g2,g3⟩:=h1 Z w h2;exact ⟨v,g1,g2,ft _ (h3 _) _ _ g3⟩
theorem rR {X:Cx}{K:K3}{fuel:Nat}{listed:Array Bool}{ix:List Nat}(hi: ∀i∈ix,i<As.length)(h:qo ds As ix (fun s' L'=>mM X ops K fuel listed s' L') s L):mM X ops K fuel listed (kZ ds val ix s) (jQ (fi As) val ix L):=fun H Ds a w ha hds hw=>by
 obtain ⟨C,h1,h2,h3⟩:=fK ix _ _ hi hw h;exact h1 H Ds a w ha hds h2
end
theorem mh {s t:aQ}(h:le s t:=by first|exact d9|(repeat (first|exact qb|refine oX rfl ?_))):le s t:=h
end
section
open Go.RowKit
class Fc (p:Prop):Prop where out:p
class FcA (P:Program) (t f:Nat) (o':outParam Nat):Prop where
  out: ∀b o w,(Instr.fieldAt t (.pointer (some ⟨b,o,none⟩)) f).run P w=.ok (.pointer (some ⟨b,o+o',none⟩)) w
class FcA0 (P:Program) (t f:Nat):Prop where
  out: ∀b o w,(Instr.fieldAt t (.pointer (some ⟨b,o,none⟩)) f).run P w=.ok (.pointer (some ⟨b,o,none⟩)) w
class FcS (P:Program) (t:Nat) (e:outParam Nat):Prop where
  out:P.underlying t=some (.slice e)
class FcG (P:Program) (t:Nat) (m:outParam Nat):Prop where
  out:gz P t m=true
class FcZ (P:Program) (e:Nat) (sz:outParam Nat):Prop where
  out:cf P e sz=true
def oG:IntKind→IntKind→Bool
  | .i64,.i64=>true
  | .u64,.u64=>true
  | .u8,.u8=>true
  | .i32,.i32=>true
  | .u32,.u32=>true
  | .u16,.u16=>true
  | .i16,.i16=>true
  | .i8,.i8=>true
  |_,_=>false
theorem jx {a b:IntKind}(h:oG a b=true):a=b:=by
  cases a<;>cases b<;>first|rfl|cases h
def tH (s:aQ):Op→Option Value
  | .move x=>aY s x
  | .assign x=>aY s x
  | .unOp .not _ x=>match aY s x with|some (.bool b)=>some (.bool (!b))|_=>none
  | .binOp .eql _ x y _=>match aY s x,aY s y with|some (.int k a),some (.int k' b)=>bif oG k k' then some (.bool (decide (a=b))) else none|_,_=>none
  | .binOp .neq _ x y _=>match aY s x,aY s y with|some (.int k a),some (.int k' b)=>bif oG k k' then some (.bool (!decide (a=b))) else none|_,_=>none
  | .binOp .lss _ x y _=>match aY s x,aY s y with|some (.int k a),some (.int k' b)=>bif oG k k' then some (.bool (decide (a<b))) else none|_,_=>none
  | .binOp .leq _ x y _=>match aY s x,aY s y with|some (.int k a),some (.int k' b)=>bif oG k k' then some (.bool (decide (a≤b))) else none|_,_=>none
  | .binOp .gtr _ x y _=>match aY s x,aY s y with|some (.int k a),some (.int k' b)=>bif oG k k' then some (.bool (decide (b<a))) else none|_,_=>none
  | .binOp .geq _ x y _=>match aY s x,aY s y with|some (.int k a),some (.int k' b)=>bif oG k k' then some (.bool (decide (b≤a))) else none|_,_=>none
  | .pick c x y=>match aY s c with|some (.bool true)=>aY s x|some (.bool false)=>aY s y|_=>none
  | .extract x i=>match aY s x with|some (.tuple vs)=>vs[i]? |_=>none
  | .nilCheck x=>match aY s x with|some (.pointer (some a))=>some (.pointer (some a))|_=>none
  |_=>none
section
variable {P:Program} {s:aQ} {L:List Chunk} {d:Option Nat} {ty:TypeId} {pos:String} {af:Array Edge} {gd:Option (Nat×Bool)} {op:Op} {v:Value}
theorem rX (h:tH s op=some v):Ev P s (fun _=>True) ⟨d,op,ty,pos,af,gd⟩ v:=by
  unfold tH at h;split at h
  ·exact ax h
  ·exact aX h
  · split at h
    ·cases h;exact rT ‹_›
    ·cases h
  · split at h
    · rename_i k a k' b hx hy
      cases hk:oG k k' with
      |false=>rw [hk] at h;cases h
      |true=>rw [hk] at h;cases jx hk;cases h;exact sY hx hy
    ·cases h
  · split at h
    · rename_i k a k' b hx hy
      cases hk:oG k k' with
      |false=>rw [hk] at h;cases h
      |true=>rw [hk] at h;cases jx hk;cases h;exact sU hx hy
    ·cases h
  · split at h
    · rename_i k a k' b hx hy
      cases hk:oG k k' with
      |false=>rw [hk] at h;cases h
      |true=>rw [hk] at h;cases jx hk;cases h;exact sV hx hy
    ·cases h
  · split at h
    · rename_i k a k' b hx hy
      cases hk:oG k k' with
      |false=>rw [hk] at h;cases h
      |true=>rw [hk] at h;cases jx hk;cases h;exact sW hx hy
    ·cases h
  · split at h
    · rename_i k a k' b hx hy
      cases hk:oG k k' with
      |false=>rw [hk] at h;cases h
      |true=>rw [hk] at h;cases jx hk;cases h;exact sX hx hy
    ·cases h
  · split at h
    · rename_i k a k' b hx hy
      cases hk:oG k k' with
      |false=>rw [hk] at h;cases h
      |true=>rw [hk] at h;cases jx hk;cases h;exact pu hx hy
    ·cases h
  · split at h
    ·exact ln ‹_› h
    ·exact gT ‹_› h
    ·cases h
  · split at h
    ·exact aR ‹_› h
    ·cases h
  · split at h
    ·cases h;exact az ‹_›
    ·cases h
  ·cases h
end
structure RunT (X:Cx) (ops:Array Oper) (o:Oper) (rest:List Oper) (K:K3) (s:aQ) (L:List Chunk):Prop where
  out:aM ops s o=some true→bw X ops (o::rest) K s L
section
variable {X:Cx} {ops:Array Oper} {K:K3} {s:aQ} {L:List Chunk} {l rest:List Oper} {c:Code} {d:Nat} {op:Op} {ty:TypeId} {pos:String} {af:Array Edge} {gd:Option (Nat×Bool)} {v:Value}
theorem tT {o:Oper}(h:RunT X ops o rest K s L)(hg:aM ops s o=some true:=by first|exact rfl|exact aZ (by assumption) rfl|exact fs (by assumption) rfl):bw X ops (o::rest) K s L:=h.out hg
theorem tU (k:bw X ops rest K ((d,undef)::s) L)(hg:aM ops s ⟨some d,op,ty,pos,af,gd⟩=some false:=by first|exact rfl|exact tD (by assumption) rfl|exact tG (by assumption) rfl)(hd:Nat.ble (d+1) X.n=true:=by exact rfl):bw X ops (⟨some d,op,ty,pos,af,gd⟩::rest) K s L:=tO hg hd k
theorem tE (h:tH s op=some v)(hn:dh ⟨some d,op,ty,pos,af,gd⟩=true)(hd:Nat.ble (d+1) X.n=true)(k:bw X ops rest K ((d,v)::s) L):RunT X ops ⟨some d,op,ty,pos,af,gd⟩ rest K s L:=⟨fun hg=>fv (rX h) hn hg hd k⟩
theorem tP {c x y:Operand}{g:Bool}(hc:aY s c=some (.bool g))(hg:g=true)(hx:aY s x=some v)(hd:Nat.ble (d+1) X.n=true)(k:bw X ops rest K ((d,v)::s) L):RunT X ops ⟨some d,.pick c x y,ty,pos,af,gd⟩ rest K s L:=⟨fun hh=>fv (nb hg hc hx) rfl hh hd k⟩
theorem tQ {c x y:Operand}{g:Bool}(hc:aY s c=some (.bool g))(hg:g=false)(hy:aY s y=some v)(hd:Nat.ble (d+1) X.n=true)(k:bw X ops rest K ((d,v)::s) L):RunT X ops ⟨some d,.pick c x y,ty,pos,af,gd⟩ rest K s L:=⟨fun hh=>fv (nc hg hc hy) rfl hh hd k⟩
theorem tV {t f:Nat}{x:Operand}{b o:Nat}[h:FcA0 X.P t f](hx:aY s x=some (.pointer (some ⟨b,o,none⟩)))(hd:Nat.ble (d+1) X.n=true)(k:bw X ops rest K ((d,.pointer (some ⟨b,o,none⟩))::s) L):RunT X ops ⟨some d,.fieldAddr t x f,ty,pos,af,gd⟩ rest K s L:=⟨fun hh=>fv (dH hx h.out) rfl hh hd k⟩
theorem tF {t f o':Nat}{x:Operand}{b o:Nat}[h:FcA X.P t f o'](hx:aY s x=some (.pointer (some ⟨b,o,none⟩)))(hd:Nat.ble (d+1) X.n=true)(k:bw X ops rest K ((d,.pointer (some ⟨b,o+o',none⟩))::s) L):RunT X ops ⟨some d,.fieldAddr t x f,ty,pos,af,gd⟩ rest K s L:=⟨fun hh=>fv (bO hx h.out) rfl hh hd k⟩
theorem tB {t bt:TypeId}{x:Operand}{b o:Nat}{cs:List Value}[hu:Fc (dl X.P t=true)](i:Nat)(hi:L[i]? =some (ak b bt cs))(hx:aY s x=some (.pointer (some ⟨b,o,none⟩)))(hc:cs[o]? =some v)(hd:Nat.ble (d+1) X.n=true)(k:bw X ops rest K ((d,v)::s) L):RunT X ops ⟨some d,.load t x,ty,pos,af,gd⟩ rest K s L:=⟨fun hh=>bG (aH i hi hx hu.out hc) rfl hh hd k⟩
theorem ts (h:bw X ops l K s L):bw X ops l K s L:=h
theorem t1 {s2:aQ}{L2:List Chunk}(h:bw X ops l (mP s2 L2) s L):bw X ops l (mP s2 L2) s L:=h
theorem t3 {o:Oper}{l':List Oper}(hl:l'=o::l)(h:bw X ops (o::l) K s L):bw X ops l' K s L:=hl▸h
theorem t0 {l':List Oper}(hl:l'=[])(h:K .normal s L):bw X ops l' K s L:=hl▸oo h
theorem t2 {id:Nat}{g:Operand}{ps:Array Nat}{x y:Code}(h:Wq X (.block id (.rangeFunc g ps x y)) K s L):Wq X (.block id (.rangeFunc g ps x y)) K s L:=h
theorem tZ (h:Wq X c K s L):Wq X c K s L:=h
end
structure Bxd (q:Prop):Prop where un:q
theorem I {p q:Prop}(k:q)(h:Bxd q→p:=by
  intro k
  repeat (first
    | (with_reducible refine ts ?_
       refine t3 J ?_
       first
         | (refine tT ?_
            first
              |refine tE rfl rfl rfl ?_
              |refine tV rfl rfl ?_
              |refine tF rfl rfl ?_
              |refine tB 0 rfl rfl rfl rfl ?_
              |refine tB 1 rfl rfl rfl rfl ?_
              |refine tB 2 rfl rfl rfl rfl ?_
              |refine tB 3 rfl rfl rfl rfl ?_
              |refine tB 4 rfl rfl rfl rfl ?_
              |refine tB 5 rfl rfl rfl rfl ?_
              |refine tB 6 rfl rfl rfl rfl ?_
              |refine tB 7 rfl rfl rfl rfl ?_
              |refine tP rfl (by assumption) rfl rfl ?_
              |refine tQ rfl (by assumption) rfl rfl ?_)
         |refine tU ?_)
    | (with_reducible refine ts ?_
       fail_if_success with_reducible refine t1 ?_
       refine t0 J ?_)
    | (with_reducible refine tZ ?_
       first
         |refine ay (ej ?_)
         |with_reducible refine ej ?_
         |with_reducible refine nu ?_
         | (fail_if_success with_reducible refine t2 ?_
            with_reducible refine gY ?_)
         |with_reducible refine rG ?_
         |with_reducible refine pY ?_)
    |with_reducible refine eH ?_
    |with_reducible refine te ?_
    |with_reducible refine td ?_
    |with_reducible refine tc ?_
    |with_reducible refine sR ?_
    |with_reducible refine sS ?_)
  exact k.un):p:=h ⟨k⟩
theorem ub {p q:Prop}(k:q)(h:Bxd q→p:=by
  intro k
  repeat (first
    | (with_reducible refine ts ?_
       refine t3 J ?_
       first
         | (refine tT ?_
            first
              |refine tE rfl rfl rfl ?_
              |refine tV rfl rfl ?_
              |refine tF rfl rfl ?_
              |refine tB 0 rfl rfl rfl rfl ?_
              |refine tB 1 rfl rfl rfl rfl ?_
              |refine tB 2 rfl rfl rfl rfl ?_
              |refine tB 3 rfl rfl rfl rfl ?_
              |refine tB 4 rfl rfl rfl rfl ?_
              |refine tB 5 rfl rfl rfl rfl ?_
              |refine tB 6 rfl rfl rfl rfl ?_
              |refine tB 7 rfl rfl rfl rfl ?_
              |refine tP rfl (by assumption) rfl rfl ?_
              |refine tQ rfl (by assumption) rfl rfl ?_)
         |refine tU ?_))
  exact k.un):p:=h ⟨k⟩
theorem ua {p q:Prop}(k:q)(h:Bxd q→p:=by
  intro k
  repeat (first
    | (with_reducible refine ts ?_
       fail_if_success with_reducible refine t1 ?_
       refine t0 J ?_)
    | (with_reducible refine tZ ?_
       first
         |refine ay (ej ?_)
         |with_reducible refine ej ?_
         |with_reducible refine nu ?_
         | (fail_if_success with_reducible refine t2 ?_
            with_reducible refine gY ?_)
         |with_reducible refine rG ?_
         |with_reducible refine pY ?_)
    |with_reducible refine eH ?_
    |with_reducible refine te ?_
    |with_reducible refine td ?_
    |with_reducible refine tc ?_
    |with_reducible refine sR ?_
    |with_reducible refine sS ?_)
  exact k.un):p:=h ⟨k⟩
end
section
open Go.RowKit
open Asn
def nz (m:Nat)(listed:Array Bool)(Bs:List (List Chunk)):List Chunk:=((List.range m).filter fun i=> !listed.getD i false).flatMap fun i=>Bs.getD i []
theorem ny {m:Nat}{listed:Array Bool}{Bs:List (List Chunk)}(h: ∀i,i<m→listed.getD i false=true):nz m listed Bs=[]:=by
 unfold nz;rw [List.filter_eq_nil_iff.2 fun i hi=>by rw [h i (List.mem_range.1 hi)];simp];rfl
theorem oW {m j:Nat}{listed:Array Bool}{Bs:List (List Chunk)}(hj:j<m)(hf:listed.getD j false=false)(hs:j<listed.size):(nz m listed Bs).Perm (Bs.getD j []++nz m (listed.setIfInBounds j true) Bs):=by
 unfold nz
 have hp:((List.range m).filter fun i=> !listed.getD i false).Perm (j::(List.range m).filter fun i=> !(listed.setIfInBounds j true).getD i false):=by
  refine (List.perm_ext_iff_of_nodup (List.nodup_range.filter _) (List.nodup_cons.2 ⟨fun h=> ?_,List.nodup_range.filter _⟩)).2 fun k=> ?_
  ·have h2:=(List.mem_filter.1 h).2;simp [hs] at h2
  rw [List.mem_cons,List.mem_filter,List.mem_filter];by_cases e:k=j
  ·subst e;simp [hj,hf]
  have h3:(listed.setIfInBounds j true).getD k false=listed.getD k false:=by
   simp [Array.getElem?_setIfInBounds_ne (fun h=>e h.symm)]
  rw [h3];simp [e]
 exact hp.flatMap_right _
theorem oC {α:Type}{F Fp Fr U B U' L D:List α}(h1:F.Perm (Fp++Fr))(h2:U.Perm (B++U')):(F++(U++L)++D).Perm ((Fp++(B++L))++(Fr++(U'++D))):=by
 classical
 rw [List.perm_iff_count] at h1 h2⊢;intro x;have:=h1 x;have:=h2 x;simp only [List.count_append] at*;omega
theorem o9 {α:Type}{F F' Fp Fr A U L D:List α}(h1:F'.Perm (A++F))(h2:F.Perm (Fp++Fr)):((A++(Fp++L))++(Fr++(U++D))).Perm (F'++(U++L)++D):=by
 classical
 rw [List.perm_iff_count] at h1 h2⊢;intro x;have:=h1 x;have:=h2 x;simp only [List.count_append] at*;omega
theorem rk {X:Cx}{K:K3}{s:aQ}{L:List Chunk}{id:Nat}{l:List Oper}(hm:X.P.follows .mixedOrders=true)(m:Nat)(qs:List Nat)(ds:List Nat)(pr:List (List Nat))(As:List (Value→List Chunk))(Bs:List (List Chunk)){L0:List Chunk}(hL:Cv L0 (nz m (Array.replicate l.length false) Bs++L))(hBq: ∀q∈qs,Bs.getD q []=[])(hok:sQ l.toArray m qs ds pr s X.n=true)
  (qstep: ∀q∈qs, ∀(o:Oper),q<m→l.toArray[q]? =some o→ ∀val:Nat→Value,QS X.P l.toArray (kZ ds val (pr.getD q []) s) (jQ As val (pr.getD q []) L) o (As.getD q fun _=> []))
  (step: ∀(i:Nat) (o:Oper),i<m→l.toArray[i]? =some o→ ∀val:Nat→Value,sx X.P l.toArray (kZ ds val (pr.getD i []) s) (jQ As val (pr.getD i []) (Bs.getD i []++L)) (jQ As val (pr.getD i []) L) o (As.getD i fun _=> []))
  (fin: ∀val:Nat→Value,mM X l.toArray K (l.length - m) (eO (Array.replicate l.length false) (List.range m)) (kZ ds val (List.range m) s) (jQ As val (List.range m) L)):Wq X (.region id l.toArray true) K s L0:=by
 unfold sQ at hok;simp only [Bool.and_eq_true,decide_eq_true_eq,List.all_eq_true,List.mem_range] at hok;obtain ⟨⟨⟨⟨⟨⟨⟨⟨hns,hqs⟩,h1⟩,h2⟩,h3⟩,h4⟩,h5⟩,h6⟩,h7⟩:=hok;simp only [List.size_toArray] at h2 h7 hqs
 have hdst: ∀i o,i<m→l.toArray[i]? =some o→o.dst=some (ds.getD i 0):=fun i o hi ho=>by
  have h8:=(h6 i hi).1.1.1;rw [ho] at h8
  have h9:o.dst=ds[i]? :=by simpa using h8
  rw [h9];simp [List.getD,h3,hi]
 have hds: ∀i j,i<m→j<m→ds.getD i 0=ds.getD j 0→i=j:=fun i j hi hj e=>by
  have e1:ds.getD i 0=ds[i]'O:=by simp [List.getD,h3,hi]
  have e2:ds.getD j 0=ds[j]'O:=by simp [List.getD,h3,hj]
  rw [e1,e2] at e;have hp:=List.pairwise_iff_getElem.1 h4;rcases Nat.lt_trichotomy i j with h|h|h
  ·exact absurd e (hp i j O O h)
  ·exact h
  exact absurd e.symm (hp j i O O h)
 have hdn: ∀i,i<m→ds.getD i 0<X.n∧ ∀k v,cy s k=some v→k≠ds.getD i 0:=fun i hi=>by
  have hmem:ds.getD i 0∈ds:=by
   have e1:ds.getD i 0=ds[i]'O:=by simp [List.getD,h3,hi]
   rw [e1];exact List.getElem_mem _
  have h8:=h5 _ hmem;refine ⟨Nat.le_of_ble_eq_true h8.1,fun k v hp e=> ?_⟩;have h9:=h8.2 _ (fC _ _ _ hp);simp only [e,Nat.beq_refl] at h9;cases h9
 have hpr: ∀i,i<m→(∀k∈pr.getD i [],k∈ju l.toArray i∧k<m)∧(pr.getD i []).Nodup∧ ∀k∈iZ l.toArray i,k<i:=fun i hi=>by
  obtain ⟨⟨⟨-,g2⟩,g3⟩,g4⟩:=h6 i hi;refine ⟨fun k hk=> ?_,g3,fun k hk=> ?_⟩
  ·have g5:=g2 k hk;exact ⟨by simpa using g5.1,Nat.lt_of_succ_le (Nat.le_of_ble_eq_true g5.2)⟩
  exact Nat.lt_of_succ_le (Nat.le_of_ble_eq_true (g4 k hk))
 -- the invariant
 have main: ∀(fuel:Nat) (listed:Array Bool) (val:Nat→Value) (H:List Chunk) (Ds:List Nat) (a:Act) (w:World),listed.size=l.length→ki l.toArray listed→(∀t,m≤t→listed.getD t false=false)→fuel+(kW m listed).length=l.length→Fx X s a→(∀i,i<m→listed.getD i false=true→a.tmps.getD (ds.getD i 0) undef=val i)→a.defers=Ds.map fU→Sp (Ds.map aU++H) (jQ As val (kW m listed) (nz m listed Bs++L)) w→wpAnyIn (jZ X.r) 0 X.P .any l.toArray (gH X H (iu K)) fuel listed a w:=by
  intro fuel
  induction fuel with
  | zero=>
   intro listed val H Ds a w hsz hcl hhi hfu hfx hval hdf hsp;have hle:(kW m listed).length≤(List.range m).length:=List.length_filter_le _ _
   have hm':m=l.length:=by rw [List.length_range] at hle;omega
   have hlst:kW m listed=List.range m:=List.filter_eq_self.2 fun i hi=>List.length_filter_eq_length_iff.1 (show (kW m listed).length=(List.range m).length by rw [List.length_range];omega) i hi
   have hli:eO (Array.replicate l.length false) (List.range m)=listed:=by
    apply Array.ext
    ·rw [df];simp [hsz]
    intro k hk hk2;rw [df] at hk;have e1:=iD (List.range m) (Array.replicate l.length false) k hk;simp only [Array.size_replicate] at hk
    have hin:k∈kW m listed:=by rw [hlst];simp;omega
    have e2:=(dN.1 hin).2
    have e3:(List.range m).contains k=true:=by simp;omega
    rw [e3,Bool.or_true] at e1;simp only [Array.getD_eq_getD_getElem?,Array.getElem?_eq_getElem,hk2,Option.getD_some] at e2
    have hk3:k<(eO (Array.replicate l.length false) (List.range m)).size:=by rw [df];simpa using hk
    simp only [Array.getD_eq_getD_getElem?,Array.getElem?_eq_getElem,hk3,Option.getD_some] at e1;rw [e1,e2]
   have hunl:nz m listed Bs=[]:=ny fun i hi=>(dN.1 (by rw [hlst];exact List.mem_range.2 hi)).2
   rw [hlst,hunl,List.nil_append] at hsp
   have hf:=fin val H Ds a w ⟨hfx.size,fun k v hk=>by
    rcases i2 _ _ _ _ hk with h|h
    ·obtain ⟨i,hi,he⟩:=List.mem_map.1 (fC _ _ _ h);cases he
     have hi':i∈kW m listed:=by rw [hlst];exact hi
     exact hval i (dN.1 hi').1 (dN.1 hi').2
    ·exact hfx.at_ k v h⟩ hdf hsp
   rw [hli,show l.length - m=0 by omega] at hf;exact hf
  | succ fuel ih=>
   intro listed val H Ds a w hsz hcl hhi hfu hfx hval hdf hsp;by_cases hall: ∀i,i<m→listed.getD i false=true
   ·have hlst:kW m listed=List.range m:=List.filter_eq_self.2 fun i hi=>hall i (by simpa using hi)
    have hli:eO (Array.replicate l.length false) (List.range m)=listed:=by
     apply Array.ext
     ·rw [df];simp [hsz]
     intro k hk hk2;rw [df] at hk;have e1:=iD (List.range m) (Array.replicate l.length false) k hk
     have hk3:k<(eO (Array.replicate l.length false) (List.range m)).size:=by rw [df];exact hk
     simp only [Array.getD_eq_getD_getElem?,Array.getElem?_eq_getElem,hk3,Option.getD_some] at e1;rw [e1];simp only [Array.size_replicate] at hk;by_cases hkm:k<m
     ·have e2:=hall k hkm;simp only [Array.getD_eq_getD_getElem?,Array.getElem?_eq_getElem,hk2,Option.getD_some] at e2;rw [e2];simp [hkm]
     have e2:=hhi k O;simp only [Array.getD_eq_getD_getElem?,Array.getElem?_eq_getElem,hk2,Option.getD_some] at e2;rw [e2];simp [hk,hkm]
    rw [hlst,ny hall,List.nil_append] at hsp;rw [hlst] at hfu;rw [List.length_range] at hfu
    have hf:=fin val H Ds a w ⟨hfx.size,fun k v hk=>by
     rcases i2 _ _ _ _ hk with h|h
     ·obtain ⟨i,hi,he⟩:=List.mem_map.1 (fC _ _ _ h);cases he
      have hi':i<m:=by simpa using hi
      exact hval i hi' (hall i hi')
     ·exact hfx.at_ k v h⟩ hdf hsp
    rw [hli,show l.length - m=fuel+1 by omega] at hf;exact hf
   have hex: ∃i,i<m∧listed.getD i false=false:=by
    refine Classical.byContradiction fun h=>hall fun i hi=> ?_
    cases hb:listed.getD i false with
    |true=>rfl
    |false=>exact absurd ⟨i,hi,hb⟩ h
   have hun: ∀i,listed.getD i false=false→i<l.length→listed.getD i true=false:=fun i hi hlt=>by
    simp only [Array.getD_eq_getD_getElem?,Array.getElem?_eq_getElem,hsz,hlt,Option.getD_some] at hi⊢;exact hi
   have hleast: ∃i0,i0<m∧listed.getD i0 false=false∧i0∈Region.ready .any l.toArray listed:=by
    obtain ⟨⟨hi0,hu0⟩,hmin⟩:=leastOf_spec hex;generalize leastOf (fun i=>i<m∧listed.getD i false=false)=i0 at hi0 hu0 hmin
    have hlt:i0<l.length:=by omega
    refine ⟨i0,hi0,hu0,?_⟩
    
    refine mem_ready.2 ⟨hun i0 hu0 hlt,l[i0],by simp [hlt],fun e he hb=> ?_⟩
    have hon:e.on∈iZ l.toArray i0:=by
     unfold iZ;rw [show l.toArray[i0]? =some l[i0] by simp [hlt]];exact List.mem_map.2 ⟨e,List.mem_filter.2 ⟨by simpa using he,hb⟩,J⟩
    have hlt2:=(hpr i0 hi0).2.2 _ hon
    cases hb2:listed.getD e.on false with
    |true=>rfl
    |false=>have:=hmin _ ⟨by omega,hb2⟩;omega
   -- what an operation takes,and going on behind it
   have prep: ∀j o,j∈Region.ready .any l.toArray listed→j<m→l.toArray[j]? =some o→ ∃rest:List Nat,
     Sp ((rest.flatMap fun i=>(As.getD i fun _=> []) (val i))++(nz m (listed.setIfInBounds j true) Bs++(Ds.map aU++H))) (jQ As val (pr.getD j []) (Bs.getD j []++L)) w∧Fx X (kZ ds val (pr.getD j []) s) a∧
     ∀(v:Value) (w':World),Sp ((rest.flatMap fun i=>(As.getD i fun _=> []) (val i))++(nz m (listed.setIfInBounds j true) Bs++(Ds.map aU++H))) ((As.getD j fun _=> []) v++jQ As val (pr.getD j []) L) w'→wpAnyIn (jZ X.r) 0 X.P .any l.toArray (gH X H (iu K)) fuel (listed.setIfInBounds j true) (a.put o.dst v) w':=by
    intro j o hj hjm ho;obtain ⟨hju,o2,ho2,hedge⟩:=mem_ready.1 hj;rw [ho] at ho2;cases ho2
    have hjl:j<l.length:=by
     have:=(Array.getElem?_eq_some_iff.1 ho).1;simpa using this
    have hjf:listed.getD j false=false:=by
     simp only [Array.getD_eq_getD_getElem?,Array.getElem?_eq_getElem,hsz,hjl,Option.getD_some] at hju⊢;exact hju
    obtain ⟨hp1,hp2,hp3⟩:=hpr j hjm
    have hps: ∀k∈pr.getD j [],k∈kW m listed:=fun k hk=>by
     obtain ⟨g1,g2⟩:=hp1 k hk;exact dN.2 ⟨g2,iF hcl hj (gk k g1)⟩
    have hd:=hdst j o hjm ho;obtain ⟨hdlt,hdne⟩:=hdn j hjm
    -- the chunks that the operation takes,and the rest
    have hperm:(kW m listed).Perm (pr.getD j []++(kW m listed).filter fun k=> !(pr.getD j []).contains k):=by
     refine (List.perm_ext_iff_of_nodup lst_nodup ?_).2 fun k=> ?_
     ·refine List.nodup_append.2 ⟨hp2,lst_nodup.filter _,fun x hx y hy e=> ?_⟩;subst e;have h11:=(List.mem_filter.1 hy).2;have h12:(pr.getD j []).contains x=true:=List.contains_iff_mem.2 hx;rw [h12] at h11;cases h11
     constructor
     ·intro hk;by_cases hkp:k∈pr.getD j []
      ·exact List.mem_append_left _ hkp
      exact List.mem_append_right _ (List.mem_filter.2 ⟨hk,by simpa using hkp⟩)
     intro hk;rcases List.mem_append.1 hk with hk|hk
     ·exact hps k hk
     exact (List.mem_filter.1 hk).1
    generalize hrest:(kW m listed).filter (fun k=> !(pr.getD j []).contains k)=rest at hperm
    have hsp1:Sp ((rest.flatMap fun i=>(As.getD i fun _=> []) (val i))++(nz m (listed.setIfInBounds j true) Bs++(Ds.map aU++H))) (jQ As val (pr.getD j []) (Bs.getD j []++L)) w:=by
     refine SepL.perm hsp ?_;unfold jQ;have e1:=kf (As:=As) (val:=val) hperm;rw [List.flatMap_append] at e1;have e9:=oW (Bs:=Bs) (m:=m) (listed:=listed) hjm hjf (by rw [hsz];exact hjl);exact oC e1 e9
    have hfxs:Fx X (kZ ds val (pr.getD j []) s) a:=⟨hfx.size,fun k v hk=>by
     rcases i2 _ _ _ _ hk with h|h
     ·obtain ⟨i,hi,he⟩:=List.mem_map.1 (fC _ _ _ h);cases he;exact hval i (dN.1 (hps i hi)).1 (dN.1 (hps i hi)).2
     ·exact hfx.at_ k v h⟩
    refine ⟨rest,hsp1,hfxs,?_⟩
    have go: ∀(v:Value) (w':World),Sp ((rest.flatMap fun i=>(As.getD i fun _=> []) (val i))++(nz m (listed.setIfInBounds j true) Bs++(Ds.map aU++H))) ((As.getD j fun _=> []) v++jQ As val (pr.getD j []) L) w'→wpAnyIn (jZ X.r) 0 X.P .any l.toArray (gH X H (iu K)) fuel (listed.setIfInBounds j true) (a.put o.dst v) w':=by
     intro v w' hsp2;rw [hd]
     have hjn:j∉kW m listed:=fun h=>by have:=(dN.1 h).2;rw [hjf] at this;cases this
     have hl2:(kW m (listed.setIfInBounds j true)).Perm (j::kW m listed):=by
      refine (List.perm_ext_iff_of_nodup lst_nodup (List.nodup_cons.2 ⟨hjn,lst_nodup⟩)).2 fun k=> ?_
      rw [dN,List.mem_cons,dN];constructor
      ·rintro ⟨g1,g2⟩;rcases eU g2 with e|e
       ·exact .inl e
       exact .inr ⟨g1,e⟩
      rintro (e|⟨g1,g2⟩)
      ·subst e;refine ⟨hjm,?_⟩;simp [hsz,hjl]
      exact ⟨g1,getD_set_true g2⟩
     refine ih (listed.setIfInBounds j true) (fun k=>if k=j then v else val k) H Ds (a.put (some (ds.getD j 0)) v) w' (by simpa using hsz) (ng hcl hj) (fun t ht=> ?_) ?_ ?_ ?_ ((put_defers _ _ _).trans hdf) ?_
     ·rw [getD_set_ne false O];exact hhi t ht
     ·have:=hl2.length_eq;rw [List.length_cons] at this;omega
     ·refine (hfx.put v hdlt).sub fun k u hk=> ?_
      rw [cN,if_neg (fun e=>hdne k u hk e.symm)];exact hk
     ·intro i hi hli;have hput:(a.put (some (ds.getD j 0)) v).tmps=a.tmps.setIfInBounds (ds.getD j 0) v:=rfl;rw [hput];by_cases e:i=j
      ·subst e;rw [if_pos rfl]
       have h13:ds.getD i 0<a.tmps.size:=by rw [hfx.size];exact hdlt
       generalize ds.getD i 0=dd at h13⊢;simp [h13]
      rw [if_neg e];rcases eU hli with e2|e2
      ·exact absurd e2 e
      rw [←hval i hi e2]
      have hne:ds.getD j 0≠ds.getD i 0:=fun h=>e (hds j i hjm hi h).symm
      generalize ds.getD j 0=dd at hne⊢;generalize ds.getD i 0=de at hne⊢;simp [Array.getElem?_setIfInBounds_ne hne]
     refine SepL.perm hsp2 ?_;unfold jQ;have e1:=kf (As:=As) (val:=fun k=>if k=j then v else val k) hl2;rw [List.flatMap_cons,if_pos rfl] at e1
     have e2:((kW m listed).flatMap fun i=>(As.getD i fun _=> []) (if i=j then v else val i))=(kW m listed).flatMap fun i=>(As.getD i fun _=> []) (val i):=by
      have key: ∀l':List Nat,(∀i∈l',i∈kW m listed)→(l'.flatMap fun i=>(As.getD i fun _=> []) (if i=j then v else val i))=l'.flatMap fun i=>(As.getD i fun _=> []) (val i):=by
       intro l'
       induction l' with
       |nil=>intro _;rfl
       |cons i l' ihl=>
        intro hl';rw [List.flatMap_cons,List.flatMap_cons,ihl fun q hq=>hl' q (by simp [hq]),if_neg (fun e:i=j=>hjn (e▸hl' i (by simp)))]
      exact key _ fun _ h=>h
     rw [e2] at e1;have e3:=kf (As:=As) (val:=val) hperm;rw [List.flatMap_append] at e3;exact o9 e1 e3
    exact go
   by_cases hq: ∃q∈qs,q<m∧q∈Region.ready .any l.toArray listed
   ·-- an operation whose value does not depend on the world comes first
    obtain ⟨q,hqm,hqlt,hqr⟩:=hq;obtain ⟨hqu,o,ho,hedge⟩:=mem_ready.1 hqr;obtain ⟨rest,hsp1,hfxs,go⟩:=prep q o hqr hqlt ho;rw [hBq q hqm,List.nil_append] at hsp1;obtain ⟨v,hg,hev,hcv⟩:=qstep q hqm o hqlt ho val _ _ hsp1;have hfree:=hqs q hqm;rw [ho] at hfree;simp only [List.all_eq_true,List.mem_range] at hfree;refine iS _ _ _ _ (kk (C:=fun _=>True) (oi:=o) (v:=v) ho (jv h1) (Region.noSelect_spec hns) (fun c a w ⟨_,_,_,_,_,_,he,_⟩=>(by cases he)) fuel listed a w trivial ?_ hqr (.inl ⟨bP hfxs hg,fun w' _=>hev a.eval (fun x u hx=>hfxs.eval hx) w' trivial⟩) (pQ _ _ _ _ (go v w hcv)));intro j oj hoj hne hul hno
    have hjl:j<l.length:=by
     have:=(Array.getElem?_eq_some_iff.1 hoj).1;simpa using this
    have h8:=hfree j hjl;rw [hoj] at h8;simp only [Bool.or_eq_true] at h8;rcases h8 with ((h8|h8)|h8)|h8
    ·exact absurd (Nat.eq_of_beq_eq_true h8) hne
    ·obtain ⟨o',e,ho',he,hb,heq⟩:=kB (List.contains_iff_mem.1 h8);rw [hoj] at ho';cases ho';exact absurd heq (hno e he hb)
    ·have h14:=iF hcl hqr (gk j (List.contains_iff_mem.1 h8));simp only [Array.getD_eq_getD_getElem?,Array.getElem?_eq_getElem,hsz,hjl,Option.getD_some] at h14 hul;rw [h14] at hul;cases hul
    exact h8
   refine ⟨fun hr=> ?_,fun j hj=> ?_⟩
   ·obtain ⟨i0, -, -,hin⟩:=hleast;rw [hr] at hin;cases hin
   obtain ⟨hju,o,ho,hedge⟩:=mem_ready.1 hj
   have hjl:j<l.length:=by
    have:=(Array.getElem?_eq_some_iff.1 ho).1;simpa using this
   have hjm:j<m:=by
    refine Classical.byContradiction fun hge=> ?_
    obtain ⟨i0,hi0,hu0,hin0⟩:=hleast;have h8:=h7 j hjl
    have h9:Nat.blt j m=false:=by
     cases hb:Nat.blt j m with
     |false=>rfl
     |true=>exact absurd (Nat.lt_of_succ_le (Nat.le_of_ble_eq_true hb)) hge
    rw [h9,Bool.false_or,List.all_eq_true] at h8;have h10:=h8 i0 (by simpa using hi0);rw [Bool.or_eq_true] at h10;rcases h10 with h10|h10
    ·exact hq ⟨i0,List.contains_iff_mem.1 h10,hi0,hin0⟩
    have:=iF hcl hj (gk i0 (by simpa using h10));rw [hu0] at this;cases this
   have hndef:dh o=true:=jv h1 j o ho;obtain ⟨rest,hsp1,hfxs,go⟩:=prep j o hj hjm ho;unfold wpOpIn;rw [ho]
   dsimp only
   rcases step j o hjm ho val _ _ hsp1 with ⟨hg,hop⟩|⟨hg,hsp2⟩
   ·rw [if_pos (bP hfxs hg)]
    refine (hop a.eval fun x u hx=>hfxs.eval hx).wpIn hndef fun v L' w' hc hs=> ?_
    exact go v w' (hc _ _ hs)
   rw [if_neg (by rw [bP hfxs hg];exact Bool.false_ne_true)];exact ⟨fun _ _=>trivial,go undef w hsp2⟩
 intro H Ds a w ha hds' hw;have hw1:Sp (Ds.map aU++H) (nz m (Array.replicate l.length false) Bs++L) {w with drawn:=w.drawn+1}:=SepL.same (hL _ _ hw) ⟨rfl,rfl,rfl,Nat.le_refl _,fun _ _ _=>rfl⟩
 have hf: ∀k,(Array.replicate l.length false).getD k false=false:=fun k=>by
  simp only [Array.getD_eq_getD_getElem?,Array.getElem?_replicate];split<;>rfl
 have hl0:kW m (Array.replicate l.length false)=[]:=by
  refine List.eq_nil_iff_forall_not_mem.2 fun i hi=> ?_
  have:=(dN.1 hi).2;rw [hf] at this;cases this
 have h9:=main l.length (Array.replicate l.length false) (fun _=>undef) H Ds a _ (by simp) (fun k o e hk=>by rw [hf] at hk;cases hk) (fun t _=>hf t) (by rw [hl0];simp) ha (fun i _ hi=>by rw [hf] at hi;cases hi) hds' (by rw [hl0];exact hw1);refine wpIn_mono (wpIn_region_any hm (by simpa using h9)) ?_;rintro e a' w' ⟨s',L',Ds',g1,g2,g3,rfl,g4⟩;exact ⟨s',L',Ds',g1,g2,g3,g4⟩
theorem lC {Bs:List (List Chunk)}: ∀q∈([]:List Nat),Bs.getD q []=[]:=fun _ h=>nomatch h
theorem kc {Bs:List (List Chunk)}{q':Nat}{qs:List Nat}(h:Bs.getD q' []=[])(t: ∀q∈qs,Bs.getD q []=[]): ∀q∈q'::qs,Bs.getD q []=[]:=fun q hq=>(List.mem_cons.1 hq).elim (fun e=>e▸h) (t q)
theorem kC {ds:List Nat}{val:Nat→Value}{s:aQ}: ∀(l:List Nat),(∀i∈l, ∀j∈l,ds.getD i 0=ds.getD j 0→i=j)→ ∀i∈l,cy (l.map (fun i=>(ds.getD i 0,val i))++s) (ds.getD i 0)=some (val i)
 | [],_,i,h=>by cases h
 |j::l,hd,i,h=>by
  rw [List.map_cons,List.cons_append,cN];by_cases e:ds.getD j 0=ds.getD i 0
  ·rw [if_pos e,hd j (by simp) i h e]
  rw [if_neg e];rcases List.mem_cons.1 h with e2|h
  ·subst e2;exact absurd J e
  exact kC l (fun a ha b hb=>hd a (by simp [ha]) b (by simp [hb])) i h
theorem jw {ds:List Nat}{val:Nat→Value}{s:aQ}{k:Nat}: ∀(l:List Nat),(∀i∈l,ds.getD i 0≠k)→cy (l.map (fun i=>(ds.getD i 0,val i))++s) k=cy s k
 | [],_=>rfl
 |j::l,hd=>by
  rw [List.map_cons,List.cons_append,cN,if_neg (hd j (by simp))]
  exact jw l fun i hi=>hd i (by simp [hi])
theorem pB {As:List (Value→List Chunk)}{val:Nat→Value}{L:List Chunk}{m:Nat}{ix:List Nat}(hn:ix.Nodup)(hm: ∀i∈ix,i<m):Cv (jQ As val (List.range m) L) (jQ As val ix L):=by
 have hp:(List.range m).Perm (((List.range m).filter fun i=> !ix.contains i)++ix):=by
  refine (List.perm_ext_iff_of_nodup List.nodup_range ?_).2 fun k=> ?_
  ·refine List.nodup_append.2 ⟨List.nodup_range.filter _,hn,fun x hx y hy e=> ?_⟩;subst e;have h1:=(List.mem_filter.1 hx).2;rw [List.contains_iff_mem.2 hy] at h1;cases h1
  rw [List.mem_append,List.mem_filter,List.mem_range];by_cases h:k∈ix
  ·simp [h,hm k h]
  simp [h]
 have e:=kf (As:=As) (val:=val) hp;rw [List.flatMap_append] at e;unfold jQ;refine Cv.trans (fun Z w h=>SepL.perm h ((e.append_right L).append_right Z)) ?_;rw [uR];exact mC _
theorem kh {X:Cx}{K:K3}{s:aQ}{L L0:List Chunk}{id:Nat}{l:List Oper}(hm:X.P.follows .mixedOrders=true)(m:Nat)(qs:List Nat)(ix:List Nat)(ds:List Nat)(pr:List (List Nat))(As:List Asn)(Bs:List (List Chunk))(hL:Cv L0 (nz m (Array.replicate l.length false) Bs++L))(hBq: ∀q∈qs,Bs.getD q []=[])(hok:sQ l.toArray m qs ds pr s X.n=true)(hlen:Nat.beq As.length m=true)(hix:(ix.all (fun i=>Nat.blt i m)&&decide ix.Nodup)=true)
  (qstep: ∀q∈qs, ∀(o:Oper),q<m→l.toArray[q]? =some o→qo ds As (pr.getD q []) (fun s' L'=>tM X.P l.toArray s' L' L' o (As.getD q (aV undef)).full) s L)
  (step: ∀(i:Nat) (o:Oper),i<m→l.toArray[i]? =some o→mw ds As (pr.getD i []) (fun s' L' L''=>sx X.P l.toArray s' L' L'' o (As.getD i (aV undef)).full) s (Bs.getD i []++L) L)
  (fin:qo ds As ix (fun s' L'=>mM X l.toArray K (l.length - m) (eO (Array.replicate l.length false) (List.range m)) s' L') s L):Wq X (.region id l.toArray true) K s L0:=by
 have hl:As.length=m:=Nat.eq_of_beq_eq_true hlen
 have hpr: ∀i,i<m→ ∀k∈pr.getD i [],k<As.length:=fun i hi k hk=>by
  unfold sQ at hok;simp only [Bool.and_eq_true,List.all_eq_true,List.mem_range] at hok;have h6:=(hok.1.2 i hi).1.1.2 k hk;have h7:=Nat.le_of_ble_eq_true h6.2;omega
 simp only [Bool.and_eq_true,List.all_eq_true,decide_eq_true_eq] at hix
 have hixm: ∀i∈ix,i<m:=fun i hi=>Nat.lt_of_succ_le (Nat.le_of_ble_eq_true (hix.1 i hi))
 have hds:(∀i j,i<m→j<m→ds.getD i 0=ds.getD j 0→i=j)∧ ∀i,i<m→ ∀k v,cy s k=some v→k≠ds.getD i 0:=by
  have hok2:=hok;unfold sQ at hok2;simp only [Bool.and_eq_true,decide_eq_true_eq,List.all_eq_true,List.mem_range] at hok2;obtain ⟨⟨⟨⟨⟨⟨⟨⟨-, -⟩, -⟩, -⟩,h3⟩,h4⟩,h5⟩, -⟩, -⟩:=hok2;refine ⟨fun i j hi hj e=> ?_,fun i hi k v hp e=> ?_⟩
  ·have e1:ds.getD i 0=ds[i]'O:=by simp [List.getD,h3,hi]
   have e2:ds.getD j 0=ds[j]'O:=by simp [List.getD,h3,hj]
   rw [e1,e2] at e;have hp:=List.pairwise_iff_getElem.1 h4;rcases Nat.lt_trichotomy i j with h|h|h
   ·exact absurd e (hp i j O O h)
   ·exact h
   exact absurd e.symm (hp j i O O h)
  have hmem:ds.getD i 0∈ds:=by
   have e1:ds.getD i 0=ds[i]'O:=by simp [List.getD,h3,hi]
   rw [e1];exact List.getElem_mem _
  have h9:=(h5 _ hmem).2 _ (fC _ _ _ hp);simp only [e,Nat.beq_refl] at h9;cases h9
 refine rk hm m qs ds pr (fi As) Bs hL hBq hok (fun q hq o hqm ho val=> ?_) (fun i o him ho val=> ?_) fun val=> ?_
 ·rw [jz _ _ O];exact o7 (hpr q hqm) (qstep q hq o hqm ho)
 ·rw [jz _ _ O];exact oZ (hpr i him) (step i o him ho)
 refine mN (rR (fun i hi=>by have:=hixm i hi;omega) fin) (fun k v hk=> ?_) (pB hix.2 hixm);unfold kZ at hk⊢;by_cases hex: ∃i∈ix,ds.getD i 0=k
 ·obtain ⟨i,hi,rfl⟩:=hex;rw [kC ix (fun a ha b hb e=>hds.1 a b (hixm a ha) (hixm b hb) e) i hi] at hk;rw [kC (List.range m) (fun a ha b hb e=>hds.1 a b (List.mem_range.1 ha) (List.mem_range.1 hb) e) i (List.mem_range.2 (hixm i hi))];exact hk
 rw [jw ix fun i hi e=>hex ⟨i,hi,e⟩] at hk;rw [jw (List.range m) fun i hi e=>hds.2 i (List.mem_range.1 hi) k v hk e.symm];exact hk
section
variable {P:Program} {s:aQ} {C:World→Prop} {d:Option Nat} {ty:TypeId} {pos:String} {af:Array Edge} {gd:Option (Nat×Bool)}
end
end
section
open Go.RowKit
def uc (e:TypeId)(sz:Nat)(v:Value):Chunk where
 ok T _ w:= ∃g n cap cur,v=.slice (some ⟨g,0,none⟩) n cap∧T g∧w.heap[g]? =some (.cells cur e (0,0))∧n≤cap∧cap≤maxLen∧cur.size=cap*sz
 loc:=fun h ⟨g,n,cap,cur,e1,h1,h2,h3⟩=>⟨g,n,cap,cur,e1,h1,Blk.agr (t:=e) h2 h (.inl h1),h3⟩
 mono:=fun _ h=>h
 ro:=false
 dup:=fun h=>Bool.noConfusion h
section
variable {P:Program} {s:aQ} {L:List Chunk} {d:Option Nat} {ty:TypeId} {pos:String} {af:Array Edge} {gd:Option (Nat×Bool)}
end
def Wr (X:Cx)(c:Code)(K:K3)(m:Nat)(s:aQ)(L:List Chunk):Prop:= ∀(H:List Chunk) (Ds:List Nat) (a:Act) (w:World),Fx X s a→a.defers=Ds.map fU→Sp (Ds.map aU++H) L w→Code.roundsIn (jZ X.r) 0 X.P c (gH X H K) m a w
section
variable {X:Cx} {K:K3} {s:aQ} {L:List Chunk}
end
end
section
open Go.RowKit
def sv (s:aQ):List Nat→aQ→Prop
 |_,[]=>True
 |ks,(d,v)::t=>(cy s d=some v∨ks.contains d=true)∧sv s (d::ks) t
theorem mi {s:aQ}: ∀{t:aQ} {ks:List Nat},sv s ks t→ ∀k v,ks.contains k=false→cy t k=some v→cy s k=some v
 | [],_,_=>fun _ _ _ h=>by cases h
 |(d,u)::t,ks,h=>fun k v hk hl=>by
  rw [cN] at hl;by_cases e:d=k
  ·subst e;rw [if_pos rfl] at hl;cases hl;rcases h.1 with h1|h1
   ·exact h1
   rw [hk] at h1;cases h1
  rw [if_neg e] at hl;exact mi h.2 k v (by simp only [List.contains_cons,Bool.or_eq_false_iff];exact ⟨by simpa using fun h=>e h.symm,hk⟩) hl
theorem sA {s t:aQ}(h:sv s [] t:=by repeat (first|exact trivial|refine ⟨.inl rfl,?_⟩|refine ⟨.inr rfl,?_⟩)):le s t:=fun k v hl=>mi h k v rfl hl
section
variable {X:Cx} {ops:Array Oper} {K:K3} {s:aQ} {L:List Chunk} {rest:List Oper} {d:Nat} {op:Op} {ty:TypeId} {pos:String} {af:Array Edge} {gd:Option (Nat×Bool)}
theorem gD {R:Value→List Chunk→Prop}(h:OpX X.P s L ⟨some d,op,ty,pos,af,gd⟩ R)(k: ∀v L',R v L'→bw X ops rest K ((d,v)::s) L')(hn:dh ⟨some d,op,ty,pos,af,gd⟩=true:=by rfl)(hg:aM ops s ⟨some d,op,ty,pos,af,gd⟩=some true:=by rfl)(hd:Nat.ble (d+1) X.n=true:=by rfl):bw X ops (⟨some d,op,ty,pos,af,gd⟩::rest) K s L:=ce h hn hg hd k
theorem gO {R:Value→List Chunk→Prop}(h:OpX X.P s L ⟨none,op,ty,pos,af,gd⟩ R)(k: ∀v L',R v L'→bw X ops rest K s L')(hn:dh ⟨none,op,ty,pos,af,gd⟩=true:=by rfl)(hg:aM ops s ⟨none,op,ty,pos,af,gd⟩=some true:=by rfl):bw X ops (⟨none,op,ty,pos,af,gd⟩::rest) K s L:=tn h hn hg k
theorem gE {v:Value}(h:Ev X.P s (fun _=>True) ⟨some d,op,ty,pos,af,gd⟩ v)(k:bw X ops rest K ((d,v)::s) L)(hn:dh ⟨some d,op,ty,pos,af,gd⟩=true:=by rfl)(hg:aM ops s ⟨some d,op,ty,pos,af,gd⟩=some true:=by rfl)(hd:Nat.ble (d+1) X.n=true:=by rfl):bw X ops (⟨some d,op,ty,pos,af,gd⟩::rest) K s L:=fv h hn hg hd k
theorem gR {v:Value}(h:Rd X.P s L ⟨some d,op,ty,pos,af,gd⟩ v)(k:bw X ops rest K ((d,v)::s) L)(hn:dh ⟨some d,op,ty,pos,af,gd⟩=true:=by rfl)(hg:aM ops s ⟨some d,op,ty,pos,af,gd⟩=some true:=by rfl)(hd:Nat.ble (d+1) X.n=true:=by rfl):bw X ops (⟨some d,op,ty,pos,af,gd⟩::rest) K s L:=bG h hn hg hd k
end
abbrev iV (z:Int):Value:=.int .i64 z
abbrev pV (b o:Nat):Value:=.pointer (some ⟨b,o,none⟩)
theorem kN {L':List Chunk}(h:L'=[]):L'=[]:=h
theorem jf {L' t T:List Chunk}{a:Chunk}(h:L'=a::t)(k:t=T):L'=a::T:=k▸h
theorem eg {X:Cx}{ops:Array Oper}{K:K3}{s:aQ}{L' L:List Chunk}{l:List Oper}(k:bw X ops l K s L)(h:L'=L:=by repeat (first|exact kN rfl|apply jf rfl|exact rfl)):bw X ops l K s L':=h▸k
theorem bQ {X:Cx}{ops:Array Oper}{K:K3}{s:aQ}{M L' L:List Chunk}{fuel:Nat}{listed:Array Bool}(k:gB X ops K M fuel listed s L)(h:L'=L:=by repeat (first|exact kN rfl|apply jf rfl|exact rfl)):gB X ops K M fuel listed s L':=h▸k
theorem rn {X:Cx}{K:K3}{s:aQ}{L' L:List Chunk}{c:Code}(k:Wq X c K s L)(h:L'=L:=by repeat (first|exact kN rfl|apply jf rfl|exact rfl)):Wq X c K s L':=h▸k
theorem rv {X:Cx}{ops:Array Oper}{K:K3}{fuel:Nat}{listed:Array Bool}{s:aQ}{L' L:List Chunk}(k:mM X ops K fuel listed s L)(h:L'=L:=by repeat (first|exact kN rfl|apply jf rfl|exact rfl)):mM X ops K fuel listed s L':=h▸k
theorem bH {P:List Chunk→Prop}{L M:List Chunk}(h:Cv L M)(k:P M): ∃M',Cv L M'∧Cv M' M∧P M':=⟨M,h,ao _,k⟩
theorem cS {L:List Chunk}(ix:List Nat)(k:Nat)(hk:mp ix k=true:=by exact rfl)(hl:Nat.ble k L.length=true:=by exact rfl):Cv L (kX ix k L):=pz ix k hk hl
section
variable {X:Cx} {ops:Array Oper} {K:K3} {s:aQ} {L M:List Chunk} {fuel:Nat} {listed:Array Bool} {d:Nat} {op:Op} {ty:TypeId} {pos:String} {af:Array Edge} {gd:Option (Nat×Bool)}
theorem zE (i:Nat){v:Value}(hi:ops[i]? =some ⟨some d,op,ty,pos,af,gd⟩)(h:Ev X.P s (fun _=>True) ⟨some d,op,ty,pos,af,gd⟩ v)(k:gB X ops K M fuel (listed.setIfInBounds i true) ((d,v)::s) L)(hk:sP ops listed i=true:=by kernel_rfl)(hg:aM ops s ⟨some d,op,ty,pos,af,gd⟩=some true:=by exact rfl)(hd:Nat.ble (d+1) X.n=true:=by exact rfl):gB X ops K M (fuel+1) listed s L:=th i hi hk h hg hd k
theorem zR (i:Nat){v:Value}(hi:ops[i]? =some ⟨some d,op,ty,pos,af,gd⟩)(h:Rd X.P s M ⟨some d,op,ty,pos,af,gd⟩ v)(k:gB X ops K M fuel (listed.setIfInBounds i true) ((d,v)::s) L)(hk:sP ops listed i=true:=by kernel_rfl)(hg:aM ops s ⟨some d,op,ty,pos,af,gd⟩=some true:=by exact rfl)(hd:Nat.ble (d+1) X.n=true:=by exact rfl):gB X ops K M (fuel+1) listed s L:=rC i hi hk h hg hd k
theorem zD (i:Nat){R:Value→List Chunk→Prop}(hi:ops[i]? =some ⟨some d,op,ty,pos,af,gd⟩)(h:OpX X.P s L ⟨some d,op,ty,pos,af,gd⟩ R)(k: ∀v L',R v L'→ ∃M',Cv L' M'∧Cv M' M∧gB X ops K M' fuel (listed.setIfInBounds i true) ((d,v)::s) L')(hr:Region.ready .any ops listed=[i]:=by kernel_rfl)(hn:dh ⟨some d,op,ty,pos,af,gd⟩=true:=by exact rfl)(hg:aM ops s ⟨some d,op,ty,pos,af,gd⟩=some true:=by exact rfl)(hd:Nat.ble (d+1) X.n=true:=by exact rfl):gB X ops K M (fuel+1) listed s L:=ss i hi hr h hn hg hd k
theorem zO (i:Nat){R:Value→List Chunk→Prop}(hi:ops[i]? =some ⟨none,op,ty,pos,af,gd⟩)(h:OpX X.P s L ⟨none,op,ty,pos,af,gd⟩ R)(k: ∀v L',R v L'→ ∃M',Cv L' M'∧Cv M' M∧gB X ops K M' fuel (listed.setIfInBounds i true) s L')(hr:Region.ready .any ops listed=[i]:=by kernel_rfl)(hn:dh ⟨none,op,ty,pos,af,gd⟩=true:=by exact rfl)(hg:aM ops s ⟨none,op,ty,pos,af,gd⟩=some true:=by exact rfl):gB X ops K M (fuel+1) listed s L:=sr i hi hr h hn hg k
end
end
section
open Go.RowKit
abbrev tw {α β:Type}(f:α→Prop)(g:β→Prop)(r:α ⊕ β):Prop:=match r with
 | .inl a=>f a
 | .inr b=>g b
def sD {α β γ:Type}(s:α ⊕ β)(f:α→γ)(g:β→γ):γ:=match s with
 | .inl a=>f a
 | .inr b=>g b
theorem tx {α β γ:Type}{a:α}{f:α→γ}{g:β→γ}{r:γ}(h:sD (.inl a) f g=r):f a=r:=h
theorem tv {α β γ:Type}{b:β}{f:α→γ}{g:β→γ}{r:γ}(h:sD (.inr b) f g=r):g b=r:=h
theorem gJ {X:Cx}{ops:Array Oper}{K:K3}{M L L':List Chunk}{fuel:Nat}{listed:Array Bool}{s:aQ}{i:Nat}(hl:Cv L L')(hm:Cv L' M)(h:mL X ops K M fuel listed s L' i):mL X ops K M fuel listed s L i:=fun _ H Ds a w ha hds hw=>h hm H Ds a w ha hds (hl _ _ hw)
theorem sI {X:Cx}{ops:Array Oper}{K:K3}{M L' L:List Chunk}{fuel:Nat}{listed:Array Bool}{s:aQ}{i:Nat}(k:mL X ops K M fuel listed s L i)(h:L'=L:=by repeat (first|exact kN rfl|apply jf rfl|exact rfl)):mL X ops K M fuel listed s L' i:=h▸k
theorem nF {α:Type}{P:Program}{s:aQ}{L:List Chunk}{d:Option Nat}{ty:TypeId}{pos:String}{af:Array Edge}{gd:Option (Nat×Bool)}{R:Rep α}{sz off:Nat}{x:Operand}{v:Value}{xs:List α}{c:Chunk}{k:Nat}(i:Nat)(hi:L[i]? =some c)(he:oV R v xs c)(hx:aY s x=some (cA v k sz off))(h1:k<xs.length):Rd P s L ⟨d,.nilCheck x,ty,pos,af,gd⟩ (cA v k sz off):=fun Z w hw=>by
 obtain ⟨T,S,h⟩:=hw.get (bd hi);obtain ⟨A,cap,rfl, -, -,h4⟩:=he _ _ _ h;obtain ⟨b,o,vss,rfl, -⟩:=h4 O;exact az (C:=(· =w)) (d:=d) (ty:=ty) (pos:=pos) (af:=af) (gd:=gd) hx
def ud (w0:World)(X:Nat→Prop):Chunk where
 ok _ S w:=Agr X w0 w∧ ∀q,X q→S q
 loc:=fun h ⟨h1,h2⟩=>⟨h1.trans (h.mono fun q hq=> .inr (h2 q hq)),h2⟩
 mono:=fun hs ⟨h1,h2⟩=>⟨h1,fun q hq=>hs q (h2 q hq)⟩
 ro:=true
 dup:=fun _ _ _ _ h=>h
def t8 (L:List Chunk)(n:Nat)(c:Chunk):Prop:= ∀(T:Nat→Nat→Prop) (S:Nat→Prop) (w:World),(∀(i:Nat) (c:Chunk),L[i]? =some c→c.ok (T i) S w)→c.ok (fun _=>False) (fun q=>S q∨ ∃j,n≤j∧T j q) w
section
variable {L:List Chunk} {n i:Nat}
end
end
section
open Go.RowKit
def oe (k:IntKind)(a b:Int):Int:=k.wrap (BitVec.ofInt k.bits a&&&BitVec.ofInt k.bits b).toNat
def tJ (k:IntKind)(a b:Int):Int:=k.wrap (BitVec.ofInt k.bits a|||BitVec.ofInt k.bits b).toNat
def tt (k:IntKind)(a b:Int):Int:=k.wrap (BitVec.ofInt k.bits a ^^^ BitVec.ofInt k.bits b).toNat
def so (k:IntKind)(a b:Int):Int:=k.wrap (BitVec.ofInt k.bits a&&& ~~~BitVec.ofInt k.bits b).toNat
section
variable {P:Program} {s:aQ} {d:Option Nat} {ty:TypeId} {pos:String} {af:Array Edge} {gd:Option (Nat×Bool)}
theorem ne {t u:TypeId}{x y:Operand}{k:IntKind}{a b:Int}{C:World→Prop}(hx:aY s x=some (.int k a))(hy:aY s y=some (.int k b)):Ev P s C ⟨d,.binOp .and t x y u,ty,pos,af,gd⟩ (.int k (oe k a b)):=ck hx hy fun w=>by cases k<;>rfl
end
theorem nr (s:ByteArray):(s==s)=true:=by
 obtain ⟨d⟩:=s;show (d==d)=true;simp
def oL (b:ByteArray)(i:Int):Option Int:=if 0≤i then b[i.toNat]?.map fun x=>(x.toNat:Int) else none
section
variable {P:Program} {s:aQ} {L:List Chunk} {d:Option Nat} {ty:TypeId} {pos:String} {af:Array Edge} {gd:Option (Nat×Bool)}
theorem gS {C:World→Prop}{t:TypeId}{x y:Operand}{k:IntKind}{b:ByteArray}{i r:Int}(hx:aY s x=some (.string b))(hy:aY s y=some (.int k i))(ht:P.underlying t=some .string)(h:oL b i=some r):Ev P s C ⟨d,.index t x y,ty,pos,af,gd⟩ (.int .u8 r):=fun ρ hρ w _=>by
 unfold oL at h;split at h
 ·rename_i h0
  cases hb:b[i.toNat]? with
  |none=>rw [hb] at h;cases h
  |some z=>
   rw [hb] at h;cases h;unfold execOp;simp only [hρ x _ hx,hρ y _ hy,Instr.index,asIntOf,Sem.run_bind,Sem.run_pure,run_underlying ht,Result.andThen_ok,if_pos h0,hb]
 cases h
end
end
section
open Go.RowKit
def t9 {α:Type}(R:Rep α)(e:TypeId)(v:Value)(xs:List α):Chunk where
 ok T S w:= ∃(A:Option Addr) (n c:Nat) (pre:List α),(dU R e (.slice A n c) (pre++xs)).ok T S w∧0<xs.length∧v=.slice (ij A c pre.length R.sz) xs.length (c - pre.length)
 loc:=fun h ⟨A,n,c,pre,h1,h2⟩=>⟨A,n,c,pre,(dU R e _ _).loc h h1,h2⟩
 mono:=fun h ⟨A,n,c,pre,h1,h2⟩=>⟨A,n,c,pre,(dU R e _ _).mono h h1,h2⟩
 ro:=false
 dup:=fun h=>Bool.noConfusion h
section
variable {P:Program} {s:aQ} {L:List Chunk} {d:Option Nat} {ty:TypeId} {pos:String} {af:Array Edge} {gd:Option (Nat×Bool)}
end
end
section
open Go.RowKit
section
variable {P:Program} {s:aQ} {L:List Chunk} {d:Option Nat} {ty:TypeId} {pos:String} {af:Array Edge} {gd:Option (Nat×Bool)}
theorem ll {C:World→Prop}{t u:TypeId}{x y:Operand}{a b:ByteArray}(hx:aY s x=some (.string a))(hy:aY s y=some (.string b))(h:a.size+b.size≤9223372036854775807):Ev P s C ⟨d,.binOp .add t x y u,ty,pos,af,gd⟩ (.string (a++b)):=
 ck hx hy fun w=>by
  rw [Sem.run_bind];show (Op.stringOp .add a b).run P w=_;unfold Op.stringOp
  have hm: ¬(((a.size+b.size:Nat):Int)>IntKind.i64.max):=by
   have:IntKind.i64.max=9223372036854775807:=by decide
   omega
  simp only [if_neg hm];rfl
theorem pt {C:World→Prop}{t e n:Nat}{x y:Operand}{b:Nat}{i:Int}(hx:aY s x=some (.pointer (some ⟨b,0,none⟩)))(hy:aY s y=some (.int .i64 i))(ht:P.underlying t=some (.array n e))(hs:cf P e 1=true)(h0:0≤i)(h1:i<(n:Int)):Ev P s C ⟨d,.indexAddr t x y,ty,pos,af,gd⟩ (.pointer (some ⟨b,i.toNat,none⟩)):=fun ρ hρ w _=>by
 unfold execOp;simp only [hρ x _ hx,hρ y _ hy,Sem.run_bind];unfold Instr.indexAt;simp only [asIntOf,Instr.sureAddr,Sem.run_bind,Sem.run_pure,run_underlying ht,Result.andThen_ok,if_pos (And.intro h0 h1),dj hs w];simp only [fm,Nat.mul_one,Nat.zero_add]
theorem nH {α:Type}{t bt:TypeId}{x:Operand}{b k:Nat}(f:α→Value)(xs:List α){a:α}(i:Nat)(hi:L[i]? =some (ak b bt (xs.map f)))(hx:aY s x=some (.pointer (some ⟨b,k,none⟩)))(hu:dl P t=true)(ha:xs[k]? =some a):Rd P s L ⟨d,.load t x,ty,pos,af,gd⟩ (f a):=fun Z w hw=>by
 obtain ⟨T,S, -,h⟩:=hw.get (bd hi);exact jc hx hu (ms (p:=fun w=>w.cell? ⟨b,k,none⟩=some (f a)) ((h.cells k).trans (by simp [ha])))
end
end
end Go.Proofs.YtdcccmadhipinaaGreat