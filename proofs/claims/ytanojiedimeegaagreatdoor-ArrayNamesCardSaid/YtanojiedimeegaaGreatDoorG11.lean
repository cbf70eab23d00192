/- Merged texts: part 11. No conditions of their own. -/
import Derived.Test.YtanojiedimeegaaGreatDoorG10
import Derived.KernelRfl
import Derived.Test.YtanojiedimeegaaGreatDoorG1
import Derived.Test.YtanojiedimeegaaGreatDoorG2
import Derived.Test.YtanojiedimeegaaGreatDoorRows
import Derived.ProofKit
import Derived.LaidMore
import Derived.OpenShut
import Derived.Stop.Joined
namespace Go.Proofs.YtanojiedimeegaaGreatDoor
section
open Go.RowKit
def v0:Lf:=⟨0,0,⟨#[]⟩⟩
def Ab (N:Nat)(Y:List La)(x g s:Lf):Prop:= ∃(j:Nat) (a:Int),x=⟨9,2*(j:Int)+1,⟨#[]⟩⟩∧Y[j]? =some ⟨5,0,0,a,[g,s],[]⟩∧dl N ⟨5,0,0,0,[g,s],[]⟩=some true
def SlotP (N:Nat)(Y:List La)(p:K4)(x:Lf):Prop:=
 (aF .i64 p.Attrs 8=0∧p.Value=x∧p.Get=v0∧p.Set=v0∧x.Kind≠7∧x.Kind≠9)∨
 (aF .i64 p.Attrs 8≠0∧p.Value=v0∧((x=v0∧p.Get=v0∧p.Set=v0)∨Ab N Y x p.Get p.Set))
def AB (g s:Lf):La:=⟨5,0,0,0,[g,s],[]⟩
def lI (p:K4):K4:=bif decide (aF .i64 p.Attrs 8=0) then ⟨p.Key,p.Attrs,p.Value,v0,v0⟩ else ⟨p.Key,p.Attrs,v0,p.Get,p.Set⟩
def sg (N:Nat)(p:K4):Prop:=aF .i64 p.Attrs 8=0∨dl N (AB p.Get p.Set)=some true
theorem E7 {p:K4}{N:Nat}(hp:propV N p):goodC (AB p.Get p.Set):=⟨by show 2≤5000;decide,by show 0≤5000;decide,fun x hx=>by
  rcases List.mem_cons.1 hx with rfl|hx
  ·exact hp.g
  ·rw [List.mem_singleton] at hx;subst hx;exact hp.s,by intro x hx;cases hx⟩
structure Slotted (N i:Nat) (k:Nat) (w:K2) (p:K4) (old:Lf) (r:Lf×K2):Prop where
 mem:Mem r.2 (k+1)
 tab:r.2.shapes_=w.shapes_
 ok:F8 N r.1
 prop: ∃p',p'.Key=p.Key∧p'.Attrs=p.Attrs∧SlotP N r.2.heap_.m_.Young p' r.1∧(sg N p→p'=lI p)
 fresh:r.1.Kind=9→r.1=old∨r.1.N=2*(w.heap_.m_.Young.length:Int)+1
 rest: ∀m:Nat,m<w.heap_.m_.Young.length→(old.Kind=9→old.N≠2*(m:Int)+1)→r.2.heap_.m_.Young[m]? =w.heap_.m_.Young[m]?
theorem vF {N:Nat}(hN:20000≤N){i k:Nat}(hk:k+1≤1000000000){w:K2}(hm:Mem w k){c':La}{v':Lf}{p:K4}(hp:propV N p)(hd:aF .i64 p.Attrs 8=0→p.Value.Kind≠7∧p.Value.Kind≠9){old:Lf}(ho:F8 N old)(hold:old.Kind≠9∨ ∃g s,Ab N w.heap_.m_.Young old g s):Sat (fQ N ⟨c',w,v'⟩ p old) (Slotted N i k w p old):=by
 unfold fQ;have hgp:=E7 hp
 refine bz (fun e=>ah ⟨o8 hm I,J,hp.v,⟨⟨p.Key,p.Attrs,p.Value,v0,v0⟩,J,J,.inl ⟨e,J,J,J,(hd e).1,(hd e).2⟩,fun _=>by unfold lI;rw [Lm e];rfl⟩,fun h=>absurd h (hd e).2,fun _ _ _=>J⟩) fun e=> ?_
 have hr:=ED N hN (AB p.Get p.Set) (.inr (.inr rfl)) hgp.sl hgp.ml;obtain ⟨b,hb, -⟩:=hr
 have hnorm:lI p=⟨p.Key,p.Attrs,v0,p.Get,p.Set⟩:=by unfold lI;rw [Ln e];rfl
 have hbad:b=false→ ¬sg N p:=fun hbf h=>by
  rcases h with h|h
  ·exact e h
  rw [hb,hbf] at h;cases h
 rcases hold with h9|⟨g,s,j,a,rfl,hj,hrt⟩
 ·rw [Ln h9,cf,bs,cf];show Sat (Option.bind (fe N w (⟨5,0,0,0,([p.Get,p.Set]:List Lf),[]⟩:La)) _) _;unfold fe iu;rw [show cg N w.heap_=some false from rfl,bs,cf,show dl N (⟨5,0,0,0,([p.Get,p.Set]:List Lf),[]⟩:La)=some b from hb,bs];have hlen:=hm.len
  cases b with
  |false=>
   exact ah ⟨o8 hm I,J,BD N,⟨⟨p.Key,p.Attrs,v0,v0,v0⟩,J,J,.inr ⟨e,J,.inl ⟨J,J,J⟩⟩,fun h=>absurd h (hbad J)⟩,fun h=>by exact absurd h (by show¬(0:Int)=9;decide),fun _ _ _=>rfl⟩
  | true=>
   rw [nt,cf,ve N (show goodC ⟨5,0,0,0,([p.Get,p.Set]:List Lf),[]⟩ from hgp),bs];rw [kT (by unfold gv;rw [List.length_singleton];omega),kT (by rw [List.length_append,List.length_singleton];constructor<;>omega),kT (by rw [List.length_append,List.length_singleton];constructor<;>omega),bs]
   have e1:2*(((w.heap_.m_.Young++([(⟨5,0,0,0,[p.Get,p.Set],[]⟩:La)]:List La)).length:Nat):Int) - 1=2*(w.heap_.m_.Young.length:Int)+1:=by rw [List.length_append,List.length_singleton];omega
   show Sat (some ((⟨9,2*(((w.heap_.m_.Young++([(⟨5,0,0,0,[p.Get,p.Set],[]⟩:La)]:List La)).length:Nat):Int) - 1,⟨#[]⟩⟩:Lf),xr w (w.heap_.m_.Young++ [(⟨5,0,0,0,[p.Get,p.Set],[]⟩:La)]))) _;rw [e1];refine ah ⟨⟨hm.old,fun x hx=> ?_,?_⟩,J,⟨⟨by show _≤2*(w.heap_.m_.Young.length:Int)+1;omega,by show 2*(w.heap_.m_.Young.length:Int)+1≤_;omega⟩,EY N I⟩,⟨⟨p.Key,p.Attrs,v0,p.Get,p.Set⟩,J,J,.inr ⟨e,J,.inr ⟨w.heap_.m_.Young.length,0,J,?_,hb⟩⟩,fun _=>hnorm.symm⟩,fun _=> .inr J,fun m hm' _=> ?_⟩
   ·rcases List.mem_append.1 hx with hx|hx
    ·exact hm.good x hx
    rw [List.mem_singleton] at hx;subst hx;exact hgp
   ·show (w.heap_.m_.Young++ [_]).length≤_;rw [List.length_append,List.length_singleton];omega
   ·show (w.heap_.m_.Young++ [_])[w.heap_.m_.Young.length]? =_;simp
   show (w.heap_.m_.Young++ [_])[m]? =_;rw [List.getElem?_append_left hm']
 have hlt:=(List.getElem?_eq_some_iff.1 hj).1;have hlen:=hm.len;rw [Lm (show (9:Int)=9 from rfl),ct];rw [vj N hm.good (x:=⟨9,2*(j:Int)+1,⟨#[]⟩⟩) (.inr rfl) rfl I hj,bs];show Sat (Option.bind (some true) _) _;rw [bs,ct];show Sat (Option.bind (bU N w ⟨9,2*(j:Int)+1,⟨#[]⟩⟩ (⟨5,0,0,0,([p.Get,p.Set]:List Lf),[]⟩:La)) _) _;unfold bU kp;rw [pe,bs];show Sat (Option.bind (Option.bind (Option.bind (cg N w.heap_) _) _) _) _;rw [show cg N w.heap_=some false from rfl,bs,cf,zn N _ j hlt I,bs,nt,cf,show dl N (⟨5,0,0,0,([p.Get,p.Set]:List Lf),[]⟩:La)=some b from hb,bs]
 cases b with
 |false=>
  exact ah ⟨o8 hm I,J,ho,⟨⟨p.Key,p.Attrs,v0,g,s⟩,J,J,.inr ⟨e,J,.inr ⟨j,a,J,hj,hrt⟩⟩,fun h=>absurd h (hbad J)⟩,fun _=> .inl J,fun _ _ _=>J⟩
 | true=>
  rw [nt,cf,tR N _ j hlt I,bs];show Sat (Option.bind (Option.bind (Option.bind (bE w.heap_.m_.Young (j:Int)) _) _) _) _;rw [nO hlt,bs,(List.getElem?_eq_some_iff.1 hj).2,ve N (show goodC ⟨5,0,0,0,([p.Get,p.Set]:List Lf),[]⟩ from hgp),bs,Ln (show¬(2*(j:Int)+1).tmod 2=0 by have:=(zf j).1;omega),cf];unfold gP;rw [bs,bs];simp only [Int.toNat_natCast,List.set_set];show Sat (some ((⟨9,2*(j:Int)+1,⟨#[]⟩⟩:Lf),xr w (w.heap_.m_.Young.set j ⟨5,0,0,a,[p.Get,p.Set],[]⟩))) _;refine ah ⟨⟨hm.old,fun x hx=> ?_,?_⟩,J,ho,⟨⟨p.Key,p.Attrs,v0,p.Get,p.Set⟩,J,J,.inr ⟨e,J,.inr ⟨j,a,J,List.getElem?_set_self hlt,hb⟩⟩,fun _=>hnorm.symm⟩,fun _=> .inl J,fun m hm' hne=> ?_⟩
  ·rcases List.mem_or_eq_of_mem_set hx with hx|rfl
   ·exact hm.good x hx
   exact ⟨hgp.sl,hgp.ml,hgp.sv,hgp.mv⟩
  ·show (w.heap_.m_.Young.set j _).length≤_;rw [List.length_set];omega
  show (w.heap_.m_.Young.set j _)[m]? =_;rw [List.getElem?_set_ne];intro e2;subst e2;exact hne J J
def xE (p:K4):Lj×Int:=(p.Key,p.Attrs)
structure ObjP (N:Nat) (Y:List La) (i:Nat) (c:La) (PL:List K4):Prop where
 num:c.Slots.length=PL.length+1
 each: ∀(n:Nat) p,PL[n]? =some p→ ∃x,c.Slots[n+1]? =some x∧SlotP N Y p x
 inj: ∀(n m:Nat) x,n≠m→c.Slots[n+1]? =some x→c.Slots[m+1]? =some x→x.Kind≠9
 own: ∀(n:Nat) x,c.Slots[n+1]? =some x→x.Kind=9→x.N≠2*(i:Int)+1
theorem SlotP.move {N:Nat}{Y Y':List La}{p:K4}{x:Lf}(h:SlotP N Y p x)(hY: ∀j:Nat,x.Kind=9→x.N=2*(j:Int)+1→j<Y.length→Y'[j]? =Y[j]?):SlotP N Y' p x:=by
 rcases h with h|⟨h1,h2,h3|⟨j,a,rfl,hj,hrt⟩⟩
 ·exact .inl h
 ·exact .inr ⟨h1,h2,.inl h3⟩
 exact .inr ⟨h1,h2,.inr ⟨j,a,J,by rw [hY j rfl rfl (List.getElem?_eq_some_iff.1 hj).1];exact hj,hrt⟩⟩
section
variable {N:Nat} (hN:20000≤N) {v:Lf} {i:Nat} (hv:v.Kind=7) (hvN:v.N=2*i+1) {k:Nat} (hk:k≤1000000000) {w:K2} {c:La} {PL:List K4} (h:InvC N i k w c (PL.map xE)) (hp:ObjP N w.heap_.m_.Young i c PL)
include hN hv hvN hk h hp
omit hN hv hvN in
theorem Gb (n:Nat)(p:K4)(hn:PL[n]? =some p):dW N ⟨c,w,v⟩ (n:Int) p.Key p.Attrs=some p:=by
 obtain ⟨x,hx,hs⟩:=hp.each n p hn;have hlt:=(List.getElem?_eq_some_iff.1 hx).1;have hnum:=hp.num;have hle:=h.obj.row.le h.ti;have hnl:=(List.getElem?_eq_some_iff.1 hn).1;rw [List.length_map] at hle;have hlen:=h.mem.len;unfold dW;rw [kT (by constructor<;>omega)];show (bif decide ((c.Slots.length:Int)≤(n:Int)+1) then _ else cV _ (Option.bind (bE c.Slots ((n:Int)+1)) _))=_;rw [Ln I,cf,kT (by constructor<;>omega),show bE c.Slots ((n:Int)+1)=some x by unfold bE;rw [if_neg I,show ((n:Int)+1).toNat=n+1 by omega];exact hx,bs];rcases hs with ⟨h1,h2,h3,h4, -⟩|⟨h1,h2,⟨rfl,h3,h4⟩|⟨j,a,rfl,hj, -⟩⟩
 ·rw [Lm h1,ct, ←h2];obtain ⟨pk,pa,pv,pg,ps⟩:=p;simp only at h3 h4;rw [h3,h4];rfl
 ·rw [Ln h1,cf];show Option.bind (bM N w v0) _=_;rw [G2 N w (by show¬((0:Int)=7∨(0:Int)=9);decide),bs];obtain ⟨pk,pa,pv,pg,ps⟩:=p;simp only at h2 h3 h4;rw [h2,h3,h4];rfl
 rw [Ln h1,cf];show Option.bind (bM N w ⟨9,2*(j:Int)+1,⟨#[]⟩⟩) _=_;have:=(List.getElem?_eq_some_iff.1 hj).1;rw [vj N h.mem.good (.inr rfl) rfl I hj,bs];obtain ⟨pk,pa,pv,pg,ps⟩:=p;simp only at h2;rw [h2];rfl
def JF (PL:List K4)(key:Lj)(r:K4×Int×Bool):Prop:=(r.2.2=false∧r.1.Attrs=0∧ ∀p∈PL,p.Key≠key)∨ ∃n:Nat,r.2.1=n∧r.2.2=true∧PL[n]? =some r.1∧r.1.Key=key
omit hv hvN in
theorem yJ (key:Lj):Sat (bu N ⟨c,w,v⟩ key) (JF PL key):=by
 unfold bu cC;rw [bs]
 refine (rp N I h.ti h.obj.row key).bind fun z hz=> ?_
 rcases hz with ⟨rfl,hz⟩|⟨n,z1,z2,z3⟩
 ·exact ah (.inl ⟨J,J,fun p hp'=>hz _ (List.mem_map_of_mem hp')⟩)
 rw [List.getElem?_map] at z3
 cases e:PL[n]? with
 |none=>rw [e] at z3;cases z3
 |some p=>
  rw [e] at z3;have e1:p.Key=key:=congrArg Prod.fst (Option.some.inj z3);have e2:p.Attrs=z.2.1:=congrArg Prod.snd (Option.some.inj z3);rw [z2];show Sat (Option.bind _ _) _;have:=Gb (v:=v) hk h hp n p e;rw [e1,e2] at this;rw [z1,this,bs];exact ah (.inr ⟨n,J,J,e,e1⟩)
end
end
section
open Go.RowKit
theorem ObjP.nine {N:Nat}{Y:List La}{i:Nat}{c:La}{PL:List K4}(h:ObjP N Y i c PL){n:Nat}{x:Lf}(hx:c.Slots[n+1]? =some x)(h9:x.Kind=9): ∃g s,Ab N Y x g s:=by
 have hn:n<PL.length:=by have:=(List.getElem?_eq_some_iff.1 hx).1;have:=h.num;omega
 obtain ⟨x',h1,h2⟩:=h.each n PL[n] (List.getElem?_eq_getElem hn);have:x'=x:=Option.some.inj (h1.symm.trans hx);subst this;rcases h2 with ⟨-, -, -, -, -,h3⟩|⟨-, -,⟨rfl, -, -⟩|h3⟩
 ·exact absurd h9 h3
 ·exact absurd h9 (by show¬(0:Int)=9;decide)
 exact ⟨_,_,h3⟩
theorem ObjP.not9 {N:Nat}{Y:List La}{i:Nat}{c:La}{PL:List K4}(h:ObjP N Y i c PL){n:Nat}{x:Lf}(hx:c.Slots[n+1]? =some x):x.Kind≠9∨ ∃g s,Ab N Y x g s:=by
 by_cases e:x.Kind=9
 ·exact .inr (h.nine hx e)
 exact .inl e
section
variable {N:Nat} (hN:20000≤N) {v:Lf} {i:Nat} (hv:v.Kind=7) (hvN:v.N=2*i+1)
include hN hv hvN
theorem zB {k:Nat}(hk:k≤1000000000){w:K2}{c c':La}{l':List (Lj×Int)}(hm:Mem w k)(hti:TI N w.shapes_)(htb:w.shapes_.shapes_.length≤k)(hat:w.heap_.m_.Young[i]? =some c)(hage:c'.Age=c.Age)(hg:goodC c')(ho:ObjC N w.shapes_ c' l')(b:Bool):dP N ⟨c',w,v⟩ b=some ⟨c',xr w (w.heap_.m_.Young.set i c'),v⟩∧InvC N i k (xr w (w.heap_.m_.Young.set i c')) c' l':=by
 have hlt:=(List.getElem?_eq_some_iff.1 hat).1;have:=hm.len;obtain ⟨w',h1,h2, -⟩:=store hN hv hvN hk hm hti htb hat hage hg ho;have h3:=EH N hm.good hv hvN I hat hg (ho.rc.right hN);rw [h1] at h3
 have e:w'=xr w (w.heap_.m_.Young.set i c'):=by
  rw [Option.some.inj h3, ←hage]
 subst e;refine ⟨?_,h2⟩;unfold dP;show Option.bind (fO N w v c') _=_;rw [Gp,h1,bs];show Option.bind (bif b then some (!decide (aF .i64 c'.Flags 16=0)) else some false) _=_;rw [Lm ho.noP];cases b<;>rfl
omit hN hv hvN in
theorem AG {w:K2}{c:La}{PL:List K4}(hp:ObjP N w.heap_.m_.Young i c PL){k:Nat}(hi:i<w.heap_.m_.Young.length){p:K4}{old:Lf}{q:Lf×K2}(hq:Slotted N i k w p old q)(p':K4)(hp':SlotP N q.2.heap_.m_.Young p' q.1)(c':La)(sl:List Lf)(n:Nat)(PL':List K4)
  (hnum:sl.length=PL'.length+1) (hold:old.Kind≠9∨c.Slots[n+1]? =some old)
  (h1:sl[n+1]? =some q.1) (h2:PL'[n]? =some p') (h3: ∀m,m≠n→sl[m+1]? =c.Slots[m+1]?) (h4: ∀m,m≠n→PL'[m]? =PL[m]?) (hsl:c'.Slots=sl):ObjP N (q.2.heap_.m_.Young.set i c') i c' PL':=by
 have hoth: ∀m x,m≠n→c.Slots[m+1]? =some x→x.Kind=9→ ∀j:Nat,x.N=2*(j:Int)+1→(old.Kind=9→old.N≠2*(j:Int)+1):=by
  intro m x hmn hx h9 j hj ho9 hoj;rcases hold with ho|ho
  ·exact ho ho9
  obtain ⟨g,s,j1,a,e1, -, -⟩:=hp.nine hx h9;obtain ⟨g',s',j2,a',e2, -, -⟩:=hp.nine ho ho9
  have:x=old:=by
   rw [e1,e2];rw [e1] at hj;rw [e2] at hoj;have h5:2*(j1:Int)+1=2*(j:Int)+1:=hj;have h6:2*(j2:Int)+1=2*(j:Int)+1:=hoj;rw [h5,h6]
  subst this;exact hp.inj m n x hmn hx ho h9
 have hnew:q.1.Kind=9→q.1.N≠2*(i:Int)+1:=fun h9=>by
  rcases hq.fresh h9 with e|e
  ·rcases hold with ho|ho
   ·exact absurd (by rw [←e];exact h9) ho
   rw [e];exact hp.own n old ho (by rw [←e];exact h9)
  rw [e];omega
 have hset: ∀(j:Nat),(j:Int)≠i→(q.2.heap_.m_.Young.set i c')[j]? =q.2.heap_.m_.Young[j]? :=fun j hj=>List.getElem?_set_ne I
 refine ⟨by rw [hsl];exact hnum,fun m r hr=> ?_,fun m1 m2 x hne hx1 hx2 h9=> ?_,fun m x hx h9=> ?_⟩
 ·by_cases e:m=n
  ·subst e;have:r=p':=Option.some.inj (hr.symm.trans h2);subst this;refine ⟨q.1,by rw [hsl];exact h1,hp'.move fun j h9 hj _=>hset j fun e=>hnew h9 (by rw [hj,e])⟩
  rw [h4 m e] at hr;obtain ⟨x,hx,hs⟩:=hp.each m r hr;refine ⟨x,by rw [hsl,h3 m e];exact hx,(hs.move fun j h9 hj hlt=>hq.rest j hlt (hoth m x e hx h9 j hj)).move fun j h9 hj _=>hset j fun e2=>hp.own m x hx h9 (by rw [hj,e2])⟩
 ·rw [hsl] at hx1 hx2
  have key: ∀m x,m≠n→sl[m+1]? =some x→sl[n+1]? =some x→x.Kind=9→False:=by
   intro m x hm hx hxn h9;rw [h1] at hxn;have hxq:q.1=x:=Option.some.inj hxn;rw [h3 m hm] at hx;rcases hq.fresh (by rw [hxq];exact h9) with e|e
   ·rcases hold with ho|ho
    ·exact ho (by rw [←e,hxq];exact h9)
    exact hp.inj m n x hm hx (by rw [←hxq,e];exact ho) h9
   obtain ⟨g,s,j,a,e1,hj, -⟩:=hp.nine hx h9;have:=(List.getElem?_eq_some_iff.1 hj).1;rw [hxq,e1] at e;have h5:2*(j:Int)+1=2*(w.heap_.m_.Young.length:Int)+1:=e;omega
  by_cases e1:m1=n
  ·subst e1;exact key m2 x (Ne.symm hne) hx2 hx1 h9
  by_cases e2:m2=n
  ·subst e2;exact key m1 x e1 hx1 hx2 h9
  rw [h3 m1 e1] at hx1;rw [h3 m2 e2] at hx2;exact hp.inj m1 m2 x hne hx1 hx2 h9
 rw [hsl] at hx;by_cases e:m=n
 ·subst e;rw [h1] at hx;have hxq:q.1=x:=Option.some.inj hx;rw [←hxq];exact hnew (by rw [hxq];exact h9)
 rw [h3 m e] at hx;exact hp.own m x hx h9
end
end
section
open Go.RowKit
structure Obj (N i k:Nat) (w:K2) (c:La) (PL:List K4):Prop where
 inv:InvC N i k w c (PL.map xE)
 obj:ObjP N w.heap_.m_.Young i c PL
theorem Obj.more {N i k k':Nat}{w:K2}{c:La}{PL:List K4}(h:Obj N i k w c PL)(hk:k≤k'):Obj N i k' w c PL:=⟨h.inv.more hk,h.obj⟩
def FR (N:Nat)(p p':K4):Prop:=p'.Key=p.Key∧p'.Attrs=p.Attrs∧(sg N p→p'=lI p)
def Put (PL PL':List K4)(p':K4):Prop:=((∀q∈PL,q.Key≠p'.Key)∧PL'=PL++ [p'])∨ ∃(n:Nat) (q:K4),PL[n]? =some q∧q.Key=p'.Key∧PL'=PL.set n p'
structure FrO (i:Nat) (w w':K2) (c c':La):Prop where
 le:Le w.shapes_ w'.shapes_
 rest: ∀m:Nat,m<w.heap_.m_.Young.length→m≠i→(∀(n:Nat) x,c.Slots[n+1]? =some x→x.Kind=9→x.N≠2*(m:Int)+1)→w'.heap_.m_.Young[m]? =w.heap_.m_.Young[m]?
 new: ∀(n:Nat) x,c'.Slots[n+1]? =some x→x.Kind=9→(∃n':Nat,c.Slots[n'+1]? =some x)∨2*(w.heap_.m_.Young.length:Int)+1≤x.N
theorem CR {N i k:Nat}{w:K2}{t:K9}{p:K4}{old:Lf}{q:Lf×K2}(hq:Slotted N i k (xt w t) p old q)(hle:Le w.shapes_ t){c:La}{n:Nat}{n0:Nat}(hold:old.Kind≠9∨c.Slots[n0+1]? =some old){c':La}{w':K2}(hw:w'=xr q.2 (q.2.heap_.m_.Young.set i c'))(h1:c'.Slots[n+1]? =some q.1)(h2: ∀m:Nat,m≠n→c'.Slots[m+1]? =c.Slots[m+1]?):FrO i w w' c c':=by
 subst hw;refine ⟨?_,fun m hm hmi hno=> ?_,fun m x hx h9=> ?_⟩
 ·show Le w.shapes_ q.2.shapes_;rw [hq.tab];exact hle
 ·show (q.2.heap_.m_.Young.set i c')[m]? =_;rw [List.getElem?_set_ne (Ne.symm hmi)]
  refine hq.rest m hm fun h9=> ?_
  rcases hold with e|e
  ·exact absurd h9 e
  exact hno n0 old e h9
 by_cases e:m=n
 ·subst e;rw [h1] at hx;have hx2:=Option.some.inj hx;rcases hq.fresh (by rw [hx2];exact h9) with e|e
  ·rcases hold with ho|ho
   ·exact absurd (by rw [←e,hx2];exact h9) ho
   exact .inl ⟨n0,by rw [←hx2,e];exact ho⟩
  rw [hx2] at e;exact .inr (by rw [e];exact Int.le_refl _)
 rw [h2 m e] at hx;exact .inl ⟨m,hx⟩
def Bf (p:K4):Prop:=aF .i64 p.Attrs 8=0→p.Value.Kind≠7∧p.Value.Kind≠9
section
variable {N:Nat} (hN:20000≤N) {v:Lf} {i:Nat} (hv:v.Kind=7) (hvN:v.N=2*i+1)
include hN hv hvN
variable {k:Nat} {w:K2} {c:La} {PL:List K4} (h:Obj N i k w c PL)
include h
theorem Ip (hk:k+1100≤1000000000){p:K4}(hp:propV N p)(hd:Bf p)(hidx:c.Kind=2→p.Key.Kind=0→p.Key.N<c.More.length)(hR:qj N p.Key)(hM:qi p.Attrs)(hlen:(∃q∈PL,q.Key=p.Key)∨PL.length<1024):Sat (dO N ⟨c,w,v⟩ p) fun r=>r.1=true∧ ∃c' p' PL',FR N p p'∧Put PL PL' p'∧Obj N i (k+1024) r.2.w_ c' PL'∧c'.Kind=c.Kind∧c'.More=c.More∧c'.Flags=c.Flags∧FrO i w r.2.w_ c c':=by
 have hI:=h.inv;have hle:=hI.obj.row.le hI.ti;rw [List.length_map] at hle
 have hb:w.shapes_.shapes_.length+1024≤1073741824:=by have:=hI.tb;omega
 obtain ⟨z,z1,z2⟩:=hI.obj.rc.proto;have hrc:=hI.obj.rc;have hg:=hI.good;have hsl:=h.obj.num;have hilt:=(List.getElem?_eq_some_iff.1 hI.at_).1;unfold dO;show Sat (Option.bind (bu N ⟨c,w,v⟩ p.Key) _) _
 refine (yJ (v:=v) hN I hI h.obj p.Key).bind fun y hy=> ?_
 rcases hy with ⟨e1, -,hno⟩|⟨n,e1,e2,hn,hnk⟩
 ·rw [e1]
  have hlen':PL.length<1024:=by
   rcases hlen with ⟨q,q1,q2⟩|h'
   ·exact absurd q2 (hno q q1)
   exact h'
  obtain ⟨s,s1,s2⟩:=hI.obj.row.has hI.ti;rw [List.length_map] at s2;show Sat (Option.bind (d4 N w.shapes_ c.Shape) _) _;rw [zh N s1,bs]
  refine bz (fun h3=>by omega) fun h3=> ?_
  refine (CK N I hI.ti hb hI.obj.row p.Key p.Attrs (fun x hx=>by
   obtain ⟨q,q1,q2⟩:=List.mem_map.1 hx
   rw [←q2];exact hno q q1) (by rw [List.length_map];omega)).bind fun r hr=> ?_
  rcases hr with ⟨r1,r2,r3,r4,r5⟩|⟨r1,r2,r3⟩
  ·rw [r3];show Sat (Option.bind _ _) _;have hm1:Mem (xt w r.2.2) k:=⟨hI.mem.old,hI.mem.good,hI.mem.len⟩
   refine (vF (i:=i) (w:=xt w r.2.2) hN I hm1 (c':=⟨c.Kind,r.1,c.Flags,c.Age,c.Slots,c.More⟩) (v':=v) hp hd (BD N) (.inl (by show¬(0:Int)=9;decide))).bind fun q hq=> ?_
   obtain ⟨p',p1,p2,p3,p4⟩:=hq.prop
   have q4:q.2.heap_.m_.Young[i]? =some c:=by rw [hq.rest i hilt (fun h9=>absurd h9 (by show¬(0:Int)=9;decide))];exact hI.at_
   refine aR (by unfold gv;rw [List.length_singleton];show c.Slots.length+1≤_;omega) ?_;unfold jr
   have hlen2:(c.Slots++ [q.1]).length=c.Slots.length+1:=by rw [List.length_append,List.length_singleton]
   have hgc:goodC ⟨c.Kind,r.1,c.Flags,c.Age,c.Slots++ [q.1],c.More⟩:=⟨by show (c.Slots++ [q.1]).length≤5000;omega,hg.ml,fun x hx=>by
    rcases List.mem_append.1 hx with hx|hx
    ·exact hg.sv x hx
    ·rw [List.mem_singleton] at hx;subst hx;exact hq.ok.1,hg.mv⟩
   have hmap:(PL++ [p']).map xE=PL.map xE++ [(p.Key,p.Attrs)]:=by rw [List.map_append];show _++ [(p'.Key,p'.Attrs)]=_;rw [p1,p2]
   have hoc:ObjC N q.2.shapes_ ⟨c.Kind,r.1,c.Flags,c.Age,c.Slots++ [q.1],c.More⟩ ((PL++ [p']).map xE):=by
    rw [hq.tab,hmap];refine ⟨⟨hrc.kind,?_,hrc.fl,hrc.age,fun x hx=> ?_,hrc.mv,by show (c.Slots++ [q.1]).length≤1025;omega,⟨z,?_,z2⟩,hrc.more,hrc.plain⟩,r5,by show (c.Slots++ [q.1]).length=_;rw [hlen2,hsl,List.length_append,List.length_singleton,List.length_map],?_,hI.obj.noP,fun hk2 x hx h0=> ?_⟩
    ·obtain ⟨s',s1', -⟩:=r5.has r4.ti;exact s1'.1
    ·rcases List.mem_append.1 hx with hx|hx
     ·exact hrc.sv x hx
     rw [List.mem_singleton] at hx;subst hx;exact hq.ok.2
    ·show (c.Slots++ [q.1])[0]? =some z;rw [List.getElem?_append_left (List.getElem?_eq_some_iff.1 z1).1];exact z1
    ·rw [List.map_append];refine List.nodup_append.2 ⟨hI.obj.nd,by simp,fun a ha b hb' e=> ?_⟩;rw [List.map_singleton,List.mem_singleton] at hb';obtain ⟨x,x1,x2⟩:=List.mem_map.1 ha;obtain ⟨u,u1,u2⟩:=List.mem_map.1 x1
     have hua:u.Key=a:=by rw [←x2, ←u2];rfl
     exact hno u u1 (by rw [hua,e,hb'])
    rcases List.mem_append.1 hx with hx|hx
    ·exact hI.obj.idx hk2 x hx h0
    rw [List.mem_singleton] at hx;subst hx;exact hidx hk2 h0
   obtain ⟨g1,g2⟩:=zB (w:=q.2) hN hv hvN (k:=k+1024) I (o8 hq.mem I) (by rw [hq.tab];exact r4.ti) (by rw [hq.tab];have:=r4.num;have:=hI.tb;show r.2.2.shapes_.length≤_;omega) q4 (c':=⟨c.Kind,r.1,c.Flags,c.Age,c.Slots++ [q.1],c.More⟩) rfl hgc hoc true
   refine Sat.bind ⟨_,g1,J⟩ fun u hu=> ?_
   rw [←hu];refine ah ⟨J,_,p',PL++ [p'],⟨p1,p2,p4⟩,.inl ⟨fun u hu=>by rw [p1];exact hno u hu,rfl⟩,⟨g2,?_⟩,J,J,J,CR (n0:=0) hq r4.le (.inl (by show¬(0:Int)=9;decide)) J (n:=PL.length) (by show (c.Slots++ [q.1])[PL.length+1]? =_;rw [←hsl,List.getElem?_append_right (Nat.le_refl _),Nat.sub_self];rfl) fun m hm=> ?_⟩;refine AG (w:=xt w r.2.2) h.obj hilt hq p' p3 _ (c.Slots++ [q.1]) PL.length (PL++ [p']) (by rw [hlen2,hsl,List.length_append,List.length_singleton]) (.inl (by show¬(0:Int)=9;decide)) (by rw [←hsl,List.getElem?_append_right (Nat.le_refl _),Nat.sub_self];rfl) (by rw [List.getElem?_append_right (Nat.le_refl _),Nat.sub_self];rfl) (fun m hm=> ?_) (fun m hm=> ?_) J
   ·by_cases e:m+1<c.Slots.length
    ·rw [List.getElem?_append_left e]
    rw [List.getElem?_eq_none (by rw [hlen2];omega),List.getElem?_eq_none I]
   ·by_cases e:m<PL.length
    ·rw [List.getElem?_append_left e]
    rw [List.getElem?_eq_none (by rw [List.length_append,List.length_singleton];omega),List.getElem?_eq_none I]
   show (c.Slots++ [q.1])[m+1]? =_;by_cases e:m+1<c.Slots.length
   ·rw [List.getElem?_append_left e]
   rw [List.getElem?_eq_none (by rw [hlen2];omega),List.getElem?_eq_none I]
  exact absurd ⟨hR,hM⟩ r1
 rw [e2];have hlt:=(List.getElem?_eq_some_iff.1 hn).1
 have hnl:(PL.map xE)[n]? =some (p.Key,y.1.Attrs):=by rw [List.getElem?_map,hn];show some (y.1.Key,y.1.Attrs)=_;rw [hnk]
 obtain ⟨x,hx,hsx⟩:=h.obj.each n y.1 hn
 have hj81: ∀(sh:Int) (t':K9),Grow N w.shapes_ t' 1024→Row t' sh ((PL.map xE).set n (p.Key,p.Attrs))→Sat (fx N y p ⟨c,w,v⟩ sh t'.shapes_ t'.next_) fun r=>r.1=true∧ ∃c' p' PL',FR N p p'∧Put PL PL' p'∧Obj N i (k+1024) r.2.w_ c' PL'∧c'.Kind=c.Kind∧c'.More=c.More∧c'.Flags=c.Flags∧FrO i w r.2.w_ c c':=by
  intro sh t' hgr hrow;unfold fx;rw [e1]
  have hgx:bE c.Slots ((n:Int)+1)=some x:=by unfold bE;rw [if_neg I,show ((n:Int)+1).toNat=n+1 by omega];exact hx
  refine aR (by constructor<;>omega) (aR (by constructor<;>omega) ?_);show Sat (Option.bind (bE c.Slots ((n:Int)+1)) _) _;rw [hgx,bs];have hxm:x∈c.Slots:=List.mem_of_getElem? hx;have hm1:Mem (xt w t') k:=⟨hI.mem.old,hI.mem.good,hI.mem.len⟩
  refine (vF (i:=i) (w:=xt w t') hN I hm1 (c':=⟨c.Kind,sh,c.Flags,c.Age,c.Slots,c.More⟩) (v':=v) hp hd ⟨hg.sv x hxm,hrc.sv x hxm⟩ (h.obj.not9 hx)).bind fun q hq=> ?_
  obtain ⟨p',p1,p2,p3,p4⟩:=hq.prop
  have q4:q.2.heap_.m_.Young[i]? =some c:=by rw [hq.rest i hilt (fun h9=>h.obj.own n x hx h9)];exact hI.at_
  rw [bs,show ((n:Int)+1).toNat=n+1 by omega];have hlen2:(List.set c.Slots (n+1) q.1).length=c.Slots.length:=List.length_set ..
  have hgc:goodC ⟨c.Kind,sh,c.Flags,c.Age,List.set c.Slots (n+1) q.1,c.More⟩:=⟨by show (List.set c.Slots _ q.1).length≤5000;rw [hlen2];exact hg.sl,hg.ml,fun x hx=>by
   rcases List.mem_or_eq_of_mem_set hx with hx|rfl
   ·exact hg.sv x hx
   ·exact hq.ok.1,hg.mv⟩
  have hmap:(PL.set n p').map xE=(PL.map xE).set n (p.Key,p.Attrs):=by rw [List.map_set];show (PL.map xE).set n (p'.Key,p'.Attrs)=_;rw [p1,p2]
  have hkeys:((PL.map xE).set n (p.Key,p.Attrs)).map (·.1)=(PL.map xE).map (·.1):=by
   rw [List.map_set];refine Aq ?_;rw [List.getElem?_map,hnl];rfl
  have hoc:ObjC N q.2.shapes_ ⟨c.Kind,sh,c.Flags,c.Age,List.set c.Slots (n+1) q.1,c.More⟩ ((PL.set n p').map xE):=by
   rw [hq.tab,hmap];refine ⟨⟨hrc.kind,?_,hrc.fl,hrc.age,fun x hx=> ?_,hrc.mv,by show (List.set c.Slots _ q.1).length≤1025;rw [hlen2];exact hrc.sl,⟨z,?_,z2⟩,hrc.more,hrc.plain⟩,hrow,by show (List.set c.Slots _ q.1).length=_;rw [hlen2,hsl,List.length_set,List.length_map],by rw [hkeys];exact hI.obj.nd,hI.obj.noP,fun hk2 x hx h0=> ?_⟩
   ·obtain ⟨s',s1', -⟩:=hrow.has hgr.ti;exact s1'.1
   ·rcases List.mem_or_eq_of_mem_set hx with hx|rfl
    ·exact hrc.sv x hx
    exact hq.ok.2
   ·show (List.set c.Slots _ q.1)[0]? =some z;rw [List.getElem?_set_ne I];exact z1
   have:x.1∈(PL.map xE).map (·.1):=by rw [←hkeys];exact List.mem_map_of_mem hx
   obtain ⟨x',x1,x2⟩:=List.mem_map.1 this;have:=hI.obj.idx hk2 x' x1 (by rw [x2];exact h0);rw [x2] at this;exact this
  obtain ⟨g1,g2⟩:=zB (w:=q.2) hN hv hvN (k:=k+1024) I (o8 hq.mem I) (by rw [hq.tab];exact hgr.ti) (by rw [hq.tab];have:=hgr.num;have:=hI.tb;show t'.shapes_.length≤_;omega) q4 (c':=⟨c.Kind,sh,c.Flags,c.Age,List.set c.Slots (n+1) q.1,c.More⟩) rfl hgc hoc (!decide (y.1.Attrs=p.Attrs))
  refine Sat.bind ⟨_,g1,J⟩ fun u hu=> ?_
  rw [←hu];refine ah ⟨J,_,p',PL.set n p',⟨p1,p2,p4⟩,.inr ⟨n,y.1,hn,by rw [p1];exact hnk,rfl⟩,⟨g2,?_⟩,J,J,J,CR hq hgr.le (.inr hx) J (n:=n) (List.getElem?_set_self I) fun m hm=>List.getElem?_set_ne I⟩;refine AG (w:=xt w t') h.obj hilt hq p' p3 _ (List.set c.Slots (n+1) q.1) n (PL.set n p') (by rw [hlen2,hsl,List.length_set]) (.inr hx) (List.getElem?_set_self I) (List.getElem?_set_self hlt) (fun m hm=>List.getElem?_set_ne I) (fun m hm=>List.getElem?_set_ne (Ne.symm hm)) J
 show Sat (bif !decide (y.1.Attrs=p.Attrs) then _ else _) _
 refine jD (fun e=> ?_) fun e=> ?_
 ·refine (yw N I hI.ti hb hI.obj.row hI.obj.nd p.Key p.Attrs n y.1.Attrs hnl).bind fun r hr=> ?_
  rcases hr with ⟨r1,r3,r4,r5⟩|⟨r1,r2,r3⟩
  ·rw [r3];exact hj81 r.1 r.2.2 r4 r5
  exact absurd hM r1
 refine hj81 c.Shape w.shapes_ ⟨hI.ti,Le.refl _,by omega⟩ ?_;rw [Aq (by rw [hnl,of_decide_eq_true e])];exact hI.obj.row
end
end
section
open Go.RowKit
def Ku:Li:=⟨32,0,v0,v0,v0⟩
def Kt:Li:=⟨34,0,v0,v0,v0⟩
def normal (p:K4):Prop:=(aF .i64 p.Attrs 8=0→p.Get=v0∧p.Set=v0)∧(aF .i64 p.Attrs 8≠0→p.Value=v0)
theorem SlotP.normal {N:Nat}{Y:List La}{p:K4}{x:Lf}(h:SlotP N Y p x):normal p:=by
 rcases h with ⟨h1, -,h3,h4, -⟩|⟨h1,h2, -⟩
 ·exact ⟨fun _=>⟨h3,h4⟩,fun h=>absurd h1 h⟩
 exact ⟨fun h=>absurd h h1,fun _=>h2⟩
theorem EK {N:Nat}(hN:20000≤N):dl N ⟨5,0,0,0,[v0,v0],[]⟩=some true:=by
 have hm: ∀x∈([v0,v0]:List Lf),nL N x:=fun x hx=>by
  rcases List.mem_cons.1 hx with rfl|hx
  ·exact BQ N
  rw [List.mem_singleton] at hx;subst hx;exact BQ N
 have ha:=(tu N hN ⟨5,0,0,0,[v0,v0],[]⟩ (by show 2≤5000;decide) (by show 0≤5000;decide) hm (fun x hx=>by cases hx) N 0 (by show 2<N+0;omega) I).eq;unfold dl;show Option.bind (gU N _ _ _) _=_;rw [show gU N ⟨5,0,0,0,[v0,v0],[]⟩ (iP (fun x st=>cO N ⟨5,0,0,0,[v0,v0],[]⟩ x st)) (none,())=some (none,()) from ha,bs];rfl
theorem ObjP.ok {N:Nat}(hN:20000≤N){Y:List La}{i:Nat}{c:La}{PL:List K4}(h:ObjP N Y i c PL): ∀p∈PL,sg N p∧normal p∧Bf p∧lI p=p:=by
 intro p hp;obtain ⟨n,hn⟩:=List.getElem?_of_mem hp;obtain ⟨x, -,hs⟩:=h.each n p hn;have hnorm:=hs.normal;refine ⟨?_,hnorm,?_,?_⟩
 ·rcases hs with ⟨h1, -⟩|⟨-, -,⟨-,h3,h4⟩|⟨j,a, -, -,hr⟩⟩
  ·exact .inl h1
  ·refine .inr ?_;unfold AB;rw [h3,h4];exact EK hN
  exact .inr hr
 ·intro h8;rcases hs with ⟨h1,h2, -, -,h5,h6⟩|⟨h1, -⟩
  ·rw [h2];exact ⟨h5,h6⟩
  exact absurd h8 h1
 obtain ⟨pk,pa,pv,pg,ps⟩:=p;unfold lI;by_cases h8:aF .i64 pa 8=0
 ·obtain ⟨e1,e2⟩:=hnorm.1 h8;simp only at e1 e2⊢;rw [Lm h8,ct,e1,e2]
 have e:=hnorm.2 h8;simp only at e⊢;rw [Ln h8,cf,e]
def JL (fr:Bool)(p:K4)(d:Li):Prop:=(d=Ku∧(fr=true→aF .i64 p.Attrs 8≠0))∨(d=Kt∧fr=true∧aF .i64 p.Attrs 8=0)
theorem uV {l z:List Lj}{i j:Nat}{a b:Lj}(h:l.Perm z)(ha:l[i]? =some a)(hb:l[j]? =some b):((l.set i b).set j a).Perm z:=by
 obtain ⟨h1,e1⟩:=List.getElem?_eq_some_iff.1 ha;obtain ⟨h2,e2⟩:=List.getElem?_eq_some_iff.1 hb;subst e1 e2;exact (List.set_set_perm h1 h2).trans h
section
variable (N:Nat) (hN:20000≤N) (n:Nat) (hn:n≤6000) (zk:List Lj) (hzk:zk.length=n)
include hN hn hzk
omit hN in
theorem AE (kb:List Lj→Int→Option (List Lj))(a b p5:Int)(ha:0≤a)(h5:p5<n)(hk: ∀l:List Lj,l.Perm zk→Sat (kb l (p5+1)) fun r=>r.Perm zk):
  ∀(m:Nat) (l:List Lj) (j:Int),j<m→a≤j→j≤p5→l.Perm zk→Sat (cX N kb a b p5 m l j) fun r=>r.Perm zk
 |0,l,j,h,h1,_,_=>by omega
 | m+1,l,j,h,h1,h2,h3=>by
  have hlz:=(h3).length_eq.trans hzk;rw [cX.eq_2]
  refine bv (P:=fun c=>c=true→a<j) (fun e=> ?_) (fun _=>ah fun h=>by cases h) fun c hc=>aZ (fun e=> ?_) fun _=> ?_
  ·have h4:=of_decide_eq_true e
   refine bP I I fun x _=>aR (by constructor<;>omega) (bP I I fun y _=>(sL N _ _).bind fun z _=>ah fun _=>h4)
  ·have h4:=hc e;refine aR (by constructor<;>omega) (aR (by constructor<;>omega) (bP I I fun xb hxb=>bP I I fun xa hxa=>bP I I fun _ _=>bP I (by rw [List.length_set];omega) fun _ _=>aR (by constructor<;>omega) ?_));exact AE kb a b p5 ha h5 hk m _ _ I I I (uV h3 hxa hxb)
  unfold dU;exact aR (by constructor<;>omega) (hk l h3)
theorem yb (a b:Int)(ha:0≤a)(hb:b≤n): ∀(m:Nat) (l:List Lj) (i:Int),(b - i).toNat<m→a≤i→l.Perm zk→Sat (bV N a b m l i) fun r=>r.Perm zk
 |0,l,i,h,h1,h2=>by omega
 |m+1,l,i,h,h1,h2=>by
  have hlz:=(h2).length_eq.trans hzk;rw [bV.eq_2]
  refine bz (fun h3=> ?_) fun _=>ah h2
  exact AE N n hn zk hzk _ a b i ha I (fun l' hl'=>yb a b ha hb m l' (i+1) I I hl') N l i I h1 I h2
theorem AD (l:List Lj)(a b:Int)(ha:0≤a)(ha':a≤n)(hb:b≤n)(hl:l.Perm zk):Sat (bW N l a b) fun r=>r.Perm zk:=by
 have hlz:=(hl).length_eq.trans hzk;unfold bW;exact aR (by constructor<;>omega) (yb N hN n hn zk hzk a b ha hb N l _ I I hl)
omit hN in
theorem uo (x y k:Int)(hx:0≤x)(hy:0≤y)(hx2:x+k≤n)(hy2:y+k≤n): ∀(m:Nat) (l:List Lj) (i:Int),k - i<m→0≤i→i≤k→l.Perm zk→Sat (dz N x y k m l i) fun r=>r.Perm zk
 |0,l,i,h,h1,h3,h2=>by omega
 |m+1,l,i,h,h1,h3,h2=>by
  have hlz:=(h2).length_eq.trans hzk;rw [dz.eq_2]
  refine bz (fun h4=> ?_) fun _=>ah h2
  refine aR (by constructor<;>omega) (aR (by constructor<;>omega) (aR (by constructor<;>omega) (bP I I fun xb hxb=>aR (by constructor<;>omega) (bP I I fun xa hxa=>bP I I fun _ _=>bP I (by rw [List.length_set];omega) fun _ _=>aR (by constructor<;>omega) ?_))));exact uo x y k hx hy hx2 hy2 m _ _ I I I (uV h2 hxa hxb)
theorem tC (l:List Lj)(x y k:Int)(hk:0≤k)(hx:0≤x)(hy:0≤y)(hx2:x+k≤n)(hy2:y+k≤n)(hl:l.Perm zk):Sat (cT N l x y k) fun r=>r.Perm zk:=
 uo N n hn zk hzk x y k hx hy hx2 hy2 N l 0 I I I hl
theorem si (q:Int): ∀(m:Nat) (l:List Lj) (i j:Int),i+j<m→0<i→0<j→i≤q→q+j≤n→l.Perm zk→Sat (dg N q m l i j) fun r=>r.Perm zk
 |0,l,i,j,h,h1,h2,h3,h4,h5=>by omega
 | m+1,l,i,j,h,h1,h2,h3,h4,h5=>by
  have hlz:=(h5).length_eq.trans hzk;rw [dg.eq_2]
  refine jD (fun e=>bz (fun h6=> ?_) fun h6=> ?_) fun e=> ?_
  ·refine aR (by constructor<;>omega) ((tC N hN n hn zk hzk l _ _ _ I I I I I h5).bind fun r hr=>aR (by constructor<;>omega) ?_);exact si q m r _ _ I I h2 I h4 hr
  ·have:=of_decide_eq_false e;refine aR (by constructor<;>omega) (aR (by constructor<;>omega) (aR (by constructor<;>omega) ((tC N hN n hn zk hzk l _ _ _ I I I I I h5).bind fun r hr=>aR (by constructor<;>omega) ?_)));exact si q m r _ _ I h1 I h3 I hr
  have:=of_decide_eq_true e;unfold fu;exact aR (by constructor<;>omega) ((tC N hN n hn zk hzk l _ _ _ I I I I I h5).bind fun r hr=>ah hr)
theorem EL (l:List Lj)(a q b:Int)(h0:0≤a)(h1:a<q)(h2:q<b)(h3:b≤n)(hl:l.Perm zk):Sat (d9 N l a q b) fun r=>r.Perm zk:=by
 have hlz:=(hl).length_eq.trans hzk;unfold d9;exact aR (by constructor<;>omega) (aR (by constructor<;>omega) (si N hN n hn zk hzk q N l _ _ I I I I I hl))
section
variable (kb:List Lj→Int→Int→Int→Option (List Lj)) (a q b:Int) (h0:0≤a) (h1:a<q) (h2:q<b) (h3:b≤n)
variable (hk: ∀(l:List Lj) (x y z:Int),a≤x→x<y→y<z→z≤b→z - x<b - a→l.Perm zk→Sat (kb l x y z) fun r=>r.Perm zk)
include h0 h1 h2 h3
omit hN in
theorem xX (p7:Int)(h7:p7≤b)(h7':q≤p7): ∀(m:Nat) (l:List Lj) (k:Int),(p7 - k).toNat<m→a≤k→l.Perm zk→Sat (du N kb a q b p7 m l k) fun r=>r.Perm zk
 |0,l,k,h,h4,h5=>by omega
 |m+1,l,k,h,h4,h5=>by
  have hlz:=(h5).length_eq.trans hzk;rw [du.eq_2];refine aR (by constructor<;>omega) (bz (fun h6=> ?_) fun _=>ah h5);refine aR (by constructor<;>omega) (aR (by constructor<;>omega) (bP I I fun xb hxb=>bP I I fun xa hxa=>bP I I fun _ _=>bP I (by rw [List.length_set];omega) fun _ _=>aR (by constructor<;>omega) ?_));exact xX p7 h7 h7' m _ _ I I (uV h5 hxa hxb)
theorem vW (l:List Lj)(hl:l.Perm zk): ∀(m:Nat) (i j:Int),j - i<m→q≤i→i≤j→j≤b→Sat (cA N kb a q b l m i j) fun r=>r.Perm zk
 |0,i,j,h,h4,h5,h6=>by omega
 |m+1,i,j,h,h4,h5,h6=>by
  have hlz:=(hl).length_eq.trans hzk;rw [cA.eq_2]
  refine bz (fun h7=> ?_) fun _=>xX N n hn zk hzk kb a q b h0 h1 h2 h3 i I h4 N l a I I hl
  rw [mp I I I];refine aR (by constructor<;>omega) (bP I I fun _ _=>bP I I fun _ _=>(sL N _ _).bind fun _ _=>aZ (fun _=>aR (by constructor<;>omega) ?_) fun _=> ?_)
  ·exact vW l hl m _ _ I I I h6
  exact vW l hl m _ _ I h4 I I
omit hN h1 in
theorem xW (p34:Int)(h7:a≤p34): ∀(m:Nat) (l:List Lj) (k:Int),k<m→0≤k→k≤q→l.Perm zk→Sat (dt N kb a q b p34 m l k) fun r=>r.Perm zk
 |0,l,k,h,h4,h5,h6=>by omega
 |m+1,l,k,h,h4,h5,h6=>by
  have hlz:=(h6).length_eq.trans hzk;rw [dt.eq_2]
  refine bz (fun h8=> ?_) fun _=>ah h6
  refine aR (by constructor<;>omega) (aR (by constructor<;>omega) (bP I I fun xb hxb=>bP I I fun xa hxa=>bP I I fun _ _=>bP I (by rw [List.length_set];omega) fun _ _=>aR (by constructor<;>omega) ?_));exact xW p34 h7 m _ _ I I I (uV h6 hxa hxb)
theorem tA (l:List Lj)(hl:l.Perm zk): ∀(m:Nat) (i j:Int),j - i<m→a≤i→i≤j→j≤q→Sat (cK N kb a q b l m i j) fun r=>r.Perm zk
 |0,i,j,h,h4,h5,h6=>by omega
 |m+1,i,j,h,h4,h5,h6=>by
  have hlz:=(hl).length_eq.trans hzk;rw [cK.eq_2]
  refine bz (fun h7=> ?_) fun _=>xW N n hn zk hzk kb a q b h0 h2 h3 i h4 N l q I I I hl
  rw [mp I I I];refine aR (by constructor<;>omega) (bP I I fun _ _=>bP I I fun _ _=>(sL N _ _).bind fun _ _=>jD (fun _=>aR (by constructor<;>omega) ?_) fun _=> ?_)
  ·exact tA l hl m _ _ I I I h6
  exact tA l hl m _ _ I h4 I I
include hk
omit hN in
theorem xY (p:Int)(hp:p≤q)(hp2:(a+b) / 2+q - b≤p)(hp3:a≤p)(l:List Lj)(hl:l.Perm zk):Sat (cL N kb b a q p l) fun r=>r.Perm zk:=by
 have hlz:=(hl).length_eq.trans hzk;unfold cL;rw [mp I I I]
 refine bv (P:=fun c=>c=true→(a+b) / 2<(a+b) / 2+q - p∧(a+b) / 2+q - p<b) (fun e=>ah fun e2=>⟨of_decide_eq_true e,of_decide_eq_true e2⟩) (fun _=>ah fun h=>by cases h) fun c hc=>aZ (fun e=> ?_) fun _=>ah hl
 obtain ⟨h4,h5⟩:=hc e
 exact (hk l _ _ _ I h4 h5 I I hl).bind fun r hr=>ah hr
omit hN in
theorem xZ (p:Int)(hp:p≤q)(hp2:(a+b) / 2+q - b≤p)(hp3:a≤p)(l:List Lj)(hl:l.Perm zk):Sat (cM N kb a b p q l) fun r=>r.Perm zk:=by
 have hlz:=(hl).length_eq.trans hzk;unfold cM;rw [mp I I I]
 refine bv (P:=fun c=>c=true→a<p∧p<(a+b) / 2) (fun e=>ah fun e2=>⟨of_decide_eq_true e,of_decide_eq_true e2⟩) (fun _=>ah fun h=>by cases h) fun c hc=>aZ (fun e=> ?_) fun _=>xY N n hn zk hzk kb a q b h0 h1 h2 h3 hk p hp hp2 hp3 l hl
 obtain ⟨h4,h5⟩:=hc e
 exact (hk l _ _ _ I h4 h5 I I hl).bind fun r hr=>xY N n hn zk hzk kb a q b h0 h1 h2 h3 hk p hp hp2 hp3 r hr
theorem DM (p:Int)(hp:p≤q)(hp2:(a+b) / 2+q - b≤p)(hp3:a≤p)(l:List Lj)(hl:l.Perm zk):Sat (dv N kb a q b l p) fun r=>r.Perm zk:=by
 have hlz:=(hl).length_eq.trans hzk;unfold dv;rw [mp I I I];refine aR (by constructor<;>omega) (bv (P:=fun c=>c=true→p<q∧q<(a+b) / 2+q - p) (fun e=>ah fun e2=>⟨of_decide_eq_true e,of_decide_eq_true e2⟩) (fun _=>ah fun h=>by cases h) fun c hc=>aZ (fun e=> ?_) fun _=>xZ N n hn zk hzk kb a q b h0 h1 h2 h3 hk p hp hp2 hp3 l hl);obtain ⟨h4,h5⟩:=hc e
 exact (EL N hN n hn zk hzk l _ _ _ I h4 h5 I hl).bind fun r hr=>xZ N n hn zk hzk kb a q b h0 h1 h2 h3 hk p hp hp2 hp3 r hr
theorem rk (l:List Lj)(hl:l.Perm zk): ∀(m:Nat) (i j:Int),j - i<m→a≤i→(a+b) / 2+q - b≤i→i≤j→j≤q→j≤(a+b) / 2∨q≤(a+b) / 2→Sat (cJ N kb a q b l m i j) fun r=>r.Perm zk
 |0,i,j,h,h4,h4',h5,h6,h7=>by omega
 |m+1,i,j,h,h4,h4',h5,h6,h7=>by
  have hlz:=(hl).length_eq.trans hzk;rw [cJ.eq_2]
  refine bz (fun h8=> ?_) fun _=>DM N hN n hn zk hzk kb a q b h0 h1 h2 h3 hk i I h4' h4 l hl
  rw [mp (a:=a) (b:=b) I I I,mp (a:=i) (b:=j) I I I];refine aR (by constructor<;>omega) (aR (by constructor<;>omega) (bP I I fun _ _=>bP I I fun _ _=>(sL N _ _).bind fun _ _=>jD (fun _=>aR (by constructor<;>omega) ?_) fun _=> ?_))
  ·exact rk l hl m _ _ I I I I h6 h7
  exact rk l hl m _ _ I h4 h4' I I I
theorem DN (l:List Lj)(hl:l.Perm zk):Sat (dy N kb a q b l) fun r=>r.Perm zk:=by
 have hlz:=(hl).length_eq.trans hzk;unfold dy dw;rw [mp I I I];refine aR (by constructor<;>omega) (aR (by constructor<;>omega) (bz (fun h4=> ?_) fun h4=> ?_))
 ·exact aR (by constructor<;>omega) (aR (by constructor<;>omega) (rk N hN n hn zk hzk kb a q b h0 h1 h2 h3 hk l hl N _ _ I I I I I I))
 exact aR (by constructor<;>omega) (rk N hN n hn zk hzk kb a q b h0 h1 h2 h3 hk l hl N _ _ I I I I I I)
end
theorem CI: ∀(m:Nat) (l:List Lj) (a q b:Int),b - a<m→0≤a→a<q→q<b→b≤n→l.Perm zk→Sat (aK N m l a q b) fun r=>r.Perm zk
 |0,l,a,q,b,h,h0,h1,h2,h3,h4=>by omega
 |m+1,l,a,q,b,h,h0,h1,h2,h3,h4=>by
  have hlz:=(h4).length_eq.trans hzk
  have hk: ∀(l:List Lj) (x y z:Int),a≤x→x<y→y<z→z≤b→z - x<b - a→l.Perm zk→Sat (aK N m l x y z) fun r=>r.Perm zk:=fun l x y z g1 g2 g3 g4 g5 g6=>CI m l x y z I I g2 g3 I g6
  rw [gF];refine aR (by constructor<;>omega) (bz (fun _=>vW N hN n hn zk hzk _ a q b h0 h1 h2 h3 l h4 N q b I I I I) fun _=> ?_);unfold dI;refine aR (by constructor<;>omega) (bz (fun _=>tA N hN n hn zk hzk _ a q b h0 h1 h2 h3 l h4 N a q I I I I) fun _=>DN N hN n hn zk hzk _ a q b h0 h1 h2 h3 hk l h4)
theorem AC (l:List Lj)(a q b:Int)(h0:0≤a)(h1:a<q)(h2:q<b)(h3:b≤n)(h4:l.Perm zk):Sat (bN N l a q b) fun r=>r.Perm zk:=
 CI N hN n hn zk hzk N l a q b I h0 h1 h2 h3 h4
theorem vX (kb:List Lj→Int→Option (List Lj))(z:Int)(hz:0<z)(hz2:z≤n)(hk: ∀l:List Lj,l.Perm zk→Sat (kb l (z*2)) fun r=>r.Perm zk): ∀(m:Nat) (l:List Lj) (a b:Int),(n:Int) - a<m→0≤a→a≤n→b=a+2*z→l.Perm zk→Sat (dQ N kb n z m l a b) fun r=>r.Perm zk
 |0,l,a,b,h,h0,h1,h2,h3=>by omega
 | m+1,l,a,b,h,h0,h1,h2,h3=>by
  have hlz:=(h3).length_eq.trans hzk;rw [dQ.eq_2]
  refine bz (fun h4=> ?_) fun h4=> ?_
  ·refine aR (by constructor<;>omega) ((AC N hN n hn zk hzk l _ _ _ h0 I I h4 h3).bind fun r hr=>aR (by constructor<;>omega) (aR (by constructor<;>omega) ?_));exact vX kb z hz hz2 hk m r _ _ I I h4 J hr
  unfold eZ dR;refine aR (by constructor<;>omega) (bz (fun h5=> ?_) fun _=>aR (by constructor<;>omega) (hk l h3))
  exact (AC N hN n hn zk hzk l _ _ _ h0 I h5 I h3).bind fun r hr=>aR (by constructor<;>omega) (hk r hr)
theorem vY: ∀(m:Nat) (l:List Lj) (z:Int),((n:Int) - z).toNat<m→0<z→l.Perm zk→Sat (bD N n m l z) fun r=>r.Perm zk
 |0,l,z,h,h0,h1=>by omega
 |m+1,l,z,h,h0,h1=>by
  have hlz:=(h1).length_eq.trans hzk;rw [bD.eq_2]
  refine bz (fun h4=> ?_) fun h4=>ah h1
  exact aR (by constructor<;>omega) (vX N hN n hn zk hzk _ z h0 I (fun l' hl'=>vY m l' (z*2) I I hl') N l 0 _ I I I I h1)
theorem ya: ∀(m:Nat) (l:List Lj) (a b:Int),(n:Int) - a<m→0≤a→a≤n→b=a+20→l.Perm zk→Sat (dZ N n m l a b) fun r=>r.Perm zk
 |0,l,a,b,h,h0,h1,h2,h3=>by omega
 | m+1,l,a,b,h,h0,h1,h2,h3=>by
  have hlz:=(h3).length_eq.trans hzk;rw [dZ.eq_2]
  refine bz (fun h4=> ?_) fun h4=> ?_
  ·refine (AD N hN n hn zk hzk l a b h0 h1 h4 h3).bind fun r hr=>aR (by constructor<;>omega) ?_
   exact ya m r _ _ I I h4 J hr
  unfold ft
  exact (AD N hN n hn zk hzk l a n h0 h1 I h3).bind fun r hr=>vY N hN n hn zk hzk N r 20 I I hr
end
theorem DO (N:Nat)(hN:20000≤N)(l:List Lj)(hl:l.length≤6000):Sat (d3 N l) fun r=>r.Perm l:=by
 unfold d3 fK
 exact (ya N hN l.length hl l J N l 0 20 I I I I (List.Perm.refl l)).bind fun r hr=>ah hr
theorem rT (N:Nat)(hN:20000≤N)(a:List Lj)(ha:a.length≤6000)(hR: ∀x∈a,qj N x): ∀(m i:Nat) (p:List Lj),a.length<m+i→i≤a.length→p=a.take i→Sat (jI N a m p (i:Int)) fun r=>r.Perm a
 |0,i,p,h,h1,h2=>by omega
 | m+1,i,p,h,h1,h2=>by
  rw [jI.eq_2]
  have hp:p.length≤i:=by rw [h2,List.length_take];omega
  refine bz (fun h4=> ?_) fun h4=> ?_
  ·refine bP I h4 fun x hx=> ?_
   rw [show cW N x=some true from hR x (List.mem_of_getElem? hx),bs];unfold ng;rw [ct];refine aR (by unfold gv;rw [List.length_singleton];omega) (aR (by constructor<;>omega) ?_);refine rT N hN a ha hR m (i+1) _ I I ?_;rw [Int.toNat_natCast] at hx;rw [h2,List.take_add_one,hx];rfl
  unfold pH;rw [List.take_of_length_le I] at h2;subst h2
  exact (DO N hN p ha).bind fun r hr=>ah hr
theorem up (N:Nat)(hN:20000≤N)(a:List Lj)(ha:a.length≤6000)(hR: ∀x∈a,qj N x):Sat (ga N a) fun r=>r.Perm a:=
 rT N hN a ha hR N 0 [] I I (by simp)
end
section
open Go.RowKit
theorem Obj.uniq {N i k:Nat}{w:K2}{c:La}{PL:List K4}(h:Obj N i k w c PL){p q:K4}(hp:p∈PL)(hq:q∈PL)(e:p.Key=q.Key):p=q:=by
 have hnd:=h.inv.obj.nd;obtain ⟨n,hn⟩:=List.getElem?_of_mem hp;obtain ⟨m,hm⟩:=List.getElem?_of_mem hq
 have g1:((PL.map xE).map (·.1))[n]? =some p.Key:=by rw [List.getElem?_map,List.getElem?_map,hn];rfl
 have g2:((PL.map xE).map (·.1))[m]? =some p.Key:=by rw [List.getElem?_map,List.getElem?_map,hm,e];rfl
 have:n=m:=(List.getElem?_inj (by rw [List.length_map,List.length_map];exact (List.getElem?_eq_some_iff.1 hn).1) hnd).1 (g1.trans g2.symm);subst this;exact Option.some.inj (hn.symm.trans hm)
theorem Obj.key {N i k:Nat}{w:K2}{c:La}{PL:List K4}(h:Obj N i k w c PL){p:K4}(hp:p∈PL):qj N p.Key∧qi p.Attrs:=h.inv.obj.row.ok h.inv.ti _ (List.mem_map_of_mem hp)
section
variable {N:Nat} (hN:20000≤N) {v:Lf} {i:Nat} (hv:v.Kind=7) (hvN:v.N=2*i+1)
include hN hv hvN
variable {k:Nat} {w:K2} {c:La} {PL:List K4} (h:Obj N i k w c PL)
include h
end
end
section
open Go.RowKit
section
variable {N:Nat} (hN:20000≤N) {v:Lf} {i:Nat} (hv:v.Kind=7) (hvN:v.N=2*i+1)
include hN hv hvN
variable {k:Nat} {w:K2} {c:La} {PL:List K4} (h:Obj N i k w c PL)
include h
end
end
section
open Go.RowKit
section
variable {N:Nat} (hN:20000≤N) {v:Lf} {i:Nat} (hv:v.Kind=7) (hvN:v.N=2*i+1)
include hN hv hvN
variable {k:Nat} {w:K2} {c:La} {PL:List K4} (h:Obj N i k w c PL)
include h
end
end
section
open Go.RowKit
section
variable {N:Nat} (hN:20000≤N) {v:Lf} {i:Nat} (hv:v.Kind=7) (hvN:v.N=2*i+1)
include hN hv hvN
variable {k:Nat} {w:K2} {c:La} {PL:List K4} (h:Obj N i k w c PL)
include h
end
end
section
open Go.RowKit
def BT (n:Int):Prop:=n≠7∧n≠9
def Jg (d:Li):Prop:=BT d.Value.Kind
theorem Fi (N:Nat)(d:Li)(a1:Lj)(p27 y29 p31 p32:Int)(p33:ByteArray)(p14 p15:Int)(p16:ByteArray)(p37 p38:Int)(p39:ByteArray)(h:BT p31):Sat (ee N d a1 p27 y29 p31 p32 p33 p14 p15 p16 p37 p38 p39) fun r=>BT r.Value.Kind:=by
 unfold ee gA bp;rw [bs]
 exact aZ (fun _=>ah h) fun _=>ah h
theorem Fj (N:Nat)(d:Li)(a1:Lj)(p27 y29 p11 p12:Int)(p13:ByteArray)(p14 p15:Int)(p16:ByteArray)(p31 p32:Int)(p33:ByteArray)(h:BT p31):Sat (ef N d a1 p27 y29 p11 p12 p13 p14 p15 p16 p31 p32 p33) fun r=>BT r.Value.Kind:=by
 unfold ef bp;rw [bs]
 exact aZ (fun _=>Fi N d _ _ _ _ _ _ _ _ _ _ _ _ h) fun _=>Fi N d _ _ _ _ _ _ _ _ _ _ _ _ h
theorem zv (N:Nat){d:Li}(hd:Jg d)(a1:Lj)(p21 p22:Int)(p23:ByteArray)(p11 p12:Int)(p13:ByteArray)(p14 p15:Int)(p16:ByteArray)(p27:Int)(h:BT p21):Sat (eg N d a1 p21 p22 p23 p11 p12 p13 p14 p15 p16 p27) fun r=>BT r.Value.Kind:=by
 unfold eg
 refine (tY N d).bind fun y _=> ?_
 unfold bp;rw [bs]
 exact aZ (fun _=>Fj N d _ _ _ _ _ _ _ _ _ _ _ _ hd) fun _=>Fj N d _ _ _ _ _ _ _ _ _ _ _ _ h
theorem Fk (N:Nat){d:Li}(hd:Jg d){p:K4}(hp:aF .i64 p.Attrs 8=0→BT p.Value.Kind)(b:Bool)(a1:Lj)(p11 p12:Int)(p13:ByteArray)(p14 p15:Int)(p16:ByteArray):Sat (eh N p b d a1 p11 p12 p13 p14 p15 p16) fun r=>BT r.Value.Kind:=by
 unfold eh gB
 refine bv (P:=fun x=>x=true→aF .i64 p.Attrs 8=0) (fun _=>ah fun e=> ?_) (fun _=>ah fun e=>by cases e) fun x hx=>aZ (fun e=>aZ (fun _=> ?_) fun _=> ?_) fun _=>aZ (fun _=> ?_) fun _=> ?_
 ·rw [Bool.not_not] at e;exact of_decide_eq_true e
 ·exact zv N hd _ _ _ _ _ _ _ _ _ _ _ (hp (hx e))
 ·exact zv N hd _ _ _ _ _ _ _ _ _ _ _ (hp (hx e))
 ·exact zv N hd _ _ _ _ _ _ _ _ _ _ _ ⟨by decide,by decide⟩
 exact zv N hd _ _ _ _ _ _ _ _ _ _ _ ⟨by decide,by decide⟩
theorem yu (N:Nat){p:K4}(hp:aF .i64 p.Attrs 8=0→BT p.Value.Kind)(k:Lj){d:Li}(hd:Jg d):Sat (fj N p k d) fun r=>BT r.Value.Kind:=by
 unfold fj bp;rw [bs]
 have ht: ∀{x y:Bool} {m:Option Bool},Sat m (fun _=>True)→Sat (bif x then some y else m) fun _=>True:=fun hm=>aZ (fun _=>ah trivial) fun _=>hm
 refine Sat.bind (P:=fun _=>True) (ht (Sat.bind (P:=fun _=>True) (aZ (fun _=>Sat.bind (P:=fun _=>True) (ah trivial) fun _ _=>ah trivial) fun _=>ah trivial) fun _ _=>ah trivial)) fun b _=>Sat.bind (P:=fun _=>True) (aZ (fun _=>ah trivial) fun _=>ah trivial) fun c _=>aZ (fun _=> ?_) fun _=> ?_
 ·exact Fk N hd hp b k _ _ _ _ _ _
 exact Fk N hd hp b k _ _ _ _ _ _
theorem Fl (N:Nat){p:K4}(hp:aF .i64 p.Attrs 8=0→BT p.Value.Kind)(has ext:Bool)(k:Lj){d:Li}(hd:Jg d):Sat (cq N p has ext k d) fun r=>BT r.1.Value.Kind:=by
 have h0:BT 0:=⟨by decide,by decide⟩;unfold cq mt
 refine jD (fun _=>jD (fun _=>ah h0) fun _=> ?_) fun _=> ?_
 ·exact Sat.bind ((yu N (fun _=>h0) k hd).bind fun y hy=>ah hy) fun y hy=>ah hy
 refine Sat.bind (P:=fun _=>True) (aZ (fun _=>(z6 N p d).bind fun _ _=>ah trivial) fun _=>ah trivial) fun b _=>aZ (fun _=>ah h0) fun _=> ?_
 exact (yu N hp k hd).bind fun y hy=>ah hy
section
variable {N:Nat} (hN:20000≤N) {v:Lf} {i:Nat} (hv:v.Kind=7) (hvN:v.N=2*i+1)
include hN hv hvN
variable {k:Nat} {w:K2} {c:La} {PL:List K4} (h:Obj N i k w c PL)
include h
end
end
section
open Go.RowKit
def E2:Lf:=⟨8,0,⟨#[]⟩⟩
def tL:Lj:=⟨1,0,⟨#[108,101,110,103,116,104]⟩⟩
structure Arr (N i k:Nat) (w:K2) (c:La) (PL:List K4):Prop where
 o:Obj N i k w c PL
 kind:c.Kind=2
 hole: ∀p∈PL,p.Key.Kind=0→c.More[p.Key.N.toNat]? =some E2
 len: ∀p∈PL,p.Key≠tL
def Kp (c:La):K4:=⟨tL,bif decide (aF .i64 c.Flags 32=0) then 1 else 0,⟨3,(c.More.length:Int),⟨#[]⟩⟩,v0,v0⟩
section
variable {N:Nat} (hN:20000≤N) {v:Lf} {i:Nat} (hv:v.Kind=7) (hvN:v.N=2*i+1)
include hN hv hvN
variable {k:Nat} {w:K2} {c:La} {PL:List K4} (h:Arr N i k w c PL) (hk:k≤1000000000)
include h hk
theorem FK {key:Lj}(hl:key≠tL)(hno:key.Kind=0→ ∀x,0≤key.N→c.More[key.N.toNat]? =some x→x=E2):fC N w v key=(fi N w v key).bind fun y=>some (y.1,y.2):=by
 unfold fC dc i1;rw [yD hN hv hvN hk h.o.inv,bs,Lm h.kind,nt,cf,bs,Ln (show¬key=⟨1,0,⟨#[108,101,110,103,116,104]⟩⟩ from hl),cf];obtain ⟨b,hb,hb2⟩:=tM N I key;by_cases h0:key.Kind=0
 ·rw [Lm h0,ct,hb,bs,bs]
  cases b with
  |false=>rfl
  | true=>
   have hn:=hb2 rfl h0;show Option.bind (Option.bind (Option.bind (bif decide (key.N<(c.More.length:Int)) then Option.bind (bE c.More key.N) _ else some false) _) _) _=_;by_cases hlt:key.N<c.More.length
   ·have hg:bE c.More key.N=some E2:=by
     rw [GF hn.1 I];exact congrArg some (hno h0 _ hn.1 (List.getElem?_eq_getElem I))
    rw [Lm hlt,ct,hg,bs];rfl
   rw [Ln hlt,cf];rfl
 rw [Ln h0];rfl
end
end
section
open Go.RowKit
theorem E0 {N:Nat}(hN:20000≤N):qj N tL:=by
 unfold qj cW;show (Option.bind (jt N (⟨#[108,101,110,103,116,104]⟩:ByteArray)) _)=_
 have h:jt N (⟨#[108,101,110,103,116,104]⟩:ByteArray)=some (0,false):=by
  unfold jt
  have e:((⟨#[108,101,110,103,116,104]⟩:ByteArray).toList==(⟨#[]⟩:ByteArray).toList)=false:=by decide+kernel
  have hg:tT (⟨#[108,101,110,103,116,104]⟩:ByteArray) 0=some 108:=by decide+kernel
  have hs:((⟨#[108,101,110,103,116,104]⟩:ByteArray).size:Int)=6:=by decide+kernel
  rw [e,cf,bs,hs,hg];obtain ⟨m,rfl⟩: ∃m,N=m+1:=⟨N - 1,by omega⟩;rw [show decide ((10:Int)<6)=false from rfl,cf,bs,show decide ((108:Int)=48)=false from rfl,cf,bs,bs,cf];rw [nh.eq_2,hs,hg];rfl
 rw [h,bs];rfl
def KD (p:K4):Li:=bif decide (aF .i64 p.Attrs 8=0) then ⟨51,aF .i64 p.Attrs 7,p.Value,v0,v0⟩ else ⟨60,aF .i64 p.Attrs 6,v0,p.Get,p.Set⟩
theorem BP {N:Nat}{Y:List La}{i:Nat}{c c':La}{PL:List K4}(h:ObjP N Y i c PL){n:Nat}(hn:n<PL.length)(hs:c'.Slots=c.Slots.eraseIdx (n+1)):ObjP N (Y.set i c') i c' (PL.eraseIdx n):=by
 have hnum:=h.num
 have hP: ∀m:Nat,(PL.eraseIdx n)[m]? =PL[if m<n then m else m+1]? :=fun m=>by
  rw [List.getElem?_eraseIdx];split<;>rfl
 have hS: ∀m:Nat,c'.Slots[m+1]? =c.Slots[(if m<n then m else m+1)+1]? :=fun m=>by
  rw [hs,List.getElem?_eraseIdx];by_cases e:m<n
  ·rw [if_pos I,if_pos e]
  rw [if_neg I,if_neg e]
 refine ⟨?_,fun m p hp=> ?_,fun m1 m2 x hne h1 h2=> ?_,fun m x hx=> ?_⟩
 ·rw [hs,List.length_eraseIdx_of_lt I,List.length_eraseIdx_of_lt hn];omega
 ·rw [hP] at hp;obtain ⟨x,hx,hsl⟩:=h.each _ p hp;refine ⟨x,by rw [hS];exact hx,hsl.move fun j h9 hj _=>List.getElem?_set_ne fun e=> ?_⟩;subst e;exact h.own _ x hx h9 hj
 ·rw [hS] at h1 h2;refine h.inj _ _ x (fun e=>hne ?_) h1 h2;split at e<;>split at e<;>omega
 rw [hS] at hx;exact h.own _ x hx
section
variable {N:Nat} (hN:20000≤N) {v:Lf} {i:Nat} (hv:v.Kind=7) (hvN:v.N=2*i+1)
include hN hv hvN
variable {k:Nat} {w:K2} {c:La} {PL:List K4} (h:Obj N i k w c PL)
include h
def HV (N i k:Nat)(w:K2)(c:La)(PL:List K4)(key:Lj)(r:Bool×K2):Prop:=
 (r=(true,w)∧ ∀p∈PL,p.Key≠key)∨(r=(false,w)∧ ∃p∈PL,p.Key=key∧aF .i64 p.Attrs 4=0)∨
 ∃n p c',(r.1=true∧FrO i w r.2 c c')∧PL[n]? =some p∧p.Key=key∧aF .i64 p.Attrs 4≠0∧Obj N i (k+1024) r.2 c' (PL.eraseIdx n)∧c'.Kind=c.Kind∧c'.More=c.More∧c'.Flags=c.Flags
theorem DS (hk:k+1100≤1000000000)(key:Lj):Sat (cE N w v key) (HV N i k w c PL key):=by
 have hI:=h.inv;have hle:=hI.obj.row.le hI.ti;rw [List.length_map] at hle
 have hb:w.shapes_.shapes_.length+1024≤1073741824:=by have:=hI.tb;omega
 obtain ⟨z,z1,z2⟩:=hI.obj.rc.proto;have hrc:=hI.obj.rc;have hg:=hI.good;have hsl:=h.obj.num;unfold cE;rw [wc hN hv hvN I hI,bs];show Sat (Option.bind (bu N ⟨c,w,v⟩ key) _) _
 refine (yJ (v:=v) hN I hI h.obj key).bind fun y hy=> ?_
 rcases hy with ⟨e1, -,hno⟩|⟨n,e1,e2,hn,hnk⟩
 ·rw [e1];exact ah (.inl ⟨J,hno⟩)
 have hlt:=(List.getElem?_eq_some_iff.1 hn).1;rw [e2]
 refine bz (fun h4=>ah (.inr (.inl ⟨J,y.1,List.mem_of_getElem? hn,hnk,h4⟩))) fun h4=> ?_
 have hnl:(PL.map xE)[n]? =some (key,y.1.Attrs):=by rw [List.getElem?_map,hn];show some (y.1.Key,y.1.Attrs)=_;rw [hnk]
 show Sat (Option.bind (eU N w.shapes_ c.Shape key) _) _
 refine (BB N I hI.ti hb hI.obj.row hI.obj.nd key n _ hnl).bind fun r hr=> ?_
 obtain ⟨r3,r4,r5⟩:=hr;rw [r3];refine aR (by rw [e1];constructor<;>omega) (aR (by rw [e1];constructor<;>omega) ?_);rw [e1];show Sat (Option.bind (kn N c.Slots ((n:Int)+1) ((n:Int)+2)) _) _;unfold kn;rw [kT I,bs]
 have e3:c.Slots.take ((n:Int)+1).toNat++c.Slots.drop ((n:Int)+2).toNat=c.Slots.eraseIdx (n+1):=by
  rw [List.eraseIdx_eq_take_drop_succ];congr 1
 rw [e3]
 have hm: ∀x∈c.Slots.eraseIdx (n+1),x∈c.Slots:=fun x hx=>List.mem_of_mem_eraseIdx hx
 have hlen:(c.Slots.eraseIdx (n+1)).length=c.Slots.length - 1:=List.length_eraseIdx_of_lt I;have hlen2:(PL.eraseIdx n).length=PL.length - 1:=List.length_eraseIdx_of_lt hlt
 have hmap:(PL.eraseIdx n).map xE=(PL.map xE).eraseIdx n:=by
  rw [List.eraseIdx_eq_take_drop_succ,List.map_append,List.map_take,List.map_drop, ←List.eraseIdx_eq_take_drop_succ]
 rw [←hmap] at r5;have hgc:goodC ⟨c.Kind,r.1,c.Flags,c.Age,c.Slots.eraseIdx (n+1),c.More⟩:=⟨by show (c.Slots.eraseIdx (n+1)).length≤5000;have:=hg.sl;omega,hg.ml,fun x hx=>hg.sv x (hm x hx),hg.mv⟩
 have hoc:ObjC N r.2.2 ⟨c.Kind,r.1,c.Flags,c.Age,c.Slots.eraseIdx (n+1),c.More⟩ ((PL.eraseIdx n).map xE):=by
  refine ⟨⟨hrc.kind,?_,hrc.fl,hrc.age,fun x hx=>hrc.sv x (hm x hx),hrc.mv,by show (c.Slots.eraseIdx (n+1)).length≤1025;have:=hrc.sl;omega,⟨z,?_,z2⟩,hrc.more,hrc.plain⟩,r5,by show (c.Slots.eraseIdx (n+1)).length=_;rw [List.length_map];omega,?_,hI.obj.noP,fun hk2 x hx h0=>hI.obj.idx hk2 x (by rw [hmap] at hx;exact List.mem_of_mem_eraseIdx hx) h0⟩
  ·obtain ⟨s',s1', -⟩:=r5.has r4.ti;exact s1'.1
  ·show (c.Slots.eraseIdx (n+1))[0]? =some z;rw [List.getElem?_eraseIdx_of_lt I];exact z1
  rw [hmap,List.eraseIdx_eq_take_drop_succ,List.map_append,List.map_take,List.map_drop, ←List.eraseIdx_eq_take_drop_succ];exact List.Nodup.sublist (List.eraseIdx_sublist ..) hI.obj.nd
 obtain ⟨g1,g2⟩:=zB (w:=xt w r.2.2) hN hv hvN (k:=k+1024) I ⟨hI.mem.old,hI.mem.good,by have:=hI.mem.len;show w.heap_.m_.Young.length≤_;omega⟩ r4.ti (by have:=r4.num;have:=hI.tb;show r.2.2.shapes_.length≤_;omega) hI.at_ (c':=⟨c.Kind,r.1,c.Flags,c.Age,c.Slots.eraseIdx (n+1),c.More⟩) rfl hgc hoc true
 refine Sat.bind ⟨_,g1,J⟩ fun u hu=> ?_
 rw [←hu]
 have hfr:FrO i w (xr (xt w r.2.2) ((xt w r.2.2).heap_.m_.Young.set i ⟨c.Kind,r.1,c.Flags,c.Age,c.Slots.eraseIdx (n+1),c.More⟩)) c ⟨c.Kind,r.1,c.Flags,c.Age,c.Slots.eraseIdx (n+1),c.More⟩:=by
  refine ⟨r4.le,fun m hm hmi _=>List.getElem?_set_ne (Ne.symm hmi),fun m x hx _=> .inl ?_⟩;change (c.Slots.eraseIdx (n+1))[m+1]? =some x at hx;rw [List.getElem?_eraseIdx] at hx;split at hx
  ·exact ⟨m,hx⟩
  exact ⟨m+1,hx⟩
 exact ah (.inr (.inr ⟨n,y.1,_,⟨J,hfr⟩,hn,hnk,h4,⟨g2,BP h.obj hlt J⟩,J,J,J⟩))
end
def Kq (k:Lj)(q:K4):K4:=⟨k,q.Attrs,(lI q).Value,(lI q).Get,(lI q).Set⟩
end
section
open Go.RowKit
def HX:K4:=⟨⟨0,0,⟨#[]⟩⟩,0,v0,v0,v0⟩
def kN (PL:List K4)(key:Lj):K4×Bool:=match PL.find? (fun p=>decide (p.Key=key)) with
 |some p=>(p,true)
 |none=>(HX,false)
theorem zb {PL:List K4}{key:Lj}(h: ∀p∈PL,p.Key≠key):kN PL key=(HX,false):=by
 unfold kN;rw [List.find?_eq_none.2 fun p hp=>by rw [decide_eq_true_iff];exact h p hp]
theorem tD {PL:List K4}{key:Lj}(h: ∃p∈PL,p.Key=key): ∃p∈PL,p.Key=key∧kN PL key=(p,true):=by
 unfold kN
 cases e:PL.find? (fun p=>decide (p.Key=key)) with
 |none=>
  obtain ⟨p,h1,h2⟩:=h;exact absurd (Lm h2) (List.find?_eq_none.1 e p h1)
 |some p=>exact ⟨p,List.mem_of_find?_eq_some e,of_decide_eq_true (List.find?_some (p:=fun p:K4=>decide (p.Key=key)) e),rfl⟩
def LayR (PL:List K4)(p:K4)(b:Bool)(PL':List K4):Prop:=(b=true∧qi p.Attrs∧Put PL PL' (lI p))∨(b=false∧ ¬qi p.Attrs∧PL'=PL)
theorem DU (p:K4):(lI p).Key=p.Key∧(lI p).Attrs=p.Attrs:=by
 unfold lI;cases decide (aF .i64 p.Attrs 8=0)<;>exact ⟨rfl,rfl⟩
theorem Put.one {PL A B:List K4}{p:K4}(hn:(PL.map (·.Key)).Nodup)(h1:Put PL A p)(h2:Put PL B p):A=B:=by
 rcases h1 with ⟨a1,rfl⟩|⟨n,q,a1,a2,rfl⟩<;>rcases h2 with ⟨b1,rfl⟩|⟨m,u,b1,b2,rfl⟩
 ·rfl
 ·exact absurd b2 (a1 u (List.mem_of_getElem? b1))
 ·exact absurd a2 (b1 q (List.mem_of_getElem? a1))
 have g1:(PL.map (·.Key))[n]? =some p.Key:=by rw [List.getElem?_map,a1, ←a2];rfl
 have g2:(PL.map (·.Key))[m]? =some p.Key:=by rw [List.getElem?_map,b1, ←b2];rfl
 have:n=m:=(List.getElem?_inj (by rw [List.length_map];exact (List.getElem?_eq_some_iff.1 a1).1) hn).1 (g1.trans g2.symm);rw [this]
theorem LayR.one {PL A B:List K4}{p:K4}{a b:Bool}(hn:(PL.map (·.Key)).Nodup)(h1:LayR PL p a A)(h2:LayR PL p b B):a=b∧A=B:=by
 rcases h1 with ⟨rfl,a1,a2⟩|⟨rfl,a1,rfl⟩<;>rcases h2 with ⟨rfl,b1,b2⟩|⟨rfl,b1,rfl⟩
 ·exact ⟨J,a2.one hn b2⟩
 ·exact absurd a1 b1
 ·exact absurd b1 a1
 exact ⟨J,J⟩
theorem Obj.nodup {N i k:Nat}{w:K2}{c:La}{PL:List K4}(h:Obj N i k w c PL):(PL.map (·.Key)).Nodup:=by
 have:=h.inv.obj.nd;rw [List.map_map] at this;exact this
theorem FrO.refl (i:Nat)(w:K2)(c:La):FrO i w w c c:=⟨Le.refl _,fun _ _ _ _=>rfl,fun n _ h _=> .inl ⟨n,h⟩⟩
section
variable {N:Nat} (hN:20000≤N) {v:Lf} {i:Nat} (hv:v.Kind=7) (hvN:v.N=2*i+1)
include hN hv hvN
variable {k:Nat} {w:K2} {c:La} {PL:List K4} (h:Obj N i k w c PL)
include h
omit hv hvN in
theorem yK (hk:k≤1000000000)(key:Lj):Sat (bu N ⟨c,w,v⟩ key) fun r=>r.1=(kN PL key).1∧r.2.2=(kN PL key).2∧propV N r.1:=by
 obtain ⟨y,hy,hx⟩:=yJ (v:=v) hN hk h.inv h.obj key;obtain ⟨y',hy',hV, -⟩:=JN (v:=v) hN hk h.inv key;have:y'=y:=Option.some.inj (hy'.symm.trans hy);subst this;refine ⟨y',hy,?_⟩;rcases hx with ⟨h1, -,h3⟩|⟨n,h1,h2,h3,h4⟩
 ·rw [zb h3];have e:=hy;unfold bu cC at e;rw [bs] at e;obtain ⟨z,z1,z2⟩:=rp N I h.inv.ti h.inv.obj.row key;change Option.bind (dM N w.shapes_ c.Shape key) _=_ at e;rw [z1,bs] at e;rcases z2 with ⟨rfl, -⟩|⟨m, -,z4,z5⟩
  ·have:=Option.some.inj e;rw [←this];exact ⟨J,J,BD N,yI,yI⟩
  obtain ⟨p,hp,hp2⟩:=List.mem_map.1 (List.mem_of_getElem? z5);exact absurd (congrArg Prod.fst hp2) (h3 p hp)
 obtain ⟨p,p1,p2,p3⟩:=tD ⟨y'.1,List.mem_of_getElem? h3,h4⟩;rw [p3];exact ⟨h.uniq (List.mem_of_getElem? h3) p1 (h4.trans p2.symm),h2,hV⟩
omit hv hvN in
theorem Gc (hk:k+1100≤1000000000)(p:K4)(hM: ¬qi p.Attrs)(hlen:PL.length<1024):Sat (dO N ⟨c,w,v⟩ p) fun r=>r.1=false∧r.2.w_=w:=by
 have hI:=h.inv
 have hb:w.shapes_.shapes_.length+1024≤1073741824:=by have:=hI.tb;omega
 unfold dO;show Sat (Option.bind (bu N ⟨c,w,v⟩ p.Key) _) _
 refine (yJ (v:=v) hN I hI h.obj p.Key).bind fun y hy=> ?_
 rcases hy with ⟨e1, -,hno⟩|⟨n,e1,e2,hn,hnk⟩
 ·rw [e1];obtain ⟨s,s1,s2⟩:=hI.obj.row.has hI.ti;rw [List.length_map] at s2;show Sat (Option.bind (d4 N w.shapes_ c.Shape) _) _;rw [zh N s1,bs]
  refine bz (fun e=>by omega) fun h3=> ?_
  refine (CK N I hI.ti hb hI.obj.row p.Key p.Attrs (fun x hx=>by
   obtain ⟨q,q1,q2⟩:=List.mem_map.1 hx
   rw [←q2];exact hno q q1) (by rw [List.length_map];omega)).bind fun r hr=> ?_
  rcases hr with ⟨r1,r2, -⟩|⟨-,r2,r3⟩
  ·exact absurd r2 hM
  rw [Ln r2];refine ah ⟨J,?_⟩;rw [r3]
 rw [e2];have hmem:=List.mem_of_getElem? hn;obtain ⟨k1,k2⟩:=h.key hmem
 have hne:y.1.Attrs≠p.Attrs:=fun e=>hM (by rw [←e];exact k2)
 have hnl:(PL.map xE)[n]? =some (p.Key,y.1.Attrs):=by rw [List.getElem?_map,hn];show some (y.1.Key,y.1.Attrs)=_;rw [hnk]
 show Sat (bif !decide (y.1.Attrs=p.Attrs) then _ else _) _;rw [Ln hne,nf,ct]
 refine (yw N I hI.ti hb hI.obj.row hI.obj.nd p.Key p.Attrs n y.1.Attrs hnl).bind fun r hr=> ?_
 rcases hr with ⟨r1, -⟩|⟨-,r2,r3⟩
 ·exact absurd r1 hM
 rw [Ln r2];refine ah ⟨J,?_⟩;rw [r3]
def xj (N i k:Nat)(w:K2)(c:La)(PL':List K4)(w':K2):Prop:= ∃c',Obj N i k w' c' PL'∧c'.Kind=c.Kind∧c'.More=c.More∧c'.Flags=c.Flags∧FrO i w w' c c'
theorem Ix (hk:k+1100≤1000000000){p:K4}(hp:propV N p)(hd:Bf p)(hpo:sg N p)(h0:p.Key.Kind≠0)(hR:qj N p.Key)(hlen:PL.length<1024):Sat (dO N ⟨c,w,v⟩ p) fun r=> ∃PL',LayR PL p r.1 PL'∧xj N i (k+1024) w c PL' r.2.w_:=by
 by_cases hM:qi p.Attrs
 ·refine (Ip hN hv hvN h hk hp hd (fun _ e=>absurd e h0) hR hM (.inr hlen)).mono fun r hr=> ?_
  obtain ⟨r1,c',p',PL',⟨-, -,s3⟩,hput,g1,g2,g3,g4,g5⟩:=hr;have e:=s3 hpo;subst e;exact ⟨PL',.inl ⟨r1,hM,hput⟩,c',g1,g2,g3,g4,g5⟩
 refine (Gc hN h hk p hM hlen).mono fun r hr=> ?_
 obtain ⟨r1,r2⟩:=hr;refine ⟨PL,.inr ⟨r1,hM,J⟩,c,?_,J,J,J,?_⟩
 ·rw [r2];exact h.more I
 rw [r2];exact FrO.refl i w c
def DefR (N:Nat)(PL:List K4)(ext:Bool)(key:Lj)(d:Li)(b:Bool)(PL':List K4):Prop:= ∃q,cq N (kN PL key).1 (kN PL key).2 ext key d=some q∧((q.2=false∧b=false∧PL'=PL)∨(q.2=true∧LayR PL q.1 b PL'))
omit hN hv hvN h in
theorem DefR.one {ext:Bool}{key:Lj}{d:Li}{A B:List K4}{a b:Bool}(hn:(PL.map (·.Key)).Nodup)(h1:DefR N PL ext key d a A)(h2:DefR N PL ext key d b B):a=b∧A=B:=by
 obtain ⟨q,q1,q2⟩:=h1;obtain ⟨u,u1,u2⟩:=h2;have:q=u:=Option.some.inj (q1.symm.trans u1);subst this;rcases q2 with ⟨a1,rfl,rfl⟩|⟨a1,a2⟩<;>rcases u2 with ⟨b1,rfl,rfl⟩|⟨b1,b2⟩
 ·exact ⟨J,J⟩
 ·rw [a1] at b1;cases b1
 ·rw [a1] at b1;cases b1
 exact a2.one hn b2
theorem ye (hk:k+1100≤1000000000){key:Lj}{d:Li}(hd:descV N d)(hR:qj N key)(h0:key.Kind≠0)(hlen:PL.length<1024)(hgood: ∀ext q,cq N (kN PL key).1 (kN PL key).2 ext key d=some (q,true)→Bf q∧sg N q):Sat (ec N w v key d) fun r=> ∃PL',DefR N PL (!decide (aF .i64 c.Flags 1=0)) key d r.1 PL'∧xj N i (k+1024) w c PL' r.2:=by
 have hst: ∃c',Obj N i (k+1024) w c' PL∧c'.Kind=c.Kind∧c'.More=c.More∧c'.Flags=c.Flags∧FrO i w w c c':=⟨c,h.more I,rfl,rfl,rfl,FrO.refl i w c⟩;unfold ec;rw [wc hN hv hvN I h.inv,bs];show Sat (Option.bind (cW N key) _) _;rw [show cW N key=some true from hR,bs,nt,cf];show Sat (Option.bind (bu N ⟨c,w,v⟩ key) _) _
 refine (yK hN h I key).bind fun y hy=> ?_
 obtain ⟨y1,y2,y3⟩:=hy;obtain ⟨q,q1,q2⟩:=Bq N y3 y.2.2 (!decide (aF .i64 c.Flags 1=0)) key hd;show Sat (Option.bind (cq N y.1 y.2.2 (!decide (aF .i64 c.Flags 1=0)) key d) _) _;rw [q1,bs];rw [y1,y2] at q1
 refine aZ (fun e=> ?_) fun e=>ah ⟨PL,⟨q,q1,.inl ⟨e,J,J⟩⟩,hst⟩
 obtain ⟨g1,g2⟩:=hgood _ q.1 (by rw [q1];obtain ⟨a,b⟩:=q;have e':b=true:=e;rw [e']);have hqk:=q2.2 e
 refine (Ix hN hv hvN h hk q2.1 g1 g2 (by rw [hqk];exact h0) (by rw [hqk];exact hR) hlen).bind fun r hr=>ah ?_
 obtain ⟨PL',r1,r2⟩:=hr;exact ⟨PL',⟨q,q1,.inr ⟨e,r1⟩⟩,r2⟩
end
end
section
open Go.RowKit
structure Two (N i j k:Nat) (w:K2) (c d:La) (A B:List K4):Prop where
 oc:Obj N i k w c A
 od:Obj N j k w d B
 ne:i≠j
 ci: ∀(n:Nat) x,c.Slots[n+1]? =some x→x.Kind=9→x.N≠2*(j:Int)+1
 di: ∀(n:Nat) x,d.Slots[n+1]? =some x→x.Kind=9→x.N≠2*(i:Int)+1
 dj: ∀(n m:Nat) x y,c.Slots[n+1]? =some x→d.Slots[m+1]? =some y→x.Kind=9→y.Kind=9→x.N≠y.N
theorem Two.swap {N i j k:Nat}{w:K2}{c d:La}{A B:List K4}(h:Two N i j k w c d A B):Two N j i k w d c B A:=⟨h.od,h.oc,Ne.symm h.ne,h.di,h.ci,fun n m x y h1 h2 h3 h4=>Ne.symm (h.dj m n y x h2 h1 h4 h3)⟩
theorem Two.left {N i j k k':Nat}{w w':K2}{c d:La}{A A' B:List K4}(h:Two N i j k w c d A B)(ha:xj N i k' w c A' w'): ∃c',Two N i j k' w' c' d A' B∧c'.Kind=c.Kind∧c'.More=c.More∧c'.Flags=c.Flags:=by
 obtain ⟨c',g1,g2,g3,g4,fr⟩:=ha;have hj:=(List.getElem?_eq_some_iff.1 h.od.inv.at_).1
 have hnine: ∀(m:Nat) y,d.Slots[m+1]? =some y→y.Kind=9→ ∃q:Nat,y.N=2*(q:Int)+1∧q<w.heap_.m_.Young.length:=fun m y hy h9=>by
  obtain ⟨g,s,q,a,e,hq, -⟩:=h.od.obj.nine hy h9;exact ⟨q,by rw [e],(List.getElem?_eq_some_iff.1 hq).1⟩
 have hd:Obj N j k' w' d B:=by
  refine ⟨⟨g1.inv.mem,g1.inv.ti,g1.inv.tb,?_,h.od.inv.obj.mono fr.le⟩,h.od.obj.num,fun n p hn=> ?_,h.od.obj.inj,h.od.obj.own⟩
  ·rw [fr.rest j hj (Ne.symm h.ne) h.ci];exact h.od.inv.at_
  obtain ⟨x,hx,hs⟩:=h.od.obj.each n p hn;refine ⟨x,hx,hs.move fun m h9 hm hlt=>fr.rest m hlt (fun e=>h.di n x hx h9 (by rw [hm,e])) fun n' y hy h9' e=>h.dj n' n y x hy hx h9' h9 (by rw [e,hm])⟩
 refine ⟨c',⟨g1,hd,h.ne,fun n x hx h9=> ?_,h.di,fun n m x y hx hy h9 h9'=> ?_⟩,g2,g3,g4⟩
 ·rcases fr.new n x hx h9 with ⟨n',e⟩|e
  ·exact h.ci n' x e h9
  omega
 rcases fr.new n x hx h9 with ⟨n',e⟩|e
 ·exact h.dj n' m x y e hy h9 h9'
 obtain ⟨q,q1,q2⟩:=hnine m y hy h9';omega
def DelR (PL:List K4)(key:Lj)(b:Bool)(PL':List K4):Prop:=((∀p∈PL,p.Key≠key)∧b=true∧PL'=PL)∨ ∃(n:Nat) (p:K4),PL[n]? =some p∧p.Key=key∧((aF .i64 p.Attrs 4=0∧b=false∧PL'=PL)∨(aF .i64 p.Attrs 4≠0∧b=true∧PL'=PL.eraseIdx n))
theorem DelR.one {PL A B:List K4}{key:Lj}{a b:Bool}(hn:(PL.map (·.Key)).Nodup)(h1:DelR PL key a A)(h2:DelR PL key b B):a=b∧A=B:=by
 rcases h1 with ⟨a1,rfl,rfl⟩|⟨n,p,p1,p2,a1⟩<;>rcases h2 with ⟨b1,rfl,rfl⟩|⟨m,q,q1,q2,b1⟩
 ·exact ⟨J,J⟩
 ·exact absurd q2 (a1 q (List.mem_of_getElem? q1))
 ·exact absurd p2 (b1 p (List.mem_of_getElem? p1))
 have g1:(PL.map (·.Key))[n]? =some key:=by rw [List.getElem?_map,p1, ←p2];rfl
 have g2:(PL.map (·.Key))[m]? =some key:=by rw [List.getElem?_map,q1, ←q2];rfl
 have:n=m:=(List.getElem?_inj (by rw [List.length_map];exact (List.getElem?_eq_some_iff.1 p1).1) hn).1 (g1.trans g2.symm);subst this;have:p=q:=Option.some.inj (p1.symm.trans q1);subst this;rcases a1 with ⟨a1,rfl,rfl⟩|⟨a1,rfl,rfl⟩<;>rcases b1 with ⟨b1,rfl,rfl⟩|⟨b1,rfl,rfl⟩
 ·exact ⟨J,J⟩
 ·exact absurd a1 b1
 ·exact absurd b1 a1
 exact ⟨J,J⟩
theorem DelR.sub {PL PL':List K4}{key:Lj}{b:Bool}(h:DelR PL key b PL'):(∀p∈PL',p∈PL)∧PL'.length≤PL.length:=by
 rcases h with ⟨-, -,rfl⟩|⟨n,p, -, -,⟨-, -,rfl⟩|⟨-, -,rfl⟩⟩
 ·exact ⟨fun _ h=>h,Nat.le_refl _⟩
 ·exact ⟨fun _ h=>h,Nat.le_refl _⟩
 exact ⟨fun q hq=>List.mem_of_mem_eraseIdx hq,List.length_eraseIdx_le ..⟩
theorem DefR.mem {N:Nat}{PL PL':List K4}{ext:Bool}{key:Lj}{d:Li}{b:Bool}(h:DefR N PL ext key d b PL'):(∀p∈PL',p∈PL∨ ∃q,cq N (kN PL key).1 (kN PL key).2 ext key d=some (q,true)∧p=lI q)∧PL'.length≤PL.length+1:=by
 obtain ⟨q,q1,⟨-, -,rfl⟩|⟨q2,⟨-, -,hput⟩|⟨-, -,rfl⟩⟩⟩:=h
 ·exact ⟨fun _ h=> .inl h,by omega⟩
 ·refine ⟨fun p hp=> ?_,?_⟩
  ·have hq:cq N (kN PL key).1 (kN PL key).2 ext key d=some (q.1,true):=by
    rw [q1];obtain ⟨a,b⟩:=q;have e:b=true:=q2;rw [e]
   rcases hput with ⟨-,rfl⟩|⟨n,u, -, -,rfl⟩
   ·rcases List.mem_append.1 hp with hp|hp
    ·exact .inl hp
    exact .inr ⟨_,hq,List.mem_singleton.1 hp⟩
   rcases List.mem_or_eq_of_mem_set hp with hp|hp
   ·exact .inl hp
   exact .inr ⟨_,hq,hp⟩
  rcases hput with ⟨-,rfl⟩|⟨n,u, -, -,rfl⟩
  ·rw [List.length_append,List.length_singleton];omega
  rw [List.length_set];omega
 exact ⟨fun _ h=> .inl h,by omega⟩
section
variable {N:Nat} (hN:20000≤N) {v:Lf} {i:Nat} (hv:v.Kind=7) (hvN:v.N=2*i+1)
include hN hv hvN
variable {k:Nat} {w:K2} {c:La} {PL:List K4} (h:Obj N i k w c PL)
include h
theorem ER (hk:k≤1000000000)(key:Lj):fi N w v key=some (kN PL key):=by
 obtain ⟨y,hy,y1,y2, -⟩:=yK hN h hk key;unfold fi;rw [wc hN hv hvN hk h.inv,bs];show Option.bind (bu N ⟨c,w,v⟩ key) _=_;rw [hy,bs,y1,y2]
theorem yd (hk:k+1100≤1000000000)(key:Lj):Sat (cE N w v key) fun r=> ∃PL',DelR PL key r.1 PL'∧xj N i (k+1024) w c PL' r.2:=by
 have hst:xj N i (k+1024) w c PL w:=⟨c,h.more I,rfl,rfl,rfl,FrO.refl i w c⟩
 refine (DS hN hv hvN h hk key).mono fun r hr=> ?_
 rcases hr with ⟨rfl,hno⟩|⟨rfl,p,p1,p2,p3⟩|⟨n,p,c',⟨r1,fr⟩,p1,p2,p3,g1,g2,g3,g4⟩
 ·exact ⟨PL,.inl ⟨hno,J,J⟩,hst⟩
 ·obtain ⟨n,hn⟩:=List.getElem?_of_mem p1;exact ⟨PL,.inr ⟨n,p,hn,p2,.inl ⟨p3,J,J⟩⟩,hst⟩
 exact ⟨_,.inr ⟨n,p,p1,p2,.inr ⟨p3,r1,J⟩⟩,c',g1,g2,g3,g4,fr⟩
section
variable (h2:c.Kind=2) (hP: ∀p∈PL,p.Key.Kind≠0∧p.Key≠tL) {key:Lj} (hl:key≠tL) (h0:key.Kind≠0)
include h2 hP hl h0
theorem FL (hk:k≤1000000000):fC N w v key=some (kN PL key):=by
 rw [FK hN hv hvN ⟨h,h2,fun p hp e=>absurd e (hP p hp).1,fun p hp=>(hP p hp).2⟩ hk hl (fun e=>absurd e h0),ER hN hv hvN h hk,bs]
theorem El (hk:k≤1000000000){d:Li}(hR:qj N key)(hd:jM N d=some true):eL N w v key d=(ec N w v key d).bind fun y=>some (y.1,false,y.2):=by
 have:=hP;unfold eL;rw [yD hN hv hvN hk h.inv,bs,Lm h2,nt,cf,show cW N key=some true from hR,bs,nt,bs,cf,hd,bs,nt,bs,cf];show Option.bind (some tL) _=_;rw [bs,Ln hl,cf,Ln h0,cf]
theorem Ek (hk:k≤1000000000):iB N w v key=(cE N w v key).bind fun y=>some (y.1,y.2):=by
 obtain ⟨y,hy,y1,y2, -⟩:=yK hN h hk key;unfold iB;rw [yD hN hv hvN hk h.inv,bs,Lm h2,nt,cf,FL hN hv hvN h h2 hP hl h0 hk,bs]
 have e:cE N w v key=(bu N ⟨c,w,v⟩ key).bind fun y38=>bif !y38.2.2 then some (true,w) else bif decide (aF .i64 y38.1.Attrs 4=0) then some (false,w) else cE N w v key:=by
  have e1: ∀g:K4×Int×Bool→Option (Bool×K2),(∀y,g y=bif !y.2.2 then some (true,w) else bif decide (aF .i64 y.1.Attrs 4=0) then some (false,w) else g y)→(bu N ⟨c,w,v⟩ key).bind g=(bu N ⟨c,w,v⟩ key).bind fun y=>bif !y.2.2 then some (true,w) else bif decide (aF .i64 y.1.Attrs 4=0) then some (false,w) else (bu N ⟨c,w,v⟩ key).bind g:=fun g hg=>by
   rw [hy,bs,bs];exact hg y
  unfold cE;rw [wc hN hv hvN hk h.inv,bs]
  refine e1 _ fun y=> ?_
  show (bif !y.2.2 then _ else bif decide (aF .i64 y.1.Attrs 4=0) then _ else _)=_;cases y.2.2<;>cases decide (aF .i64 y.1.Attrs 4=0)<;>rfl
 rw [hy,bs,y1,y2] at e
 cases e2:(kN PL key).2 with
 |false=>
  rw [e2,nf,ct] at e;rw [nf,ct,e];rfl
 | true=>
  rw [e2,nt,cf] at e;rw [nt,cf]
  cases e4:decide (aF .i64 (kN PL key).1.Attrs 4=0) with
  |true=>
   rw [e4,ct] at e;rw [ct,e];rfl
  |false=>
   rw [cf,Ln h0,cf,bs,cf]
end
end
end
section
open Go.RowKit
theorem Et (N:Nat){x:Int}(h0:0≤x)(h1:x≤255):Sat (oA N x 10) fun y=> -1≤y∧y≤1000:=by
 have e:IntKind.i64.wrap x=x:=IntWalk.i64_in _ ⟨by omega,by omega⟩
 have h12: ∀p:Int, -1≤p→p≤1000→Sat (kd N 10 p) fun y=> -1≤y∧y≤1000:=fun p h0 h1=>by
  unfold kd
  exact aZ (fun _=>ah ⟨by omega,by omega⟩) fun _=>ah ⟨h0,h1⟩
 have h6: ∀p:Int, -1≤p→p≤1000→Sat (kW N x 10 p) fun y=> -1≤y∧y≤1000:=fun p g0 g1=>by
  unfold kW
  refine bv (P:=fun b=>b=true→65≤x) (fun e=>ah fun _=>of_decide_eq_true e) (fun _=>ah fun h=>by cases h) fun b hb=>aZ (fun eb=> ?_) fun _=>h12 p g0 g1
  have:=hb eb;rw [e];exact aR (by constructor<;>omega) (aR (by constructor<;>omega) (h12 _ I I))
 have hj1: ∀p:Int, -1≤p→p≤1000→Sat (kX N x 10 p) fun y=> -1≤y∧y≤1000:=fun p g0 g1=>by
  unfold kX
  refine bv (P:=fun b=>b=true→97≤x) (fun e=>ah fun _=>of_decide_eq_true e) (fun _=>ah fun h=>by cases h) fun b hb=>aZ (fun eb=> ?_) fun _=>h6 p g0 g1
  have:=hb eb;rw [e];exact aR (by constructor<;>omega) (aR (by constructor<;>omega) (h6 _ I I))
 unfold oA
 refine bv (P:=fun b=>b=true→48≤x) (fun e=>ah fun _=>of_decide_eq_true e) (fun _=>ah fun h=>by cases h) fun b hb=>aZ (fun eb=> ?_) fun _=>hj1 _ I I
 have:=hb eb;rw [e];exact aR (by constructor<;>omega) (hj1 _ I I)
theorem wM (N:Nat)(s:ByteArray)(hs:s.size≤10): ∀(m i:Nat) (p:Int),s.size<m+i→i≤s.size→ -1≤p→p≤9007199254740992→Sat (fS N s 10 m p (i:Int)) fun _=>True
 |0,i,p,h,h1,_,_=>by omega
 | m+1,i,p,h,h1,h2,h3=>by
  have h7:i<s.size→ ∀q:Int, -1≤q→q≤9007199254740992→Sat (kY N (fS N s 10 m) s 10 (i:Int) q) fun _=>True:=fun hi q g0 g1=>by
   unfold kY;exact aR (by constructor<;>omega) (wM N s hs m (i+1) q I I g0 g1)
  have h12:i<s.size→ ∀q:Int, -1≤q→Sat (ke N (fS N s 10 m) s 10 (i:Int) q) fun _=>True:=fun hi q g0=>by
   unfold ke
   exact bz (fun _=>h7 hi _ I I) fun h=>h7 hi _ g0 I
  rw [fS.eq_2]
  refine bz (fun hi=>(rn I hi).bind fun x hx=>(Et N hx.1 hx.2).bind fun y hy=>bz (fun _=>ah trivial) fun hy0=>bz (fun hp=> ?_) fun hp=>h12 I p h2) fun _=>ah trivial
  exact aR (by constructor<;>omega) (aR (by constructor<;>omega) (h12 I _ I))
theorem BX (N:Nat)(hN:5000≤N)(s:ByteArray):Sat (oz N s) fun _=>True:=by
 unfold oz;by_cases h10:s.size≤10
 ·cases e:(s.toList==(⟨#[]⟩:ByteArray).toList) with
  |true=>exact ah trivial
  | false=>
   have hs:0<s.size:=by
    rcases Nat.eq_zero_or_pos s.size with h|h
    ·exfalso
     have:s=⟨#[]⟩:=by
      obtain ⟨d⟩:=s;have:d= #[]:=Array.eq_empty_of_size_eq_zero h;rw [this]
     rw [this] at e;rw [beq_self_eq_true] at e;cases e
    exact h
   show Sat (Option.bind (some (decide (10<(s.size:Int)))) _) _;rw [bs,Ln I];show Sat (Option.bind ((tT s 0).bind _) _) _
   refine Sat.bind (P:=fun _=>True) ((rn I I).bind fun x _=>bv (P:=fun _=>True) (fun _=>ah trivial) (fun _=>ah trivial) fun _ _=>ah trivial) fun b _=> ?_
   refine aZ (fun _=>ah trivial) fun _=>Sat.bind (P:=fun _=>True) (wM N s h10 N 0 0 I I I I) fun y _=> ?_
   (repeat' first|exact ah trivial|refine Sat.bind (P:=fun _=>True) ?_ (fun _ _=> ?_)|refine aZ (fun _=> ?_) (fun _=> ?_))
 have:(bif s.toList==(⟨#[]⟩:ByteArray).toList then (some true) else (some (decide (10<(s.size:Int)))))=some true:=by
  cases s.toList==(⟨#[]⟩:ByteArray).toList with
  |true=>rfl
  |false=>show some _=_;rw [Lm I]
 rw [this];exact ah trivial
theorem BJ (N:Nat)(hN:5000≤N)(k:Lj):Sat (oy N k) fun _=>True:=by
 unfold oy
 refine bz (fun _=>by (repeat' first|exact ah trivial|refine Sat.bind (P:=fun _=>True) ?_ (fun _ _=> ?_)|refine aZ (fun _=> ?_) (fun _=> ?_))) fun _=>bz (fun _=>Sat.bind (P:=fun _=>True) (BX N hN k.S) fun _ _=>by (repeat' first|exact ah trivial|refine Sat.bind (P:=fun _=>True) ?_ (fun _ _=> ?_)|refine aZ (fun _=> ?_) (fun _=> ?_))) fun _=>bz (fun _=>by (repeat' first|exact ah trivial|refine Sat.bind (P:=fun _=>True) ?_ (fun _ _=> ?_)|refine aZ (fun _=> ?_) (fun _=> ?_))) fun _=>ah trivial
def sB (n b:Int):Bool:=decide ((n.tdiv b).tmod 2=1)
theorem JC (N:Nat){a:Int}(h0:0≤a)(h1:a≤63){b:Int}(hb:1≤b):jE N a b=some (sB a b):=by
 unfold jE;refine kT ⟨by omega,?_⟩;rw [Int.tdiv_eq_ediv_of_nonneg h0];have:=Int.ediv_nonneg h0 (show 0≤b by omega);have:=Int.ediv_le_self b h0;constructor<;>omega
structure R25 (d:Li):Prop where
 h:0≤d.Has∧d.Has≤63
 a:0≤d.Attrs∧d.Attrs≤7
 da:((sB d.Has 1||sB d.Has 2)&&(sB d.Has 4||sB d.Has 8))=false
 a1:(sB d.Attrs 1&& !sB d.Has 2)=false
 a2:(sB d.Attrs 2&& !sB d.Has 16)=false
 a4:(sB d.Attrs 4&& !sB d.Has 32)=false
 v:sB d.Has 1=false→d.Value=v0
 vk:0≤d.Value.Kind∧d.Value.Kind≤7
 g:(sB d.Has 4=false→d.Get=v0)∧(sB d.Has 4=true→d.Get.Kind=0∨d.Get.Kind=7)
 s:(sB d.Has 8=false→d.Set=v0)∧(sB d.Has 8=true→d.Set.Kind=0∨d.Set.Kind=7)
theorem E3 (N:Nat)(x:Lf)(b:Bool):Sat (nH N x b) fun r=>r=true→(b=false→x=v0)∧(b=true→x.Kind=0∨x.Kind=7):=by
 unfold nH
 cases b with
 |false=>exact ah fun h=>⟨(fun _=>of_decide_eq_true h),fun h=>(by cases h)⟩
 |true=>
  rw [nt,cf]
  refine bv (P:=fun r=>r=true→x.Kind=0∨x.Kind=7) (fun e=>ah fun _=> .inl (of_decide_eq_true e)) (fun _=>ah fun h=> .inr (of_decide_eq_true h)) fun r hr=>ah fun h=>⟨(fun h=>by cases h),fun _=>hr h⟩
theorem Gj (N:Nat)(d:Li):Sat (ox N d) fun b=>b=true→R25 d:=by
 unfold ox
 refine bv (P:=fun b=>b=false→0≤d.Has∧d.Has≤63) (fun _=>ah fun h=>by cases h) (fun e=>ah fun h=>by have:=of_decide_eq_false e;have:=of_decide_eq_false h;omega) fun b2 h2=> ?_
 refine bv (P:=fun b=>b=false→(0≤d.Has∧d.Has≤63)∧0≤d.Attrs) (fun _=>ah fun h=>by cases h) (fun e=>ah fun h=>⟨h2 e,by have:=of_decide_eq_false h;omega⟩) fun b3 h3=> ?_
 refine bv (P:=fun b=>b=false→(0≤d.Has∧d.Has≤63)∧0≤d.Attrs∧d.Attrs≤7) (fun _=>ah fun h=>by cases h) (fun e=>ah fun h=>⟨(h3 e).1,(h3 e).2,by have:=of_decide_eq_false h;omega⟩) fun b4 h4=> ?_
 cases b4 with
 |true=>
  rw [ct,bs,ct]
  exact ah fun h=>by cases h
 | false=>
  obtain ⟨⟨h0,h1⟩,a0,a1⟩:=h4 rfl
  have hs: ∀b:Int,1≤b→fg N d b=some (sB d.Has b):=fun b hb=>by
   unfold fg;rw [JC N h0 h1 hb,bs]
  have hda:pF N d=some (sB d.Has 1||sB d.Has 2):=by
   unfold pF;rw [hs 1 I,bs,hs 2 I,bs];cases sB d.Has 1<;>rfl
  have hac:kV N d=some (sB d.Has 4||sB d.Has 8):=by
   unfold kV;rw [hs 4 I,bs,hs 8 I,bs];cases sB d.Has 4<;>rfl
  have hat: ∀b:Int,1≤b→jE N d.Attrs b=some (sB d.Attrs b):=fun b hb=>JC N a0 I hb
  rw [cf,hda,bs,hac,bs,hat 1 I,bs,hs 2 I,bs,hat 2 I,bs,hs 16 I,bs,hat 4 I,bs,hs 32 I,bs,hs 1 I,bs,hs 4 I,bs,hs 8 I,bs]
  cases e1:((sB d.Has 1||sB d.Has 2)&&(sB d.Has 4||sB d.Has 8)) with
  |true=>
   rw [Bool.and_eq_true] at e1;rw [e1.1,e1.2]
   exact ah fun h=>by cases h
  | false=>
   have e1':(bif (sB d.Has 1||sB d.Has 2) then (some (sB d.Has 4||sB d.Has 8)) else (some false):Option Bool)=some false:=by
    rw [←e1];cases (sB d.Has 1||sB d.Has 2)<;>rfl
   rw [e1',bs,bs,cf]
   have hx: ∀x y:Bool,(bif x then (some (!y)) else (some false):Option Bool)=some (x&& !y):=fun x y=>by cases x<;>rfl
   rw [hx,bs,hx,bs,hx,bs]
   cases e2:(sB d.Attrs 1&& !sB d.Has 2) with
   |true=>exact ah fun h=>by cases h
   | false=>
    rw [cf,bs]
    cases e3:(sB d.Attrs 2&& !sB d.Has 16) with
    |true=>exact ah fun h=>by cases h
    | false=>
     rw [cf,bs]
     cases e4:(sB d.Attrs 4&& !sB d.Has 32) with
     |true=>exact ah fun h=>by cases h
     |false=>
      rw [cf]
      refine bv (P:=fun b=>b=false→sB d.Has 1=false→d.Value=v0) (fun e=>ah fun h _=>by rw [Bool.not_eq_false'] at h;exact of_decide_eq_true h) (fun e=>ah fun _ h=>by rw [h] at e;cases e) fun b23 h23=> ?_
      refine bv (P:=fun b=>b=false→(sB d.Has 1=false→d.Value=v0)∧0≤d.Value.Kind) (fun _=>ah fun h=>by cases h) (fun e=>ah fun h=>⟨h23 e,by have:=of_decide_eq_false h;omega⟩) fun b24 h24=> ?_
      refine bv (P:=fun b=>b=false→(sB d.Has 1=false→d.Value=v0)∧0≤d.Value.Kind∧d.Value.Kind≤7) (fun _=>ah fun h=>by cases h) (fun e=>ah fun h=>⟨(h24 e).1,(h24 e).2,by have:=of_decide_eq_false h;omega⟩) fun b25 h25=>aZ (fun _=>ah fun h=>by cases h) fun e=> ?_
      obtain ⟨v1,v2⟩:=h25 e
      refine (E3 N d.Get _).bind fun y28 hy=> ?_
      refine bv (P:=fun b=>b=true→R25 d) (fun e28=>(E3 N d.Set _).bind fun y31 hy2=>ah fun h=>⟨⟨h0,h1⟩,⟨a0,a1⟩,e1,e2,e3,e4,v1,v2,hy e28,hy2 h⟩) (fun _=>ah fun h=>by cases h) fun b hb=>ah hb
theorem GD: ∀n:_root_.Fin 64,cr .i64 (n.val:Int) 63=0∧(aF .i64 (n.val:Int) 3=0↔(sB (n.val:Int) 1||sB (n.val:Int) 2)=false)∧(aF .i64 (n.val:Int) 12=0↔(sB (n.val:Int) 4||sB (n.val:Int) 8)=false)∧(aF .i64 (n.val:Int) 1=0↔sB (n.val:Int) 1=false)∧(aF .i64 (n.val:Int) 2=0↔sB (n.val:Int) 2=false)∧(aF .i64 (n.val:Int) 4=0↔sB (n.val:Int) 4=false)∧(aF .i64 (n.val:Int) 8=0↔sB (n.val:Int) 8=false)∧(aF .i64 (n.val:Int) 16=0↔sB (n.val:Int) 16=false)∧(aF .i64 (n.val:Int) 32=0↔sB (n.val:Int) 32=false):=by decide+kernel
def HP (x y z:Bool):Int:=
 let p:=bif x then cD .i64 0 1 else 0
 let q:=bif y then cD .i64 p 2 else p
 bif z then cD .i64 q 4 else q
theorem HO: ∀a:_root_.Fin 8, ∀x y z:Bool,(sB (a.val:Int) 1&& !x)=false→(sB (a.val:Int) 2&& !y)=false→(sB (a.val:Int) 4&& !z)=false→cr .i64 (a.val:Int) (HP x y z)=0:=by decide+kernel
theorem R25.right {d:Li}(h:R25 d)(N:Nat):jM N d=some true:=by
 obtain ⟨h0,h1⟩:=h.h;obtain ⟨a0,a1⟩:=h.a;have hf:=GD ⟨d.Has.toNat,by omega⟩;simp only [Int.toNat_of_nonneg h0] at hf;obtain ⟨f1,f2,f3,f4,f5,f6,f7,f8,f9⟩:=hf
 have hn: ∀b:Int, ∀x:Bool,(aF .i64 d.Has b=0↔x=false)→(!decide (aF .i64 d.Has b=0))=x:=fun b x hb=>by
  by_cases e:aF .i64 d.Has b=0
  ·rw [Lm e,hb.1 e];rfl
  rw [Ln e];cases x
  ·exact absurd (hb.2 J) e
  rfl
 have hask:iK N d=some (HP (sB d.Has 2) (sB d.Has 16) (sB d.Has 32)):=by
  unfold iK ki kh jw bp HP;rw [hn 2 _ f5,hn 16 _ f8,hn 32 _ f9];cases sB d.Has 2<;>cases sB d.Has 16<;>cases sB d.Has 32<;>rfl
 have hat:cr .i64 d.Attrs (HP (sB d.Has 2) (sB d.Has 16) (sB d.Has 32))=0:=by
  have:=HO ⟨d.Attrs.toNat,by omega⟩ (sB d.Has 2) (sB d.Has 16) (sB d.Has 32);simp only [Int.toNat_of_nonneg a0] at this;exact this h.a1 h.a2 h.a4
 have hhalf: ∀x:Lf, ∀b:Bool,(b=false→x=v0)∧(b=true→x.Kind=0∨x.Kind=7)→ms N x=some true:=fun x b hb=>by
  unfold ms
  have:x.Kind=0∨x.Kind=7:=by
   cases b
   ·rw [hb.1 rfl];exact .inl J
   exact hb.2 J
  rcases this with e|e
  ·rw [Lm e];rfl
  rw [e];rfl
 have hor: ∀x:Lf, ∀b:Bool,(b=false→x=v0)→(bif b then some true else some (decide (x=v0)):Option Bool)=some true:=fun x b hb=>by
  cases b
  ·rw [cf,Lm (hb rfl)]
  rfl
 unfold jM bp;rw [Lm f1,nt,cf,bs,hn 3 _ f2,bs,hn 12 _ f3]
 have e1:(bif (sB d.Has 1||sB d.Has 2) then (some (sB d.Has 4||sB d.Has 8)) else (some false):Option Bool)=some false:=by
  have:=h.da;rw [←this];cases (sB d.Has 1||sB d.Has 2)<;>rfl
 rw [e1,bs,bs,cf,hask,bs,Lm hat,nt,bs,cf,Ln (show¬d.Value.Kind<0 by have:=h.vk;omega),cf,bs,Ln (show¬7<d.Value.Kind by have:=h.vk;omega),cf,hhalf _ _ h.g,bs,nt,bs,cf,hhalf _ _ h.s,bs,nt,bs,cf,bs,hn 1 _ f4,hn 4 _ f6,hn 8 _ f7];show Option.bind (bif sB d.Has 1 then some true else some (decide (d.Value=v0))) _=_;rw [hor _ _ h.v,bs,ct,bs];show Option.bind (Option.bind (bif sB d.Has 4 then some true else some (decide (d.Get=v0))) _) _=_;rw [hor _ _ h.g.1,bs,bs,ct,bs];show Option.bind (Option.bind (bif sB d.Has 8 then some true else some (decide (d.Set=v0))) _) _=_;rw [hor _ _ h.s.1,bs,bs]
theorem sy {m:Option Bool}(h: ∃b,m=some b):Sat m fun b=>b=true→m=some true:=by
 obtain ⟨b,rfl⟩:=h;exact ⟨b,J,fun e=>by rw [e]⟩
theorem Ju (N:Nat)(v:Lf)(hk:v.Kind<7):Sat (ns N v) fun b=>b=true→nL N v:=by
 unfold ns nL gT
 refine bv (P:=fun b=>b=false→0≤v.Kind) (fun _=>ah fun h=>by cases h) (fun e=>ah fun _=>by have:=of_decide_eq_false e;omega) fun b hb=>aZ (fun _=>ah fun h=>by cases h) fun e=> ?_
 have h0:=hb e;by_cases h5:v.Kind=5
 ·rw [Lm h5,ct,ct];exact sy (by cases decide (v.N=0)<;>exact ⟨_,rfl⟩)
 rw [Ln h5,cf,cf]
 cases v.S.toList==(⟨#[]⟩:ByteArray).toList with
 |false=>exact ah fun h=>by cases h
 | true=>
  rw [nt,cf,cf];by_cases h2:v.Kind=2
  ·rw [Lm h2,ct,ct];exact sy (by cases decide (v.N=0)<;>exact ⟨_,rfl⟩)
  rw [Ln h2,cf,cf];by_cases h3:v.Kind=3
  ·rw [Lm h3,ct,ct];exact sy (by cases decide ((-9007199254740992)≤v.N)<;>exact ⟨_,rfl⟩)
  rw [Ln h3,cf,cf];unfold gb;by_cases h6:v.Kind=6
  ·rw [Lm h6,ct,ct,ct,bs,ct,bs,ct];exact sy ⟨_,J⟩
  rw [Ln h6,cf,cf,Ln (show¬v.Kind=7 by omega),bs,cf,Ln (show¬v.Kind=9 by omega),bs,cf,cf,cf]
  refine ah fun h=> ?_
  rw [h,ct,Lm h0,bs,ct,Lm (show v.Kind≤9 by omega)];rfl
def sJ (N:Nat)(v:Lf):Prop:=(v.Kind<7∧nL N v)∨v=⟨8,0,⟨#[]⟩⟩
theorem uU (N:Nat)(v:Lf):Sat (kr N v) fun b=>b=true→sJ N v:=by
 have ht: ∀x,Sat (ns N x) fun _=>True:=fun x=>by
  unfold ns
  (repeat' first|exact ah trivial|refine Sat.bind (P:=fun _=>True) ?_ (fun _ _=> ?_)|refine aZ (fun _=> ?_) (fun _=> ?_))
 unfold kr
 refine bv (P:=fun b=>b=true→v.Kind<7∧nL N v) (fun e=>(Ju N v (of_decide_eq_true e)).bind fun y hy=>ah fun h=>⟨of_decide_eq_true e,hy h⟩) (fun _=>ah fun h=>by cases h) fun b hb=> ?_
 refine bv (P:=fun b'=>b'=true→sJ N v) (fun e=>ah fun _=> .inl (hb e)) (fun _=> ?_) fun b' hb'=>ah hb'
 show Sat (Option.bind (some _) _) _;rw [bs]
 exact ah fun h=> .inr (of_decide_eq_true h)
def ym (N:Nat)(d:Li):Prop:=sJ N d.Value∧sJ N d.Get∧sJ N d.Set
theorem yn (N:Nat)(a:List K7): ∀(m j:Nat),41<m+j→j≤40→(∀t (h:t<a.length),t<j→ym N a[t].D)→Sat (om N a m (j:Int)) fun b=>b=true→ ∀t (h:t<a.length),t<40→ym N a[t].D
 |0,j,h0,h1,_=>by omega
 | m+1,j,h0,h1,h2=>by
  rw [om.eq_2]
  refine bv (P:=fun b=>(b=true→j<a.length∧j<40)∧(b=false→ ¬(j<a.length∧j<40))) (fun e=>ah ⟨fun h=> ?_,fun h h'=> ?_⟩) (fun e=>ah ⟨(fun h=>by cases h),fun _ h'=> ?_⟩) fun b hb=>aZ (fun e=> ?_) fun e=> ?_
  ·have:=of_decide_eq_true e;have:=of_decide_eq_true h;omega
  ·have:=of_decide_eq_false h;omega
  ·have:=of_decide_eq_false e;omega
  ·obtain ⟨b1,b2⟩:=hb.1 e;rw [nO b1,bs]
   refine (uU N _).bind fun y9 _=> ?_
   refine bv (P:=fun b=>b=false→sJ N a[j].D.Value) (fun _=>ah fun h=>by cases h) (fun _=>(uU N _).bind fun y hy=>ah fun h=>hy (by cases y<;>first|rfl|cases h)) fun b10 h10=> ?_
   refine bv (P:=fun b=>b=false→sJ N a[j].D.Value∧sJ N a[j].D.Get) (fun _=>ah fun h=>by cases h) (fun e=>(uU N _).bind fun y hy=>ah fun h=>⟨h10 e,hy (by cases y<;>first|rfl|cases h)⟩) fun b12 h12=> ?_
   refine bv (P:=fun b=>b=false→ym N a[j].D) (fun _=>ah fun h=>by cases h) (fun e=>(uU N _).bind fun y hy=>ah fun h=>⟨(h12 e).1,(h12 e).2,hy (by cases y<;>first|rfl|cases h)⟩) fun b14 h14=> ?_
   refine bv (P:=fun b=>b=false→ym N a[j].D) (fun _=>ah fun h=>by cases h) (fun e=>ah fun _=>h14 e) fun b16 h16=>aZ (fun _=>ah fun h=>by cases h) fun e16=> ?_
   refine Sat.bind (P:=fun _=>True) (by repeat' first|exact ah trivial|refine Sat.bind (P:=fun _=>True) ?_ (fun _ _=> ?_)|refine aZ (fun _=> ?_) (fun _=> ?_)) fun _ _=>Sat.bind (P:=fun _=>True) (by repeat' first|exact ah trivial|refine Sat.bind (P:=fun _=>True) ?_ (fun _ _=> ?_)|refine aZ (fun _=> ?_) (fun _=> ?_)) fun _ _=>Sat.bind (P:=fun _=>True) (by repeat' first|exact ah trivial|refine Sat.bind (P:=fun _=>True) ?_ (fun _ _=> ?_)|refine aZ (fun _=> ?_) (fun _=> ?_)) fun b21 _=>aZ (fun _=>ah fun h=>by cases h) fun _=> ?_
   refine aR (by constructor<;>omega) (yn N a m (j+1) I I fun t h ht=> ?_);by_cases e2:t=j
   ·subst e2;exact h16 e16
   exact h2 t h I
  have:=hb.2 e
  exact ah fun _ t h ht=>h2 t h I
theorem GI (N:Nat)(hN:20000≤N)(a:List K7):Sat (sa N a) fun b=>b=true→ ∀t (h:t<a.length),t<40→ym N a[t].D:=yn N a N 0 I I fun t h ht=>by omega
theorem Gy {N:Nat}{x:Lf}(h:nL N x)(h0:x.Kind=0):x=v0:=by
 obtain ⟨a,b,s⟩:=x;simp only at h0;subst h0;unfold nL gT gb at h;rw [show decide ((⟨0,b,s⟩:Lf).Kind=5)=false from rfl,cf] at h
 cases e:(s.toList==(⟨#[]⟩:ByteArray).toList) with
 |false=>
  change (bif !(s.toList==(⟨#[]⟩:ByteArray).toList) then some false else _)=_ at h;rw [e,nf,ct] at h;cases h
 |true=>
  have hs:=qT.1 (eq_of_beq e);subst hs;rw [show (!((⟨0,b,⟨#[]⟩⟩:Lf).S.toList==(⟨#[]⟩:ByteArray).toList))=false by rw [show ((⟨0,b,⟨#[]⟩⟩:Lf).S.toList==(⟨#[]⟩:ByteArray).toList)=true from e];rfl,cf] at h;by_cases hb:b=0
  ·rw [hb];rfl
  change Option.bind (bif decide (b=0) then _ else some false) _=_ at h;rw [Ln hb] at h;cases h
def AH (d:Li):Prop:=d.Get=v0∧d.Set=v0
theorem E4 (N:Nat){d:Li}(hd:AH d)(a1:Lj)(p27 y29 p31 p32:Int)(p33:ByteArray)(p14 p15:Int)(p16:ByteArray)(p37 p38:Int)(p39:ByteArray)(h1:(⟨p14,p15,p16⟩:Lf)=v0)(h2:(⟨p37,p38,p39⟩:Lf)=v0):Sat (ee N d a1 p27 y29 p31 p32 p33 p14 p15 p16 p37 p38 p39) fun r=>r.Get=v0∧r.Set=v0:=by
 unfold ee gA bp;rw [bs]
 exact aZ (fun _=>ah ⟨h2,hd.2⟩) fun _=>ah ⟨h2,h1⟩
theorem E5 (N:Nat){d:Li}(hd:AH d)(a1:Lj)(p27 y29 p11 p12:Int)(p13:ByteArray)(p14 p15:Int)(p16:ByteArray)(p31 p32:Int)(p33:ByteArray)(h1:(⟨p14,p15,p16⟩:Lf)=v0)(h2:(⟨p11,p12,p13⟩:Lf)=v0):Sat (ef N d a1 p27 y29 p11 p12 p13 p14 p15 p16 p31 p32 p33) fun r=>r.Get=v0∧r.Set=v0:=by
 unfold ef bp;rw [bs]
 exact aZ (fun _=>E4 N hd _ _ _ _ _ _ _ _ _ _ _ _ h1 hd.1) fun _=>E4 N hd _ _ _ _ _ _ _ _ _ _ _ _ h1 h2
theorem IH (N:Nat){d:Li}(hd:AH d)(a1:Lj)(p21 p22:Int)(p23:ByteArray)(p11 p12:Int)(p13:ByteArray)(p14 p15:Int)(p16:ByteArray)(p27:Int)(h1:(⟨p14,p15,p16⟩:Lf)=v0)(h2:(⟨p11,p12,p13⟩:Lf)=v0):Sat (eg N d a1 p21 p22 p23 p11 p12 p13 p14 p15 p16 p27) fun r=>r.Get=v0∧r.Set=v0:=by
 unfold eg
 refine (tY N d).bind fun y _=> ?_
 unfold bp;rw [bs]
 exact aZ (fun _=>E5 N hd _ _ _ _ _ _ _ _ _ _ _ _ h1 h2) fun _=>E5 N hd _ _ _ _ _ _ _ _ _ _ _ _ h1 h2
theorem E6 (N:Nat){d:Li}(hd:AH d)(p:K4)(b:Bool)(a1:Lj)(p11 p12:Int)(p13:ByteArray)(p14 p15:Int)(p16:ByteArray)(h1:(⟨p14,p15,p16⟩:Lf)=v0)(h2:(⟨p11,p12,p13⟩:Lf)=v0):Sat (eh N p b d a1 p11 p12 p13 p14 p15 p16) fun r=>r.Get=v0∧r.Set=v0:=by
 unfold eh gB
 refine Sat.bind (P:=fun _=>True) (by repeat' first|exact ah trivial|refine Sat.bind (P:=fun _=>True) ?_ (fun _ _=> ?_)|refine aZ (fun _=> ?_) (fun _=> ?_)) fun c _=>aZ (fun _=>aZ (fun _=> ?_) fun _=> ?_) fun _=>aZ (fun _=> ?_) fun _=> ?_
 all_goals exact IH N hd _ _ _ _ _ _ _ _ _ _ _ h1 h2
theorem yl (N:Nat){p:K4}(hp:p.Get=v0∧p.Set=v0)(k:Lj){d:Li}(hd:AH d):Sat (fj N p k d) fun r=>r.Get=v0∧r.Set=v0:=by
 unfold fj bp;rw [bs]
 refine Sat.bind (P:=fun _=>True) (by repeat' first|exact ah trivial|refine Sat.bind (P:=fun _=>True) ?_ (fun _ _=> ?_)|refine aZ (fun _=> ?_) (fun _=> ?_)) fun b _=>Sat.bind (P:=fun _=>True) (by repeat' first|exact ah trivial|refine Sat.bind (P:=fun _=>True) ?_ (fun _ _=> ?_)|refine aZ (fun _=> ?_) (fun _=> ?_)) fun c _=>aZ (fun _=> ?_) fun _=> ?_
 ·exact E6 N hd p b k _ _ _ _ _ _ hp.2 hp.1
 exact E6 N hd p b k _ _ _ _ _ _ J J
theorem AV (N:Nat){p:K4}(hp:p.Get=v0∧p.Set=v0)(has ext:Bool)(k:Lj){d:Li}(hd:AH d):Sat (cq N p has ext k d) fun r=>r.1.Get=v0∧r.1.Set=v0:=by
 unfold cq mt
 refine jD (fun _=>jD (fun _=>ah ⟨J,J⟩) fun _=> ?_) fun _=> ?_
 ·exact Sat.bind ((yl N ⟨J,J⟩ k hd).bind fun y hy=>ah hy) fun y hy=>ah hy
 refine Sat.bind (P:=fun _=>True) (aZ (fun _=>(z6 N p d).bind fun _ _=>ah trivial) fun _=>ah trivial) fun b _=>aZ (fun _=>ah ⟨J,J⟩) fun _=> ?_
 exact (yl N hp k hd).bind fun y hy=>ah hy
def PI (PL:List K4):Prop:= ∀p∈PL,p.Key.Kind≠0∧p.Key≠tL∧p.Get=v0∧p.Set=v0
theorem PI.key {PL:List K4}(h:PI PL): ∀p∈PL,p.Key.Kind≠0∧p.Key≠tL:=fun p hp=>⟨(h p hp).1,(h p hp).2.1⟩
theorem PI.own {PL:List K4}(h:PI PL)(key:Lj):(kN PL key).1.Get=v0∧(kN PL key).1.Set=v0:=by
 by_cases e: ∃p∈PL,p.Key=key
 ·obtain ⟨p,h1, -,h3⟩:=tD e;rw [h3];exact (h p h1).2.2
 rw [zb fun p hp hk=>e ⟨p,hp,hk⟩];exact ⟨J,J⟩
theorem Gv {q:K4}(h:q.Get=v0∧q.Set=v0):(lI q).Get=v0∧(lI q).Set=v0:=by
 unfold lI;cases decide (aF .i64 q.Attrs 8=0)
 ·exact h
 exact ⟨J,J⟩
structure Both (N i j k s:Nat) (w:K2) (c d:La) (PL:List K4):Prop where
 two:Two N i j k w c d PL PL
 pi:PI PL
 len:PL.length≤s
 ck:c.Kind=2
 dk:d.Kind=1
 cx:aF .i64 c.Flags 1≠0
 dx:aF .i64 d.Flags 1≠0
 cm:c.More=[]
section
variable {N:Nat} (hN:20000≤N) {va vo:Lf} {i j:Nat} (hva:va.Kind=7) (hvaN:va.N=2*i+1) (hvo:vo.Kind=7) (hvoN:vo.N=2*j+1)
include hN hva hvaN hvo hvoN
section
variable {k s:Nat} (hk:k+3000≤1000000000) (hs:s<1000) {w:K2} {c d:La} {PL:List K4} (h:Both N i j k s w c d PL) {key:Lj} (h0:key.Kind≠0) (hl:key≠tL)
include hk hs h h0 hl
theorem FF:fC N w va key=some (kN PL key)∧fi N w vo key=some (kN PL key):=by
 have:=hs;exact ⟨FL hN hva hvaN h.two.oc h.ck h.pi.key hl h0 I,ER hN hvo hvoN h.two.od I key⟩
theorem Bm {D:Li}(hD:descV N D)(hdk:Jg D)(hgs:AH D)(hr:jM N D=some true): ∃b w1 w2 c' d' PL',eL N w va key D=some (b,false,w1)∧ec N w1 vo key D=some (b,w2)∧Both N i j (k+2048) (s+1) w2 c' d' PL':=by
 by_cases hR:qj N key
 ·have hext:(!decide (aF .i64 c.Flags 1=0))=true∧(!decide (aF .i64 d.Flags 1=0))=true:=by
   rw [Ln h.cx,Ln h.dx];exact ⟨J,J⟩
  have hown:=h.pi.own key
  have hdk0:aF .i64 (kN PL key).1.Attrs 8=0→BT (kN PL key).1.Value.Kind:=fun h8=>by
   by_cases e: ∃p∈PL,p.Key=key
   ·obtain ⟨p,h1, -,h3⟩:=tD e;rw [h3] at h8⊢;exact (h.two.oc.obj.ok hN p h1).2.2.1 h8
   rw [zb fun p hp hk=>e ⟨p,hp,hk⟩];exact ⟨by show¬(0:Int)=7;decide,by show¬(0:Int)=9;decide⟩
  have hgood: ∀ext q,cq N (kN PL key).1 (kN PL key).2 ext key D=some (q,true)→Bf q∧sg N q:=fun ext q hq=>by
   obtain ⟨a,a1,a2⟩:=Fl N hdk0 (kN PL key).2 ext key hdk;obtain ⟨b,b1,b2⟩:=AV N hown (kN PL key).2 ext key hgs;rw [hq] at a1 b1;have ea:(q,true)=a:=Option.some.inj a1;have eb:(q,true)=b:=Option.some.inj b1;subst ea;subst eb;refine ⟨fun _=>a2,.inr ?_⟩;unfold AB;have b3:q.Get=v0:=b2.1;have b4:q.Set=v0:=b2.2;rw [b3,b4];exact EK hN
  have hlen:PL.length<1024:=by have:=h.len;omega
  obtain ⟨r1,e1,A,hA,ha1⟩:=ye hN hva hvaN h.two.oc I hD hR h0 hlen hgood;rw [hext.1] at hA;obtain ⟨c',g1,g2,g3,g4⟩:=h.two.left ha1;obtain ⟨r2,e2,B,hB,hb1⟩:=ye hN hvo hvoN g1.od I hD hR h0 hlen hgood;rw [hext.2] at hB;obtain ⟨d',f1,f2,f3,f4⟩:=g1.swap.left hb1;obtain ⟨x1,x2⟩:=hA.one h.two.oc.nodup hB;subst x2;refine ⟨r1.1,r1.2,r2.2,c',d',A,?_,?_,f1.swap,fun p hp=> ?_,?_,g2.trans h.ck,f2.trans h.dk,by rw [g4];exact h.cx,by rw [f4];exact h.dx,g3.trans h.cm⟩
  ·rw [El hN hva hvaN h.two.oc h.ck h.pi.key hl h0 I hR hr,e1,bs]
  ·rw [e2,x1]
  ·rcases hA.mem.1 p hp with hp|⟨q,q1,rfl⟩
   ·exact h.pi p hp
   obtain ⟨b,b1,b2⟩:=AV N hown (kN PL key).2 true key hgs;rw [q1] at b1;have eb:(q,true)=b:=Option.some.inj b1;subst eb;obtain ⟨y,y1,y2, -,y3⟩:=yK (v:=va) hN h.two.oc I key;obtain ⟨u,u1,u2⟩:=Bq N y3 (kN PL key).2 true key hD;rw [y2,q1] at u1;have eu:(q,true)=u:=Option.some.inj u1;subst eu;have hqk:q.Key=key:=u2.2 rfl;have e3:=(DU q).1;obtain ⟨n1,n2⟩:=Gv b2;exact ⟨by rw [e3,hqk];exact h0,by rw [e3,hqk];exact hl,n1,n2⟩
  have:=hA.mem.2;have:=h.len;omega
 have hb:cW N key=some false:=by
  obtain ⟨b,hb, -⟩:=tM N I key;cases b
  ·exact hb
  exact absurd hb hR
 refine ⟨false,w,w,c,d,PL,?_,?_,⟨⟨h.two.oc.more I,h.two.od.more I,h.two.ne,h.two.ci,h.two.di,h.two.dj⟩,h.pi,by have:=h.len;omega,h.ck,h.dk,h.cx,h.dx,h.cm⟩⟩
 ·unfold eL;rw [yD hN hva hvaN I h.two.oc.inv,bs,Lm h.ck,nt,cf,hb,bs,nf,bs,ct];rfl
 unfold ec;rw [wc hN hvo hvoN I h.two.od.inv,bs];show Option.bind (cW N key) _=_;rw [hb];rfl
omit hs in
theorem Bl: ∃b w1 w2 c' d' PL',iB N w va key=some (b,w1)∧cE N w1 vo key=some (b,w2)∧Both N i j (k+2048) (s+1) w2 c' d' PL':=by
 obtain ⟨r1,e1,A,hA,ha1⟩:=yd hN hva hvaN h.two.oc I key;obtain ⟨c',g1,g2,g3,g4⟩:=h.two.left ha1;obtain ⟨r2,e2,B,hB,hb1⟩:=yd hN hvo hvoN g1.od I key;obtain ⟨d',f1,f2,f3,f4⟩:=g1.swap.left hb1;obtain ⟨x1,x2⟩:=hA.one h.two.oc.nodup hB;subst x2;refine ⟨r1.1,r1.2,r2.2,c',d',A,?_,?_,f1.swap,fun p hp=>h.pi p (hA.sub.1 p hp),?_,g2.trans h.ck,f2.trans h.dk,by rw [g4];exact h.cx,by rw [f4];exact h.dx,g3.trans h.cm⟩
 ·rw [Ek hN hva hvaN h.two.oc h.ck h.pi.key hl h0 I,e1,bs]
 ·rw [e2,x1]
 have:=hA.sub.2;have:=h.len;omega
end
theorem Ef {k s:Nat}(hk:k≤1000000000)(hs:s<1000){w:K2}{c d:La}{PL:List K4}(h:Both N i j k s w c d PL): ∃l1 l2,fX N w va=some l1∧gQ N w vo=some l2∧l1.length=l2.length+1∧l2.length≤1000∧iE N w va=some 0:=by
 have hlen:=h.len
 have hmm: ∀x∈PL.map (·.Key),qj N x:=fun x hx=>by
  obtain ⟨p,hp,rfl⟩:=List.mem_map.1 hx;exact (h.two.oc.key hp).1
 obtain ⟨l1,a1,a2⟩:=up N hN ([tL]++PL.map (·.Key)) (by rw [List.length_append,List.length_map,List.length_singleton];omega) fun x hx=>by
  rcases List.mem_append.1 hx with hx|hx
  ·rw [List.mem_singleton.1 hx];exact E0 hN
  exact hmm x hx
 obtain ⟨l2,b1,b2⟩:=up N hN (PL.map (·.Key)) (by rw [List.length_map];omega) hmm;have c1:=a2.length_eq;have c2:=b2.length_eq;rw [List.length_append,List.length_map,List.length_singleton] at c1;rw [List.length_map] at c2;refine ⟨l1,l2,?_,?_,by omega,by omega,?_⟩
 ·rw [FN hN hva hvaN hk h.two.oc.inv h.ck,h.cm,List.map_map];exact a1
 ·rw [ET hN hvo hvoN hk h.two.od.inv,List.map_map];exact b1
 unfold iE;rw [yD hN hva hvaN hk h.two.oc.inv,bs,Lm h.ck,nt,cf,h.cm];rfl
end
end
section
open Go.RowKit
set_option maxRecDepth 20000
def JK (x:K7):Prop:=rM x.D.Value
theorem Both.more {N i j k k' s s':Nat}{w:K2}{c d:La}{PL:List K4}(h:Both N i j k s w c d PL)(hk:k≤k')(hs:s≤s'):Both N i j k' s' w c d PL:=⟨⟨h.two.oc.more hk,h.two.od.more hk,h.two.ne,h.two.ci,h.two.di,h.two.dj⟩,h.pi,Nat.le_trans h.len hs,h.ck,h.dk,h.cx,h.dx,h.cm⟩
section
variable {N:Nat} (hN:20000≤N) (hlv:ku N=some true) (a:List K7) (hgood: ∀t (h:t<a.length),t<40→ym N a[t].D) (hin: ∀x∈a,JK x) (y26:Lf×Bool×K2) (y5:K2×Lf×Bool) {i j:Nat} (hva:y5.2.1.Kind=7) (hvaN:y5.2.1.N=2*i+1) (hvo:y26.1.Kind=7) (hvoN:y26.1.N=2*j+1) (h26:y26.2.1=true)
include hN hlv hgood hin hva hvaN hvo hvoN h26
theorem wn: ∀(m t:Nat) (w:K2) (c d:La) (PL:List K4),41<m+t→t≤40→Both N i j (100+2048*t) t w c d PL→Sat (cP N y26 a y5 m (t:Int) w.spent_.steps_ w.spent_.made_ w.spent_.calls_ w.config_.Way w.config_.Steps w.config_.Calls w.config_.Made w.config_.Young w.config_.Full w.config_.Sites w.symbols_ w.epoch_ w.serial_ w.sleepers_ w.events_ w.out_ w.heap_.m_.Young w.heap_.m_.Old w.heap_.roots_ w.heap_.pending_ w.shapes_.shapes_ w.shapes_.next_ w.heap_.set_.at_) (· =true)
 |0,t,w,c,d,PL,h0,h1,_=>by omega
 | m+1,t,w,c,d,PL,h0,h1,h=>by
  rw [cP.eq_2]
  refine bv (P:=fun b=>(b=true→t<a.length∧t<40)) (fun e=>ah fun h=> ?_) (fun e=>ah fun h=>by cases h) fun b hb=>aZ (fun e=> ?_) fun e=> ?_
  ·have:=of_decide_eq_true e;have:=of_decide_eq_true h;omega
  ·obtain ⟨b1,b2⟩:=hb e;have hg:=hgood t b1 b2;have hi:=hin _ (List.getElem_mem b1);rw [nO b1,bs];generalize a[t]=x at hg hi
   have hnext: ∀(k':Nat) (w':K2) (c' d':La) (PL':List K4),Both N i j (100+2048*(t+1)) (t+1) w' c' d' PL'→Sat (gi N (cP N y26 a y5 m) y26 (t:Int) a y5 w'.spent_.steps_ w'.spent_.made_ w'.spent_.calls_ w'.config_.Way w'.config_.Steps w'.config_.Calls w'.config_.Made w'.config_.Young w'.config_.Full w'.config_.Sites w'.symbols_ w'.epoch_ w'.serial_ w'.sleepers_ w'.events_ w'.out_ w'.heap_.m_.Young w'.heap_.m_.Old w'.heap_.roots_ w'.heap_.pending_ w'.shapes_.shapes_ w'.shapes_.next_ w'.heap_.set_.at_) (· =true):=fun _ w' c' d' PL' h'=>by
    unfold gi;exact aR (by constructor<;>omega) (wn m (t+1) w' c' d' PL' I I h')
   refine bv (P:=fun b=>b=false→x.K.Kind≠0∧x.K≠tL) (fun _=>ah fun h=>by cases h) (fun e0=> ?_) fun b115 h115=> ?_
   ·show Sat (Option.bind (some tL) _) _;rw [bs]
    exact ah fun h=>⟨of_decide_eq_false e0,of_decide_eq_false h⟩
   refine bv (P:=fun b=>b=false→b115=false) (fun _=>ah fun h=>by cases h) (fun e=>(BJ N I x.K).bind fun _ _=>ah fun _=>e) fun b117 h117=> ?_
   refine bv (P:=fun b=>b=false→b117=false∧R25 x.D) (fun _=>ah fun h=>by cases h) (fun e=>(Gj N x.D).bind fun y hy=>ah fun h=>⟨e,hy (by cases y<;>first|rfl|cases h)⟩) fun b119 h119=>aZ (fun _=> ?_) fun e119=> ?_
   ·exact hnext 0 w c d PL (h.more I I)
   obtain ⟨e117,hR⟩:=h119 e119;obtain ⟨hk0,hkl⟩:=h115 (h117 e117)
   have hj122: ∀(w':K2) (c' d':La) (PL':List K4),Both N i j (100+2048*(t+1)) (t+1) w' c' d' PL'→Sat (fM N (cP N y26 a y5 m) y26 (t:Int) a y5 x w'.spent_.steps_ w'.spent_.made_ w'.spent_.calls_ w'.config_.Way w'.config_.Steps w'.config_.Calls w'.config_.Made w'.config_.Young w'.config_.Full w'.config_.Sites w'.symbols_ w'.epoch_ w'.serial_ w'.sleepers_ w'.events_ w'.out_ w'.heap_.m_.Young w'.heap_.m_.Old w'.heap_.roots_ w'.heap_.pending_ w'.shapes_.shapes_ w'.shapes_.next_ w'.heap_.set_.at_) (· =true):=fun w' c' d' PL' h'=>by
    obtain ⟨o1,o2⟩:=FF hN hva hvaN hvo hvoN (k:=100+2048*(t+1)) I (s:=t+1) I h' hk0 hkl;unfold fM
    refine Sat.bind ⟨_,o1,J⟩ fun y hy=>Sat.bind ⟨_,o2,J⟩ fun z hz=> ?_
    rw [←hy, ←hz,Lm rfl,nt,cf,beq_self_eq_true,bs,nt,cf];exact hnext 0 w' c' d' PL' h'
   refine bz (fun _=> ?_) fun _=> ?_
   ·obtain ⟨b,w1,w2,c',d',PL',e1,e2,h'⟩:=Bl hN hva hvaN hvo hvoN (k:=100+2048*t) I (s:=t) h hk0 hkl
    refine Sat.bind ⟨_,e1,J⟩ fun y hy=> ?_
    rw [←hy]
    refine Sat.bind ⟨_,e2,J⟩ fun z hz=> ?_
    rw [←hz];show Sat (bif !(b==b) then _ else _) _;rw [beq_self_eq_true,nt,cf];exact hj122 w2 c' d' PL' (h'.more I I)
   have hv:nL N x.D.Value:=by
    rcases hg.1 with ⟨-,h1⟩|h1
    ·exact h1
    have:=hR.vk.2;rw [h1] at this;exact absurd this (by decide)
   have hvk:x.D.Value.Kind<7:=by
    rcases hg.1 with ⟨h1, -⟩|h1
    ·exact h1
    have:=hR.vk.2;rw [h1] at this;exact absurd this (by decide)
   have hz: ∀z:Lf,sJ N z→ ∀b:Bool,(b=false→z=v0)∧(b=true→z.Kind=0∨z.Kind=7)→z=v0:=fun z hp b hb=>by
    cases b
    ·exact hb.1 J
    rcases hp with ⟨h1,h2⟩|h1
    ·exact Gy h2 ((hb.2 J).resolve_right I)
    have:=hb.2 rfl;rw [h1] at this;rcases this with e|e
    ·exact absurd e (by decide)
    exact absurd e (by decide)
   have hgs:AH x.D:=⟨hz _ hg.2.1 _ hR.g,hz _ hg.2.2 _ hR.s⟩;have hD:descV N x.D:=⟨⟨hi,hv⟩,by rw [hgs.1];exact yI,by rw [hgs.2];exact yI⟩;have hdk:Jg x.D:=⟨by omega,by omega⟩;obtain ⟨b,w1,w2,c',d',PL',e1,e2,h'⟩:=Bm hN hva hvaN hvo hvoN (k:=100+2048*t) I (s:=t) I h hk0 hkl hD hdk hgs (hR.right N)
   refine Sat.bind ⟨_,e1,J⟩ fun y hy=> ?_
   rw [←hy]
   refine Sat.bind ⟨_,e2,J⟩ fun z hz=> ?_
   rw [←hz];show Sat (Option.bind (bif !(b==b) then _ else _) _) _;rw [beq_self_eq_true,nt,cf,bs,cf];exact hj122 w2 c' d' PL' (h'.more I I)
  obtain ⟨l1,l2,k1,k2,k3,k4,k5⟩:=Ef hN hva hvaN hvo hvoN (k:=100+2048*t) I (s:=t) I h;unfold kw;rw [h26,ct]
  refine Sat.bind (P:=(· =true)) (Sat.bind ⟨_,k1,J⟩ fun y hy=>Sat.bind ⟨_,k2,J⟩ fun z hz=> ?_) fun b hb=> ?_
  ·rw [←hy, ←hz];exact aR (by constructor<;>omega) (ah (Lm I))
  rw [hb,ct]
  refine Sat.bind (P:=(· =true)) (Sat.bind ⟨_,k5,J⟩ fun y hy=> ?_) fun b hb=> ?_
  ·rw [←hy];exact ah J
  rw [hb,ct,hlv,bs,bs];exact ah J
end
structure FreshA (N:Nat) (w0 w1:K2) (va vo p:Lf) (c d:La):Prop where
 made:ny N []=some (.inr (w0,va,true))
 itr:er N w0 0=some p
 new:na N w0 p 1=some (vo,true,w1)
 ak:va.Kind=7
 an:va.N=2*(20:Nat)+1
 ok:vo.Kind=7
 on:vo.N=2*(21:Nat)+1
 both:Both N 20 21 100 0 w1 c d []
theorem Gw {N:Nat}(hN:20000≤N){w0 w1:K2}{va vo p:Lf}{c d:La}(hf:FreshA N w0 w1 va vo p c d)(hlv:ku N=some true)(a:List K7)(hin: ∀x∈a,JK x):jB N a=some true:=by
 refine Sat.eq ?_;unfold jB
 refine (GI N hN a).bind fun b hb=> ?_
 cases b with
 |false=>
  rw [nf,ct,hlv,bs];exact ah J
 |true=>
  rw [nt,cf,hf.made,bs];show Sat (bif !true then some false else Option.bind (er N w0 0) _) _;rw [nt,cf,hf.itr,bs,hf.new,bs];exact wn hN hlv a (hb J) hin (vo,true,w1) (w0,va,true) hf.ak hf.an hf.ok hf.on J N 0 w1 c d [] I I (hf.both.more I I)
end
section
open Go.RowKit
set_option maxRecDepth 20000
theorem GE:ku 20000=some true:=by kernel_rfl
def Jk:K2:=match ny 20000 [] with
 |some (.inr (w,_,_))=>w
 |_=>default
def w33b:K2:=match na 20000 Jk ⟨7,1,⟨#[]⟩⟩ 1 with
 |some (_,_,w)=>w
 |_=>default
def BZ (c:La):Bool:=Nat.ble c.Slots.length 5000&&Nat.ble c.More.length 5000&&c.Slots.all (fun x=>decide (-9223372036854775808≤x.N)&&decide (x.N≤9223372036854775807))&&c.More.all (fun x=>decide (-9223372036854775808≤x.N)&&decide (x.N≤9223372036854775807))
theorem D2 {c:La}(h:BZ c=true):goodC c:=by
 unfold BZ at h;simp only [Bool.and_eq_true,List.all_eq_true,decide_eq_true_eq] at h;exact ⟨Nat.le_of_ble_eq_true h.1.1.1,Nat.le_of_ble_eq_true h.1.1.2,h.1.2,h.2⟩
theorem F7:(w33b.heap_.m_.Young.all BZ)=true:=by kernel_rfl
theorem F6:w33b.heap_.m_.Young.length=22:=by kernel_rfl
theorem Ew:w33b.shapes_=⟨[⟨-1,⟨0,0,⟨#[]⟩⟩,0,0⟩],[]⟩:=by kernel_rfl
theorem Kl (N:Nat):TI N ⟨[⟨-1,⟨0,0,⟨#[]⟩⟩,0,0⟩],[]⟩:=by
 refine ⟨fun i s h=> ?_,fun k j h=>by cases h⟩;have hlt:=h.lt
 have:i=0:=by
  have h1:i<((1:Nat):Int):=hlt.2;have:=hlt.1;omega
 subst this;have:s=⟨-1,⟨0,0,⟨#[]⟩⟩,0,0⟩:=(Option.some.inj h.2).symm;subst this;exact ⟨by decide,by decide,fun h=>by exact absurd h (by decide)⟩
theorem H7 {i:Nat}{c:La}(hat:w33b.heap_.m_.Young[i]? =some c)(hrc:RC 20000 c)(hsh:c.Shape=0)(hsl:c.Slots.length=1)(hfl:aF .i64 c.Flags 16=0):Obj 20000 i 100 w33b c []:=by
 have hrow:Row w33b.shapes_ c.Shape []:=by rw [Ew,hsh];exact .nil (s:=⟨-1,⟨0,0,⟨#[]⟩⟩,0,0⟩) ⟨by decide,rfl⟩ J
 have hno: ∀(n:Nat) x,c.Slots[n+1]? ≠some x:=fun n x e=>by
  have:=(List.getElem?_eq_some_iff.1 e).1;omega
 exact ⟨⟨⟨by kernel_rfl,fun x hx=>D2 (List.all_eq_true.1 F7 x hx),by rw [F6];decide⟩,by rw [Ew];exact Kl _,by rw [Ew];decide,hat,⟨hrc,hrow,hsl,by simp,hfl,fun _ x hx=>by cases hx⟩⟩,hsl,fun n p hp=>(by cases hp),fun n m x _ h1=>absurd h1 (hno n x),fun n x h1=>absurd h1 (hno n x)⟩
theorem GG:FreshA 20000 Jk w33b ⟨7,41,⟨#[]⟩⟩ ⟨7,43,⟨#[]⟩⟩ ⟨7,1,⟨#[]⟩⟩ ⟨2,0,1,0,[⟨7,5,⟨#[]⟩⟩],[]⟩ ⟨1,0,1,0,[⟨7,1,⟨#[]⟩⟩],[]⟩ where
 made:=by kernel_rfl
 itr:=by kernel_rfl
 new:=by kernel_rfl
 ak:=rfl
 an:=rfl
 ok:=rfl
 on:=rfl
 both:=by
  have h1: ∀n:Int,nL 20000 ⟨7,5,⟨#[]⟩⟩∧nL 20000 ⟨7,1,⟨#[]⟩⟩:=fun _=>⟨by unfold nL;kernel_rfl,by unfold nL;kernel_rfl⟩
  refine ⟨⟨H7 O ⟨.inr J,by decide,⟨by decide,by decide⟩,.inl rfl,fun x hx=> ?_,(fun x hx=>by cases hx),by show 1≤1025;decide,⟨_,rfl,.inr rfl⟩,by show 0≤4096;decide,fun _=>rfl⟩ J J (by show aF .i64 1 16=0;decide+kernel),H7 O ⟨.inl J,by decide,⟨by decide,by decide⟩,.inl rfl,fun x hx=> ?_,(fun x hx=>by cases hx),by show 1≤1025;decide,⟨_,rfl,.inr rfl⟩,by show 0≤4096;decide,fun _=>rfl⟩ J J (by show aF .i64 1 16=0;decide+kernel),by decide,fun n x h=> ?_,fun n x h=> ?_,fun n m x y h=> ?_⟩,fun p hp=>(by cases hp),Nat.le_refl _,J,J,by show¬aF .i64 1 1=0;decide+kernel,by show¬aF .i64 1 1=0;decide+kernel,rfl⟩
  ·rw [List.mem_singleton.1 hx];exact (h1 0).1
  ·rw [List.mem_singleton.1 hx];exact (h1 0).2
  ·cases h
  ·cases h
  cases h
theorem AJ (a:List K7)(hin: ∀x∈a,JK x):jB 20000 a=some true:=Gw (by decide) GG GE a hin
theorem GB {m:List K7}(h:JW (fun z=>yH z) m): ∀x∈m,JK x:=fun x hx=>(h.2 x hx).2.2.2.1.2.2.1.2.1
open Go.ChangeShapes Go.WideShapes Go.ChangeAt Go.RowKit Go.Deep
theorem gHole:Tryz.prog.globalNamed "pantomime/array.hole" =some 0:=by kernel_rfl
theorem tHole:(Tryz.prog.globals[0]?).map (·.type)=some 30:=by kernel_rfl
set_option maxRecDepth 100000 in
theorem D0 {hH:World}(h:laidMetH Tryz.prog [("pantomime/array.hole",Rows.laid_pantomime_array_hole)] hH):(bd 0 30 [.int .i64 8,.int .i64 0,.string ⟨#[]⟩]).ok (fun _=>False) (fun q=>q<hH.heap.size) hH:=by
 rw [MakeChecks.laidMetH_plain _ _ _ O] at h;obtain ⟨ps,⟨g0,t0,cs0,f0,p0,q0,hg0,ht0,hv0,hd0, -⟩, -, -⟩:=h;obtain rfl:=Option.some.inj (gHole.symm.trans hg0);obtain rfl:=Option.some.inj (tHole.symm.trans ht0);obtain ⟨xs,m,rfl,hx,hl,hn,hf⟩:=DataW.trod_struct KY hd0
 have hc:Tryz.prog.cellsOf 30=3:=by kernel_rfl
 have z3:Tryz.prog.cellsOf 3=1:=by kernel_rfl
 have z9:Tryz.prog.cellsOf 9=1:=by kernel_rfl
 rw [hc] at hl;obtain ⟨l⟩:=cs0;have hn':xs.length=3:=hn
 match l,xs,hl,hn',hf,hv0,hx with
 | [c0,c1,c2],[x0,x1,x2],_,_,hf,hv0,hx=>
  have k0:DataW.trod (fun _=>()) Tryz.prog hH 0 (fun _=>true) false m 3 (List.take (Tryz.prog.cellsOf 3) (List.drop 0 [c0,c1,c2]))=[x0,x1,x2][0]? :=hf 0 _ rfl;have k1:DataW.trod (fun _=>()) Tryz.prog hH 0 (fun _=>true) false m 3 (List.take (Tryz.prog.cellsOf 3) (List.drop 1 [c0,c1,c2]))=[x0,x1,x2][1]? :=hf 1 _ rfl;have k2:DataW.trod (fun _=>()) Tryz.prog hH 0 (fun _=>true) false m 9 (List.take (Tryz.prog.cellsOf 9) (List.drop 2 [c0,c1,c2]))=[x0,x1,x2][2]? :=hf 2 _ rfl;simp only [z3,z9,List.drop_succ_cons,List.drop_zero,List.take_succ_cons,List.take_zero,List.getElem?_cons_zero,List.getElem?_cons_succ] at k0 k1 k2;obtain ⟨n0,e0,d0, -⟩:=DataW.trod_int KM k0;obtain ⟨n1,e1,d1, -⟩:=DataW.trod_int KM k1;obtain ⟨s2,e2,d2, -⟩:=DataW.trod_string Ex k2
  have hx':[(DataW.lit (.int .i64 8):DataW Unit),.lit (.int .i64 0),.lit (.string [])]=[x0.1,x1.1,x2.1]:=by
   have:=congrArg Prod.fst hx;exact DataW.agg.inj this
  rw [d0,d1,d2] at hx';simp only [List.cons.injEq,DataW.lit.injEq,Lit.int.injEq,Lit.string.injEq,and_true,true_and] at hx';obtain ⟨rfl,rfl,hs⟩:=hx';obtain rfl:=(List.cons.inj e0).1;obtain rfl:=(List.cons.inj e1).1;obtain rfl:=(List.cons.inj e2).1
  have hs2:s2=⟨#[]⟩:=by
   obtain ⟨⟨a⟩⟩:=s2;simp only at hs;rw [←hs]
  subst hs2;simp only [World.var?,gHole,Option.bind_some] at hv0;split at hv0
  ·rename_i cs t p hh
   obtain rfl:=ao hv0;have hr:RBlk hH 0 #[.int .i64 8,.int .i64 0,.string ⟨#[]⟩]:=⟨t,p,hh⟩;exact ⟨hr.lt,hr⟩
  cases hv0
end
end Go.Proofs.YtanojiedimeegaaGreatDoor