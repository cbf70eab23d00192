/- Merged texts: part 10. No conditions of their own. -/
import Derived.Test.YtanojiedimeegaaGreatDoorG9
namespace Go.Proofs.YtanojiedimeegaaGreatDoor
section
open Go.RowKit
def qu (x:MQ):Prop:= -9223372036854775808≤x.N∧x.N≤9223372036854775807
theorem lz:qu ⟨0,0,⟨#[]⟩⟩:=⟨by decide,by decide⟩
structure goodC (c:MY):Prop where
 sl:c.Slots.length≤5000
 ml:c.More.length≤5000
 sv: ∀x∈c.Slots,qu x
 mv: ∀x∈c.More,qu x
theorem Jl:goodC ⟨0,0,0,0,[],[]⟩:=⟨by decide,by decide,by simp,by simp⟩
theorem t8 (N:Nat){c:MY}(h:goodC c):gI N c=some c:=by
 have h1: ∀l:List MQ,l.length≤5000→kj N l=some l:=fun l hl=>by
  unfold kj;rw [iN (by unfold gQ;simp;omega),List.nil_append]
 unfold gI;rw [h1 _ h.sl,bs,h1 _ h.ml,bs]
theorem H9 (N:Nat)(x:MQ):Sat (iJ N x) fun _=>True:=by
 unfold iJ jk
 refine bh (fun _=>bB (P:=fun _=>True) (fun _=>ab trivial) (fun _=>ab trivial) fun _ _=>ab trivial) fun _=>eK (fun _=>ab trivial) fun _=> ?_
 have hj: ∀p:Bool,Sat (bif p then some (decide (1≤x.N)) else ((bif decide (x.N=0) then (some (decide (0≤x.Kind))) else (some false)).bind fun b14=>(bif b14 then (some (decide (x.Kind≤9))) else (some false)).bind fun b15=>some b15)) fun _=>True:=fun p=>
  aP (fun _=>ab trivial) fun _=>bB (P:=fun _=>True) (fun _=>ab trivial) (fun _=>ab trivial) fun _ _=>bB (P:=fun _=>True) (fun _=>ab trivial) (fun _=>ab trivial) fun _ _=>ab trivial
 refine bh (fun _=>bB (P:=fun _=>True) (fun _=>ab trivial) (fun _=>ab trivial) fun _ _=>ab trivial) fun _=> ?_
 refine bh (fun _=>bB (P:=fun _=>True) (fun _=>ab trivial) (fun _=>ab trivial) fun _ _=>ab trivial) fun _=> ?_
 exact bh (fun _=>hj _) fun _=>bh (fun _=>hj _) fun _=>hj _
def LE (r:Option Exit×Unit):Prop:=r.1=none∨r.1=some Exit.ret
theorem Di (N:Nat)(c:MY)(x:Bool×MQ):Sat (jW (fun x st=>cY N c x st) x (none,())) fun r=>LE r.2∧(r.1=true→r.2=(none,())):=by
 obtain ⟨y,hy, -⟩:=H9 N x.2;unfold jW cY;simp only [hy,bs]
 cases y with
 |true=>exact ⟨_,rfl,.inl rfl,fun _=>rfl⟩
 |false=>exact ⟨_,rfl,.inr rfl,fun h=>by cases h⟩
theorem Cb (N:Nat)(c:MY)(hc:c.More.length≤5000): ∀(m i:Nat),c.More.length<m+i→i≤c.More.length→Sat (jE N (jW (fun x st=>cY N c x st)) c m (i:Int) (none,())) LE
 |0,i,h,h1=>by omega
 |m+1,i,h,h1=>by
  rw [jE.eq_2]
  refine bh (fun h2=>bO O h2 fun x _=> ?_) fun _=>ab (.inl J)
  refine bB (P:=fun _=>True) (fun _=>bB (P:=fun _=>True) (fun _=>ab trivial) (fun _=>ab trivial) fun _ _=>ab trivial) (fun _=>ab trivial) fun b _=> ?_
  refine (Di N c (b,x)).bind fun y hy=>eK (fun _=>ab hy.1) fun e=> ?_
  rw [hy.2 e];exact aQ (by constructor<;>omega) (Cb N c hc m (i+1) O O)
theorem zs (N:Nat)(hN:20000≤N)(c:MY)(hs:c.Slots.length≤5000)(hc:c.More.length≤5000): ∀(m i:Nat),c.Slots.length<m+i→i≤c.Slots.length→Sat (kz N (jW (fun x st=>cY N c x st)) c m (i:Int) (none,())) LE
 |0,i,h,h1=>by omega
 |m+1,i,h,h1=>by
  rw [kz.eq_2]
  refine bh (fun h2=>bO O h2 fun x _=> ?_) fun _=>Cb N c hc N 0 O O
  refine (Di N c (true,x)).bind fun y hy=>eK (fun _=>ab hy.1) fun e=> ?_
  rw [hy.2 e];exact aQ (by constructor<;>omega) (zs N hN c hs hc m (i+1) O O)
theorem Fm (N:Nat)(c:MY)(hk:c.Kind=1∨c.Kind=2∨c.Kind=5):Sat (fq N c) fun _=>True:=by
 unfold fq
 have h1:mE N c.Kind=some (decide (c.Kind=1∨c.Kind=2)):=by
  unfold mE gG;rcases hk with h|h|h<;>rw [h]<;>rfl
 have hor: ∀x k,Sat (fX N x k) fun _=>True:=fun x k=>by
  unfold fX
  exact bB (P:=fun _=>True) (fun _=>ab trivial) (fun _=>ab trivial) fun _ _=>ab trivial
 rw [h1,bs]
 refine bB (P:=fun _=>True) (fun _=>ab trivial) (fun _=>bB (P:=fun _=>True) (fun _=>ab trivial) (fun _=>ab trivial) fun _ _=>ab trivial) fun b _=>aP (fun _=> ?_) fun _=> ?_
 ·refine bB (P:=fun b=>b=true→1≤(c.Slots.length:Int)) (fun e=>ab fun _=>of_decide_eq_true e) (fun _=>ab fun h=>by cases h) fun b hb=> ?_
  refine bB (P:=fun _=>True) (fun e=> ?_) (fun _=>ab trivial) fun _ _=>ab trivial
  have:=hb e
  exact bO O O fun x _=>bB (P:=fun _=>True) (fun _=>ab trivial) (fun _=>bO O O fun x _=>ab trivial) fun _ _=>ab trivial
 refine bh (fun _=>ab trivial) fun _=>bB (P:=fun _=>True) (fun _=>ab trivial) (fun _=>ab trivial) fun _ _=>aP (fun _=>ab trivial) fun _=>bh (fun _=> ?_) fun _=>ab trivial
 refine bB (P:=fun b=>b=true→(c.Slots.length:Int)=2) (fun e=> ?_) (fun _=>ab fun h=>by cases h) fun b hb=> ?_
 ·have:=of_decide_eq_true e
  exact bO O O fun x _=>(hor _ _).bind fun _ _=>ab fun _=>this
 refine bB (P:=fun _=>True) (fun e=> ?_) (fun _=>ab trivial) fun _ _=>ab trivial
 have:=hb e
 exact bO O O fun x _=>(hor _ _).bind fun _ _=>ab trivial
theorem Bw (N:Nat)(k:Int)(l:List MQ)(hk:k=1∨k=2∨k=5):jd N k l=some (decide ((l.length:Int)≤1048576)&&bif decide (k=2) then decide ((l.length:Int)≤4096) else decide ((l.length:Int)=0)):=by
 unfold jd ke;by_cases h:(1048576:Int)<l.length
 ·rw [Nf h,ct,Ng (show¬(l.length:Int)≤1048576 by omega)];rfl
 rw [Ng h,cf,Nf (show (l.length:Int)≤1048576 by omega)];rcases hk with rfl|rfl|rfl<;>rfl
theorem Fu (N:Nat)(hN:20000≤N)(c:MY)(hk:c.Kind=1∨c.Kind=2∨c.Kind=5)(hs:c.Slots.length≤5000)(hc:c.More.length≤5000):Sat (dD N c) fun b=>b=true→(0≤c.Flags∧c.Flags≤63)∧(c.Kind=2→c.More.length≤4096)∧(c.Kind=1→c.More=[]):=by
 unfold dD
 refine bB (P:=fun _=>True) (fun _=>ab trivial) (fun _=>ab trivial) fun b5 _=> ?_
 refine bB (P:=fun _=>True) (fun _=>ab trivial) (fun _=>ab trivial) fun b6 _=> ?_
 refine bB (P:=fun b=>b=false→0≤c.Flags) (fun _=>ab fun h=>by cases h) (fun _=>ab fun h=>by have:=of_decide_eq_false h;omega) fun b7 h7=> ?_
 refine bB (P:=fun b=>b=false→0≤c.Flags∧c.Flags≤63) (fun _=>ab fun h=>by cases h) (fun e=>ab fun h=>⟨h7 e,by have:=of_decide_eq_false h;omega⟩) fun b8 h8=> ?_
 refine bB (P:=fun b=>b=false→0≤c.Flags∧c.Flags≤63) (fun _=>ab fun h=>by cases h) (fun e=>bB (P:=fun _=>True) (fun _=>ab trivial) (fun _=>ab trivial) fun _ _=>ab fun _=>h8 e) fun b9 h9=> ?_
 refine aP (fun _=>ab fun h=>by cases h) fun e=> ?_
 show Sat (Option.bind (some ()) _) _;rw [bs]
 refine (zs N hN c hs hc N 0 O O).bind fun y hy=> ?_
 rcases hy with hy|hy
 ·rw [hy];show Sat (Option.bind _ _) _
  refine (Fm N c hk).bind fun z _=> ?_
  rw [Bw N _ _ hk,bs]
  refine bB (P:=fun b=>b=true→(0≤c.Flags∧c.Flags≤63)∧(c.Kind=2→c.More.length≤4096)∧(c.Kind=1→c.More=[])) (fun _=>ab fun h=>⟨h9 e,fun h2=> ?_,fun h2=> ?_⟩) (fun _=>ab fun h=>by cases h) fun b hb=>ab hb
  ·rw [Nf h2,ct,Bool.and_eq_true] at h;have:=of_decide_eq_true h.2;omega
  rw [Ng (show¬c.Kind=2 by omega),cf,Bool.and_eq_true] at h;exact List.eq_nil_of_length_eq_zero (by have:=of_decide_eq_true h.2;omega)
 rw [hy]
 exact ab fun h=>by cases h
def pp (N:Nat)(x:MQ):Prop:=iJ N x=some true
def vH (N:Nat)(x:MQ):Prop:=qu x∧pp N x
theorem xm (N:Nat)(k n:Int)(h5:k≠5):iJ N ⟨k,n,⟨#[]⟩⟩=(bif decide (k=2) then ((bif decide (n=0) then (some true) else (some (decide (n=1)))).bind fun b6=>some b6) else (bif decide (k=3) then ((bif decide ((-9007199254740992)≤n) then (some (decide (n≤9007199254740992))) else (some false)).bind fun b8=>some b8) else (bif decide (k=6) then (jk N ⟨k,n,⟨#[]⟩⟩ (decide (k=6))) else (bif decide (k=7) then (jk N ⟨k,n,⟨#[]⟩⟩ (decide (k=7))) else (jk N ⟨k,n,⟨#[]⟩⟩ (decide (k=9))))))):=by
 unfold iJ;rw [Ng (show¬(⟨k,n,⟨#[]⟩⟩:MQ).Kind=5 from h5),cf,show ((⟨k,n,⟨#[]⟩⟩:MQ).S.toList==(⟨#[]⟩:ByteArray).toList)=true from beq_self_eq_true _,nt,cf]
theorem CC (N:Nat):pp N ⟨0,0,⟨#[]⟩⟩:=by
 unfold pp;rw [xm N 0 0 (by decide)];rfl
theorem ux (N:Nat):vH N ⟨0,0,⟨#[]⟩⟩:=⟨lz,CC N⟩
theorem wd (N:Nat){n:Int}(h0: -9007199254740992≤n)(h1:n≤9007199254740992):pp N ⟨3,n,⟨#[]⟩⟩:=by
 unfold pp;rw [xm N 3 n (by decide)];show (Option.bind (bif decide (-9007199254740992≤n) then some (decide (n≤9007199254740992)) else some false) _)=_;rw [Nf h0,Nf h1];rfl
theorem FO (N:Nat){n:Int}(h:1≤n):pp N ⟨9,n,⟨#[]⟩⟩:=by
 unfold pp;rw [xm N 9 n (by decide)];show some (decide (1≤n))=_;rw [Nf h]
structure RC (N:Nat) (c:MY):Prop where
 kind:c.Kind=1∨c.Kind=2
 sh:0≤c.Shape
 fl:0≤c.Flags∧c.Flags≤63
 age:c.Age=0∨c.Age=1
 sv: ∀x∈c.Slots,pp N x
 mv: ∀x∈c.More,pp N x
 sl:c.Slots.length≤1025
 proto: ∃z,c.Slots[0]? =some z∧(z.Kind=1∨z.Kind=7)
 more:c.More.length≤4096
 plain:c.Kind=1→c.More=[]
theorem BA (N:Nat)(c:MY)(b:Bool)(x:MQ)(h:pp N x):jW (fun x st=>cY N c x st) (b,x) (none,())=some (true,(none,())):=by
 show Option.map _ (cY N c (b,x) ())=_;unfold cY;simp only;rw [show iJ N x=some true from h];rfl
theorem Bv (N:Nat)(c:MY)(hc:c.More.length≤5000)(hm: ∀x∈c.More,pp N x): ∀(m i:Nat),c.More.length<m+i→i≤c.More.length→Sat (jE N (jW (fun x st=>cY N c x st)) c m (i:Int) (none,())) (· =(none,()))
 |0,i,h,h1=>by omega
 |m+1,i,h,h1=>by
  rw [jE.eq_2]
  refine bh (fun h2=>bO O h2 fun x hx=> ?_) fun _=>ab J
  refine bB (P:=fun _=>True) (fun _=>bB (P:=fun _=>True) (fun _=>ab trivial) (fun _=>ab trivial) fun _ _=>ab trivial) (fun _=>ab trivial) fun b _=> ?_
  rw [BA N c b x (hm x (List.mem_of_getElem? hx)),bs,nt,cf];exact aQ (by constructor<;>omega) (Bv N c hc hm m (i+1) O O)
theorem uz (N:Nat)(hN:20000≤N)(c:MY)(hs:c.Slots.length≤5000)(hc:c.More.length≤5000)(hv: ∀x∈c.Slots,pp N x)(hm: ∀x∈c.More,pp N x): ∀(m i:Nat),c.Slots.length<m+i→i≤c.Slots.length→Sat (kz N (jW (fun x st=>cY N c x st)) c m (i:Int) (none,())) (· =(none,()))
 |0,i,h,h1=>by omega
 |m+1,i,h,h1=>by
  rw [kz.eq_2]
  refine bh (fun h2=>bO O h2 fun x hx=> ?_) fun _=>Bv N c hc hm N 0 O O
  rw [BA N c true x (hv x (List.mem_of_getElem? hx)),bs,nt,cf];exact aQ (by constructor<;>omega) (uz N hN c hs hc hv hm m (i+1) O O)
theorem RC.right {N:Nat}(hN:20000≤N){c:MY}(h:RC N c):dD N c=some true:=by
 have h0:=h.fl;have h1:=h.sl;have h2:=h.more;have h3:=h.sh;obtain ⟨z,z1,z2⟩:=h.proto;have hl:=(List.getElem?_eq_some_iff.1 z1).1
 have hz:bR c.Slots 0=some z:=by unfold bR;exact z1
 have hk:1≤c.Kind∧c.Kind≤2:=by rcases h.kind with e|e<;>omega
 have hh:mE N c.Kind=some true:=by
  unfold mE gG;rcases h.kind with e|e<;>rw [e]<;>rfl
 have ha:=(uz N hN c O O h.sv h.mv N 0 O O).eq
 have hage:(bif !decide (c.Age=0) then some (!decide (c.Age=1)) else some false:Option Bool)=some false:=by rcases h.age with e|e<;>rw [e]<;>rfl
 have hsl:fq N c=some true:=by
  unfold fq;rw [hh,bs,ct,bs,ct,Nf (show 1≤(c.Slots.length:Int) by omega),ct,Nf (show (c.Slots.length:Int)≤1025 by omega),bs,ct,hz,bs];rcases z2 with e|e
  ·rw [e];rfl
  rw [e];show some (decide (z.Kind=7))=_;rw [e];rfl
 have hmr:jd N c.Kind c.More=some true:=by
  rw [Bw N _ _ (by rcases h.kind with e|e<;>omega),Nf (show (c.More.length:Int)≤1048576 by omega),Bool.true_and];rcases h.kind with e|e
  ·rw [Ng O,cf,h.plain e];rfl
  rw [Nf e,ct,Nf O]
 unfold dD;rw [Ng (show¬c.Kind<1 by omega),cf,Ng (show¬11<c.Kind by omega),bs,cf,Ng (show¬c.Shape<0 by omega),bs,cf,Ng (show¬c.Flags<0 by omega),bs,cf,Ng (show¬63<c.Flags by omega),bs,cf,hage,bs,bs,cf];show Option.bind (iK N c _ _) _=_;rw [show iK N c (jW (fun x st=>cY N c x st)) (none,())=some (none,()) from ha,bs];show Option.bind (fq N c) _=_;rw [hsl,bs,ct,hmr];rfl
theorem C9 {a:Int}(h0: -9223372036854775808≤a)(h1:a≤9223372036854775807):bQ (a.tdiv 2)∧bQ (a.tdiv 2 - 1):=by
 have: -4611686018427387904≤a.tdiv 2∧a.tdiv 2≤4611686018427387904:=by
  by_cases h:0≤a
  ·rw [Int.tdiv_eq_ediv_of_nonneg h];omega
  have e:a.tdiv 2= -((-a).tdiv 2):=by rw [Int.neg_tdiv,Int.neg_neg]
  rw [e,Int.tdiv_eq_ediv_of_nonneg O];omega
 unfold bQ;omega
def qY (w:MT)(Y:List MY):MT:=⟨w.spent_,w.config_,(),⟨⟨Y,w.heap_.m_.Old⟩,w.heap_.roots_,w.heap_.pending_,w.heap_.set_⟩,w.shapes_,w.symbols_,w.epoch_,w.serial_,w.sleepers_,w.events_,w.out_⟩
def Cp (w:MT)(t:MU):MT:=⟨w.spent_,w.config_,(),w.heap_,t,w.symbols_,w.epoch_,w.serial_,w.sleepers_,w.events_,w.out_⟩
theorem JS {a:Int}(h:a.tmod 2≠0)(h0:0<a): ∃j:Nat,a=2*j+1∧a.tdiv 2=(j:Int)∧a.tmod 2=1:=by
 rw [Int.tmod_eq_emod_of_nonneg O] at h⊢;rw [Int.tdiv_eq_ediv_of_nonneg O];exact ⟨(a / 2).toNat,by omega,by omega,by omega⟩
theorem zQ (j:Nat):(2*(j:Int)+1).tmod 2=1∧(2*(j:Int)+1).tdiv 2=(j:Int):=by
 rw [Int.tmod_eq_emod_of_nonneg O,Int.tdiv_eq_ediv_of_nonneg O];omega
theorem HH (N:Nat)(h:Nb)(hO:h.m_.Old=[])(a:Int)(h0: -9223372036854775808≤a)(h1:a≤9223372036854775807):eM N h a=some false∨(eM N h a=some true∧ ∃(j:Nat) (c:MY),a=2*j+1∧h.m_.Young[j]? =some c):=by
 obtain ⟨t1,t2⟩:=C9 h0 h1;unfold eM ce oU mN ko;simp only [bs,nf,ct];rw [iN t1];by_cases hp:0<a
 ·by_cases e:a.tmod 2=0
  ·left
   have e2: ¬(a.tdiv 2 - 1<0):=by
    rw [Int.tmod_eq_emod_of_nonneg O] at e;rw [Int.tdiv_eq_ediv_of_nonneg O];omega
   rw [Nf e,ct,iN t1,iN t2,hO,Nf hp,ct,bs];simp [e2,bs]
  obtain ⟨j,j1,j2,j3⟩:=JS e hp;rw [Ng e,cf,Nf hp,ct,bs,j2];by_cases hj:j<h.m_.Young.length
  ·right;rw [Nf O];exact ⟨J,j,h.m_.Young[j],j1,List.getElem?_eq_getElem hj⟩
  left;rw [Ng O];rfl
 left;rw [Ng hp];by_cases e:a.tmod 2=0
 ·rw [Nf e,ct,iN t1,iN t2];rfl
 rw [Ng e,cf];rfl
theorem Ac (N:Nat)(h:Nb)(j:Nat)(hj:j<h.m_.Young.length)(hb:j≤1000000000):eM N h (2*j+1)=some true:=by
 obtain ⟨t1,t2⟩:=C9 (a:=2*(j:Int)+1) O O;obtain ⟨o1,o2⟩:=zQ j;unfold eM ce oU mN ko;simp only [bs,nf,ct];rw [iN t1,Ng O,cf,Nf O,ct,bs,o2,Nf O];rfl
theorem uO (N:Nat)(h:Nb)(j:Nat)(hj:j<h.m_.Young.length)(hb:j≤9223372036854775807):gl N h (2*j+1)=some (.inl (j:Int)):=by
 obtain ⟨o1,o2⟩:=zQ j;unfold gl;rw [Nf o1,ct,o2,iN (by constructor<;>omega),jv hj,bs]
theorem pH (N:Nat)(x:MQ):jL N x=some (decide (x.Kind=7)||decide (x.Kind=9)):=by
 unfold jL;cases decide (x.Kind=7)<;>rfl
structure Mem (w:MT) (k:Nat):Prop where
 old:w.heap_.m_.Old=[]
 good: ∀x∈w.heap_.m_.Young,goodC x
 len:w.heap_.m_.Young.length≤k
theorem wr (N:Nat){w:MT}(hg: ∀x∈w.heap_.m_.Young,goodC x){x:MQ}{j:Nat}{c:MY}(hk:x.Kind=7∨x.Kind=9)(hx:x.N=2*j+1)(hb:j≤1000000000)(hj:w.heap_.m_.Young[j]? =some c):bV N w x=some c:=by
 have hlt:=(List.getElem?_eq_some_iff.1 hj).1;have hc:=hg c (List.mem_of_getElem? hj);unfold bV mf iF;rw [pH,bs,show (decide (x.Kind=7)||decide (x.Kind=9))=true by rcases hk with h|h<;>rw [h]<;>rfl,nt,cf,hx,Ac N _ j hlt hb,bs,nt,cf,uO N _ j hlt O,bs];show Option.bind (Option.bind (bR w.heap_.m_.Young (j:Int)) _) _=_;rw [jv hlt,bs,(List.getElem?_eq_some_iff.1 hj).2,t8 N hc,bs];rfl
theorem Gx (N:Nat){w:MT}{k:Nat}(hw:Mem w k)(hk:k≤1000000000){x:MQ}(hx:qu x):Sat (bV N w x) fun c=>goodC c∧(c=⟨0,0,0,0,[],[]⟩∨ ∃j:Nat,x.N=2*j+1∧w.heap_.m_.Young[j]? =some c):=by
 by_cases hl:x.Kind=7∨x.Kind=9
 ·rcases HH N w.heap_ hw.old x.N hx.1 hx.2 with h|⟨-,j,c,h1,h2⟩
  ·refine ⟨⟨0,0,0,0,[],[]⟩,?_,Jl,.inl J⟩;unfold bV mf iF;rw [pH,bs,show (decide (x.Kind=7)||decide (x.Kind=9))=true by rcases hl with h|h<;>rw [h]<;>rfl,nt,cf,h];rfl
  have:=(List.getElem?_eq_some_iff.1 h2).1;exact ⟨c,wr N hw.good hl h1 (by have:=hw.len;omega) h2,hw.good c (List.mem_of_getElem? h2),.inr ⟨j,h1,h2⟩⟩
 refine ⟨⟨0,0,0,0,[],[]⟩,?_,Jl,.inl J⟩;unfold bV;rw [pH,bs,Ng fun h=>hl (.inl h),Ng fun h=>hl (.inr h)];rfl
theorem Dd (N:Nat)(w:MT)(x:MQ)(c:MY):fu N w x c=bH N w x c:=rfl
theorem zK (N:Nat){w:MT}(hg: ∀x∈w.heap_.m_.Young,goodC x){x:MQ}{j:Nat}{o c:MY}(hk:x.Kind=7)(hx:x.N=2*j+1)(hb:j≤1000000000)(hj:w.heap_.m_.Young[j]? =some o)(hc:goodC c)(hr:dD N c=some true):bH N w x c=some (qY w (w.heap_.m_.Young.set j ⟨c.Kind,c.Shape,c.Flags,o.Age,c.Slots,c.More⟩)):=by
 have hlt:=(List.getElem?_eq_some_iff.1 hj).1;unfold bH lw;rw [pH,bs,Nf hk,Bool.true_or,ct,show ce N w.heap_=some false from rfl,bs,cf,hx,Ac N _ j hlt hb,bs,nt,cf,hr,bs,nt,cf,uO N _ j hlt O,bs];show Option.bind (Option.bind (bR w.heap_.m_.Young (j:Int)) _) _=_;rw [jv hlt,bs,(List.getElem?_eq_some_iff.1 hj).2,t8 N hc,bs,Ng (by have:=(zQ j).1;omega),cf];unfold iG qY;simp only [Int.toNat_natCast,List.set_set,bs]
structure propV (N:Nat) (p:MX):Prop where
 v:vH N p.Value
 g:qu p.Get
 s:qu p.Set
structure descV (N:Nat) (d:Na):Prop where
 v:vH N d.Value
 g:qu d.Get
 s:qu d.Set
theorem wW (N:Nat)(k:MM)(a:Int):propV N ⟨k,a,⟨0,0,⟨#[]⟩⟩,⟨0,0,⟨#[]⟩⟩,⟨0,0,⟨#[]⟩⟩⟩:=⟨ux N,lz,lz⟩
theorem Ez:fV 0:=⟨by decide,by decide,by decide⟩
theorem Ly:fV 1:=⟨by decide,by decide,by decide⟩
theorem FP:fV 7:=⟨by decide,by decide,by decide⟩
theorem uT (N:Nat)(d:Na):Sat (eN N d) fun _=>True:=by
 unfold eN eH eG d5 bi
 (repeat' first|exact ab trivial|refine Sat.bind (P:=fun _=>True) ?_ (fun _ _=> ?_)|refine aP (fun _=> ?_) (fun _=> ?_))
theorem D5 (N:Nat)(p:MX)(d:Na):Sat (eB N p d) fun _=>True:=by
 unfold eB bi jw
 (repeat' first|exact ab trivial|refine Sat.bind (P:=fun _=>True) ?_ (fun _ _=> ?_)|refine aP (fun _=> ?_) (fun _=> ?_))
theorem zj (N:Nat)(d:Na):Sat (gz N d) fun _=>True:=by
 unfold gz bi lN
 repeat' first|exact ab trivial|exact uT N d|refine Sat.bind (P:=fun _=>True) ?_ (fun _ _=> ?_)|refine aP (fun _=> ?_) (fun _=> ?_)
abbrev Jj (n:Int):Prop:= -9223372036854775808≤n∧n≤9223372036854775807
theorem xO (N:Nat){d:Na}(hd:descV N d)(a1:MM)(p27 y29 p31 p32:Int)(p33:ByteArray)(p14 p15:Int)(p16:ByteArray)(p37 p38:Int)(p39:ByteArray)(h1:vH N ⟨p31,p32,p33⟩)(h2:Jj p15)(h3:Jj p38):Sat (dh N d a1 p27 y29 p31 p32 p33 p14 p15 p16 p37 p38 p39) fun r=>propV N r∧r.Key=a1:=by
 unfold dh d7 bi;rw [bs]
 exact aP (fun _=>ab ⟨⟨h1,h3,hd.s⟩,J⟩) fun _=>ab ⟨⟨h1,h3,h2⟩,J⟩
theorem xP (N:Nat){d:Na}(hd:descV N d)(a1:MM)(p27 y29 p11 p12:Int)(p13:ByteArray)(p14 p15:Int)(p16:ByteArray)(p31 p32:Int)(p33:ByteArray)(h1:vH N ⟨p31,p32,p33⟩)(h2:Jj p15)(h3:Jj p12):Sat (di N d a1 p27 y29 p11 p12 p13 p14 p15 p16 p31 p32 p33) fun r=>propV N r∧r.Key=a1:=by
 unfold di bi;rw [bs]
 exact aP (fun _=>xO N hd _ _ _ _ _ _ _ _ _ _ _ _ h1 h2 hd.g) fun _=>xO N hd _ _ _ _ _ _ _ _ _ _ _ _ h1 h2 h3
theorem qo (N:Nat){d:Na}(hd:descV N d)(a1:MM)(p21 p22:Int)(p23:ByteArray)(p11 p12:Int)(p13:ByteArray)(p14 p15:Int)(p16:ByteArray)(p27:Int)(h1:vH N ⟨p21,p22,p23⟩)(h2:Jj p15)(h3:Jj p12):Sat (dj N d a1 p21 p22 p23 p11 p12 p13 p14 p15 p16 p27) fun r=>propV N r∧r.Key=a1:=by
 unfold dj
 refine (uT N d).bind fun y _=> ?_
 unfold bi;rw [bs]
 exact aP (fun _=>xP N hd _ _ _ _ _ _ _ _ _ _ _ _ hd.v h2 h3) fun _=>xP N hd _ _ _ _ _ _ _ _ _ _ _ _ h1 h2 h3
theorem xQ (N:Nat){d:Na}(hd:descV N d){p:MX}(hp:propV N p)(b:Bool)(a1:MM)(p11 p12:Int)(p13:ByteArray)(p14 p15:Int)(p16:ByteArray)(h2:Jj p15)(h3:Jj p12):Sat (dk N p b d a1 p11 p12 p13 p14 p15 p16) fun r=>propV N r∧r.Key=a1:=by
 unfold dk d8
 refine Sat.bind (P:=fun _=>True) (by repeat' first|exact ab trivial|refine Sat.bind (P:=fun _=>True) ?_ (fun _ _=> ?_)|refine aP (fun _=> ?_) (fun _=> ?_)) fun c _=>aP (fun _=>aP (fun _=> ?_) fun _=> ?_) fun _=>aP (fun _=> ?_) fun _=> ?_
 ·exact qo N hd _ _ _ _ _ _ _ _ _ _ _ hp.v h2 h3
 ·exact qo N hd _ _ _ _ _ _ _ _ _ _ _ hp.v h2 h3
 ·exact qo N hd _ _ _ _ _ _ _ _ _ _ _ (ux N) h2 h3
 exact qo N hd _ _ _ _ _ _ _ _ _ _ _ (ux N) h2 h3
theorem xJ (N:Nat){p:MX}(hp:propV N p)(k:MM){d:Na}(hd:descV N d):Sat (cA N p k d) fun r=>propV N r∧r.Key=k:=by
 unfold cA bi;rw [bs]
 refine Sat.bind (P:=fun _=>True) (by repeat' first|exact ab trivial|refine Sat.bind (P:=fun _=>True) ?_ (fun _ _=> ?_)|refine aP (fun _=> ?_) (fun _=> ?_)) fun b _=>Sat.bind (P:=fun _=>True) (by repeat' first|exact ab trivial|refine Sat.bind (P:=fun _=>True) ?_ (fun _ _=> ?_)|refine aP (fun _=> ?_) (fun _=> ?_)) fun c _=>aP (fun _=> ?_) fun _=> ?_
 ·exact xQ N hd hp b k _ _ _ _ _ _ hp.s hp.g
 exact xQ N hd hp b k _ _ _ _ _ _ ⟨by decide,by decide⟩ ⟨by decide,by decide⟩
theorem up (N:Nat){p:MX}(hp:propV N p)(has ext:Bool)(k:MM){d:Na}(hd:descV N d):Sat (br N p has ext k d) fun r=>propV N r.1∧(r.2=true→r.1.Key=k):=by
 unfold br nl
 refine eK (fun _=>eK (fun _=>ab ⟨wW N _ _,fun h=>by cases h⟩) fun _=> ?_) fun _=> ?_
 ·exact Sat.bind ((xJ N (wW N _ _) k hd).bind fun y hy=>ab hy) fun y hy=>ab ⟨hy.1,fun _=>hy.2⟩
 refine Sat.bind (P:=fun _=>True) (aP (fun _=>(D5 N p d).bind fun _ _=>ab trivial) fun _=>ab trivial) fun b _=>aP (fun _=>ab ⟨wW N _ _,fun h=>by cases h⟩) fun _=> ?_
 exact (xJ N hp k hd).bind fun y hy=>ab ⟨hy.1,fun _=>hy.2⟩
structure ObjC (N:Nat) (t:MU) (c:MY) (l:List (MM×Int)):Prop where
 rc:RC N c
 row:Row t c.Shape l
 num:c.Slots.length=l.length+1
 nd:(l.map (·.1)).Nodup
 noP:ai .i64 c.Flags 16=0
 idx:c.Kind=2→ ∀x∈l,x.1.Kind=0→x.1.N<c.More.length
structure InvC (N i k:Nat) (w:MT) (c:MY) (l:List (MM×Int)):Prop where
 mem:Mem w k
 ti:TI N w.shapes_
 tb:w.shapes_.shapes_.length≤k
 at_:w.heap_.m_.Young[i]? =some c
 obj:ObjC N w.shapes_ c l
theorem InvC.good {N i k:Nat}{w:MT}{c:MY}{l:List (MM×Int)}(h:InvC N i k w c l):goodC c:=h.mem.good c (List.mem_of_getElem? h.at_)
theorem InvC.lt {N i k:Nat}{w:MT}{c:MY}{l:List (MM×Int)}(h:InvC N i k w c l):i<k:=by
 have:=(List.getElem?_eq_some_iff.1 h.at_).1;have:=h.mem.len;omega
section
variable {N:Nat} (hN:20000≤N) {v:MQ} {i:Nat} (hv:v.Kind=7) (hvN:v.N=2*i+1) {k:Nat} (hk:k≤1000000000) {w:MT} {c:MY} {l:List (MM×Int)} (h:InvC N i k w c l)
include hN hv hvN hk h
theorem Jd:bV N w v=some c:=by
 have:=hN;exact wr N h.mem.good (.inl hv) hvN (by have:=h.lt;omega) h.at_
theorem oY:dv N w v=some (.inr ⟨c,w,v⟩):=by
 obtain ⟨z,z1,z2⟩:=h.obj.rc.proto;have hl:=(List.getElem?_eq_some_iff.1 z1).1
 have hg:bR c.Slots 0=some z:=by unfold bR;exact z1
 unfold dv;rw [Nf hv,nt,cf,Jd hN hv hvN hk h,bs,Ng (show¬(c.Slots.length:Int)=0 by omega),cf,hg,bs,bs];rcases z2 with z2|z2<;>rw [z2]<;>rfl
theorem FM:kG N w v=some (!decide (ai .i64 c.Flags 1=0)):=by
 unfold kG;rw [oY hN hv hvN hk h,bs];rfl
theorem JK: ∃z,lY N w v=some z∧(z.Kind=1∨z.Kind=7):=by
 obtain ⟨z,z1,z2⟩:=h.obj.rc.proto
 have hg:bR c.Slots 0=some z:=by unfold bR;exact z1
 refine ⟨z,?_,z2⟩;unfold lY;rw [oY hN hv hvN hk h,bs];show Option.bind (bR c.Slots 0) _=_;rw [hg,bs]
theorem Lz:ga N w v=some true:=by
 obtain ⟨z,z1,z2⟩:=JK hN hv hvN hk h;unfold ga;rw [Nf hv,ct,z1,bs];rcases z2 with z2|z2<;>rw [z2]<;>rfl
theorem ns:dE N w v=some (c,decide (c.Kind=2)):=by
 unfold dE;rw [Nf hv,nt,cf,Jd hN hv hvN hk h,bs]
theorem D8:kA N w v=some (decide (c.Kind=2)):=by
 unfold kA;rw [ns hN hv hvN hk h,bs]
omit hv hvN in
theorem Je (place:Int)(h0:0≤place)(h1:place≤5000)(key:MM)(a:Int):Sat (eu N ⟨c,w,v⟩ place key a) fun p=>propV N p∧p.Key=key∧p.Attrs=a:=by
 have:=hN;unfold eu;refine aQ (by constructor<;>omega) (bh (fun _=>ab ⟨wW N _ _,J,J⟩) fun h2=>aQ (by constructor<;>omega) ?_)
 refine bO O (by show place+1<c.Slots.length;have: ¬(c.Slots.length:Int)≤place+1:=h2;omega) fun x hx=> ?_
 have hx':=h.good.sv x (List.mem_of_getElem? hx)
 refine bh (fun _=>ab ⟨⟨⟨hx',h.obj.rc.sv x (List.mem_of_getElem? hx)⟩,lz,lz⟩,J,J⟩) fun _=> ?_
 refine (Gx N h.mem hk hx').bind fun p hp=>bh (fun h3=> ?_) fun _=>ab ⟨wW N _ _,J,J⟩
 exact bO O O fun y hy=>bO O O fun z hz=>ab ⟨⟨ux N,hp.1.sv y (List.mem_of_getElem? hy),hp.1.sv z (List.mem_of_getElem? hz)⟩,J,J⟩
def LG (N:Nat)(l:List (MM×Int))(key:MM)(r:MX×Int×Bool):Prop:=propV N r.1∧fV r.1.Attrs∧((r.2.2=false∧ ∀x∈l,x.1≠key)∨ ∃n:Nat,r.2.1=n∧r.2.2=true∧l[n]? =some (key,r.1.Attrs))
omit hv hvN in
theorem JC (key:MM):Sat (bn N ⟨c,w,v⟩ key) (LG N l key):=by
 unfold bn cK;rw [bs];have hle:=h.obj.row.le h.ti
 refine (sa N O h.ti h.obj.row key).bind fun z hz=> ?_
 rcases hz with ⟨rfl,hz⟩|⟨n,z1,z2,z3⟩
 ·exact ab ⟨wW N _ _,Ez,.inl ⟨J,hz⟩⟩
 have hlt:=(List.getElem?_eq_some_iff.1 z3).1;rw [z2];show Sat (Option.bind _ _) _
 refine (Je hN hk h z.1 O O key z.2.1).bind fun p hp=>ab ⟨hp.1,by rw [hp.2.2];exact (h.obj.row.ok h.ti _ (List.mem_of_getElem? z3)).2,.inr ⟨n,z1,rfl,by rw [hp.2.2];exact z3⟩⟩
theorem HA (key:MM):Sat (dP N w v key) fun r=>propV N r.1∧fV r.1.Attrs∧(r.2=true↔key∈l.map (·.1)):=by
 unfold dP;rw [oY hN hv hvN hk h,bs];show Sat (Option.bind (bn N ⟨c,w,v⟩ key) _) _
 refine (JC hN hk h key).bind fun r hr=>ab ⟨hr.1,hr.2.1,?_⟩
 rcases hr.2.2 with ⟨r1,r2⟩|⟨n,r1,r2,r3⟩
 ·refine ⟨fun e=> ?_,fun e=> ?_⟩
  ·change r.2.2=true at e;rw [r1] at e;cases e
  obtain ⟨x,x1,x2⟩:=List.mem_map.1 e;exact absurd x2 (r2 x x1)
 exact ⟨fun _=>List.mem_map.2 ⟨_,List.mem_of_getElem? r3,J⟩,fun _=>r2⟩
omit hN hv hvN hk h in
theorem D7 (N:Nat)(c:MY)(hc:c.More.length≤4096):Sat (gT N c) fun p=>propV N p∧fV p.Attrs:=by
 have hx:vH N ⟨3,(c.More.length:Int),⟨#[]⟩⟩:=⟨⟨by show _≤(c.More.length:Int);omega,by show (c.More.length:Int)≤_;omega⟩,wd N O O⟩;unfold gT cu jG;rw [bs]
 exact eK (fun _=>ab ⟨⟨hx,lz,lz⟩,Ez⟩) fun _=>ab ⟨⟨hx,lz,lz⟩,Ly⟩
theorem KF (key:MM):Sat (bY N w v key) fun r=>propV N r.1∧fV r.1.Attrs:=by
 unfold bY cu;rw [ns hN hv hvN hk h,bs]
 refine eK (fun _=>ab ⟨wW N _ _,Ez⟩) fun _=> ?_
 rw [bs]
 refine bh (fun _=>(D7 N c h.obj.rc.more).bind fun y hy=>ab hy) fun _=> ?_
 refine bB (P:=fun b=>b=true→0≤key.N) (fun e=>(kK N O key).bind fun y hy=>ab fun h=>(hy h (of_decide_eq_true e)).1) (fun _=>ab fun h=>by cases h) fun b hb=> ?_
 refine bB (P:=fun b=>b=true→0≤key.N∧key.N<c.More.length) (fun e=> ?_) (fun _=>ab fun h=>by cases h) fun d hd=>aP (fun e=> ?_) fun _=> ?_
 ·unfold jM
  refine Sat.bind (P:=fun b=>b=true→0≤key.N∧key.N<c.More.length) (bB (P:=fun b=>b=true→0≤key.N∧key.N<c.More.length) (fun e2=> ?_) (fun _=>ab fun h=>by cases h) fun z hz=>ab hz) fun z hz=>ab hz
  have h3:=of_decide_eq_true e2
  exact bO (hb e) h3 fun x _=>ab fun _=>⟨hb e,h3⟩
 ·obtain ⟨h2,h3⟩:=hd e
  exact bO h2 h3 fun x hx=>ab ⟨⟨⟨h.good.mv x (List.mem_of_getElem? hx),h.obj.rc.mv x (List.mem_of_getElem? hx)⟩,lz,lz⟩,FP⟩
 exact (HA hN hv hvN hk h key).bind fun r hr=>ab ⟨hr.1,hr.2.1⟩
theorem La (key:MM):Sat (bZ N w v key) fun r=>propV N r.1∧fV r.1.Attrs:=by
 unfold bZ;rw [D8 hN hv hvN hk h,bs]
 exact aP (fun _=>(KF hN hv hvN hk h key).bind fun r hr=>ab hr) fun _=>(HA hN hv hvN hk h key).bind fun r hr=>ab ⟨hr.1,hr.2.1⟩
omit hv hvN in
theorem wV: ∀(m j:Nat) (p:List MX),l.length<m+j→j≤l.length→p.map (fun x=>(x.Key,x.Attrs))=l.take j→Sat (kF N (l.map (·.1)) (l.map (·.2)) ⟨c,w,v⟩ w m p (l.map (·.1)) (j:Int)) fun r=>r.map (fun x=>(x.Key,x.Attrs))=l
 |0,j,p,h1,h2,_=>by omega
 | m+1,j,p,h1,h2,h3=>by
  have hle:=h.obj.row.le h.ti
  have hp:p.length=j:=by
   have:=congrArg List.length h3;rw [List.length_map,List.length_take] at this;omega
  rw [kF.eq_2]
  refine bh (fun h5=> ?_) fun h5=>ab (by rw [List.length_map] at h5;rw [h3,List.take_of_length_le O])
  rw [List.length_map] at h5
  have hj:j<l.length:=by omega
  have e1:bR (l.map (·.1)) (j:Int)=some l[j].1:=by rw [jv (by rw [List.length_map];exact hj),List.getElem_map]
  have e2:bR (l.map (·.2)) (j:Int)=some l[j].2:=by rw [jv (by rw [List.length_map];exact hj),List.getElem_map]
  rw [e1,bs,e2,bs]
  refine (Je hN hk h j O O _ _).bind fun q hq=> ?_
  refine aQ (by rw [List.length_singleton];omega) (aQ (by constructor<;>omega) ?_);refine wV m (j+1) _ O O ?_;rw [List.map_append,h3,List.take_add_one,List.getElem?_eq_getElem hj];show _++ [(q.Key,q.Attrs)]=_;rw [hq.2.1,hq.2.2];rfl
theorem sY:Sat (eF N w v) fun r=>r.map (fun x=>(x.Key,x.Attrs))=l:=by
 unfold eF;have hle:=h.obj.row.le h.ti;rw [oY hN hv hvN hk h,bs];show Sat (Option.bind (gr N w.shapes_ c.Shape) _) _;rw [GP N O h.ti h.obj.row,bs];show Sat (Option.bind (eP N w.shapes_ c.Shape) _) _;rw [Dn N O h.ti h.obj.row,bs];exact wV hN hk h N 0 [] O O J
omit hN hv hvN hk h in
theorem Ib {ρ:Type}{n r:Option ρ}{x:Nat→Option ρ}:xT none n r x=n:=rfl
end
end
section
open Go.RowKit
theorem F8: ∀f:_root_.Fin 64,ai .i64 (f.val:Int) 16=0→(0≤bf .i64 (f.val:Int) 32∧bf .i64 (f.val:Int) 32≤63)∧ai .i64 (bf .i64 (f.val:Int) 32) 16=0:=by decide+kernel
theorem EU: ∀f:_root_.Fin 64,ai .i64 (f.val:Int) 16=0→(0≤aZ .i64 (f.val:Int) 1∧aZ .i64 (f.val:Int) 1≤63)∧ai .i64 (aZ .i64 (f.val:Int) 1) 16=0∧ai .i64 (aZ .i64 (f.val:Int) 1) 1=0:=by decide+kernel
theorem na {α:Type}{q:List α}{n:Nat}{a:α}(h:q[n]? =some a):q.set n a=q:=by
 apply List.ext_getElem?;intro j;by_cases e:n=j
 ·subst e;rw [List.getElem?_set_self (List.getElem?_eq_some_iff.1 h).1,h]
 rw [List.getElem?_set_ne e]
theorem pE {w:MT}{k k':Nat}(h:Mem w k)(hk:k≤k'):Mem w k':=⟨h.old,h.good,Nat.le_trans h.len hk⟩
theorem InvC.more {N i k k':Nat}{w:MT}{c:MY}{l:List (MM×Int)}(h:InvC N i k w c l)(hk:k≤k'):InvC N i k' w c l:=⟨pE h.mem hk,h.ti,Nat.le_trans h.tb hk,h.at_,h.obj⟩
section
variable {N:Nat} (hN:20000≤N) {v:MQ} {i:Nat} (hv:v.Kind=7) (hvN:v.N=2*i+1)
include hN hv hvN
theorem store {k:Nat}(hk:k≤1000000000){w:MT}{c c':MY}{l':List (MM×Int)}(hm:Mem w k)(hti:TI N w.shapes_)(htb:w.shapes_.shapes_.length≤k)(hat:w.heap_.m_.Young[i]? =some c)(hage:c'.Age=c.Age)(hg:goodC c')(ho:ObjC N w.shapes_ c' l'): ∃w',bH N w v c'=some w'∧InvC N i k w' c' l'∧w'.shapes_=w.shapes_:=by
 have hlt:=(List.getElem?_eq_some_iff.1 hat).1;have:=hm.len
 have e:(⟨c'.Kind,c'.Shape,c'.Flags,c.Age,c'.Slots,c'.More⟩:MY)=c':=by rw [←hage]
 refine ⟨_,zK N hm.good hv hvN O hat hg (ho.rc.right hN),?_,J⟩;rw [e];refine ⟨⟨hm.old,fun x hx=> ?_,?_⟩,hti,htb,?_,ho⟩
 ·rcases List.mem_or_eq_of_mem_set hx with hx|rfl
  ·exact hm.good x hx
  exact hg
 ·show (w.heap_.m_.Young.set i c').length≤k;rw [List.length_set];exact hm.len
 show (w.heap_.m_.Young.set i c')[i]? =some c';exact List.getElem?_set_self hlt
variable {k:Nat} {w:MT} {c:MY} {l:List (MM×Int)} (h:InvC N i k w c l)
include h
end
end
section
open Go.RowKit
theorem Ab (N:Nat):vH N ⟨8,0,⟨#[]⟩⟩:=⟨⟨by decide,by decide⟩,by unfold pp;rw [xm N 8 0 (by decide)];rfl⟩
def Mc (N i k:Nat)(c:MY)(w':MT):Prop:= ∃c' l',InvC N i k w' c' l'∧c'.Kind=c.Kind
def LJ (N i k:Nat)(c:MY)(w':MT):Prop:= ∃c' l',InvC N i k w' c' l'∧c'.Kind=c.Kind∧c'.More=c.More
section
variable {N:Nat} (hN:20000≤N) {v:MQ} {i:Nat} (hv:v.Kind=7) (hvN:v.N=2*i+1) {k:Nat} {w:MT} {c:MY} {l:List (MM×Int)} (h:InvC N i k w c l)
include hN hv hvN h
theorem zT: ∀x∈c.More,vH N x:=by
 have:=And.intro hN (And.intro hv hvN)
 exact fun x hx=>⟨h.good.mv x hx,h.obj.rc.mv x hx⟩
section
variable (hk:k+5000≤1000000000) (hk2:c.Kind=2) (key:MM) (hkey:0≤key.N∧key.N<4096) (y29:MX×Bool) (y23:MX×Bool) (hp:propV N y23.1) (hpk:y23.1.Key=key)
include hk hk2 hkey hp hpk
theorem GQ: ∀(n:Nat) (m:List MQ),jy N y29 w v c key y23 n m=fS N y29 w v c key y23 n m
 |0,m=>by
  have:=And.intro hN (And.intro hv (And.intro hvN (And.intro h (And.intro hk (And.intro hk2 (And.intro hkey (And.intro hp hpk)))))));rfl
 |n+1,m=>by
  rw [jy.eq_2,fS.eq_2,GQ n];rfl
end
end
end
section
open Go.RowKit
theorem Lf {f:Int}(h:0≤f∧f≤63)(h2:ai .i64 f 16=0):(0≤bf .i64 f 32∧bf .i64 f 32≤63)∧ai .i64 (bf .i64 f 32) 16=0:=by
 have:=F8 ⟨f.toNat,by omega⟩;simp only [Int.toNat_of_nonneg h.1] at this;exact this h2
section
variable {N:Nat} (hN:20000≤N) {v:MQ} {i:Nat} (hv:v.Kind=7) (hvN:v.N=2*i+1)
include hN hv hvN
section
variable (n stop:Int) (y:List MX) (l0:List (MM×Int)) (hy:y.map (fun x=>(x.Key,x.Attrs))=l0) (hnd:(l0.map (·.1)).Nodup) (hl0:l0.length≤1024) (p26:List MQ) (y16:MY×Bool) (h26:p26.length≤4096) (h26v: ∀x∈p26,vH N x) (hs0:0≤stop) (hs1:stop.toNat≤p26.length) (hloose: ∀x∈l0,x.1.Kind=0→stop≤x.1.N→ai .i64 x.2 4≠0) {k:Nat} (hk:k+2000000≤1000000000)
include hy hnd hl0 h26 h26v hs0 hs1 hloose hk
end
variable {k:Nat} {w:MT} {c:MY} {l:List (MM×Int)} (h:InvC N i k w c l)
include h
theorem tn (hk:k≤1000000000)(key:MM){d:Na}(hd:descV N d):Sat (fi N w v key d) fun _=>True:=by
 unfold fi
 refine (La hN hv hvN hk h key).bind fun y hy=> ?_
 rw [FM hN hv hvN hk h,bs]
 refine (up N hy.1 _ _ key hd).bind fun p hp=>Sat.bind (P:=fun _=>True) (by repeat' first|exact ab trivial|refine Sat.bind (P:=fun _=>True) ?_ (fun _ _=> ?_)|refine aP (fun _=> ?_) (fun _=> ?_)) fun _ _=>aP (fun _=>ab trivial) fun _=>aP (fun _=>ab trivial) fun _=> ?_
 refine (sY hN hv hvN hk h).bind fun z hz=> ?_
 rw [D8 hN hv hvN hk h,bs]
 refine Sat.bind (P:=fun _=>True) (by repeat' first|exact ab trivial|refine Sat.bind (P:=fun _=>True) ?_ (fun _ _=> ?_)|refine aP (fun _=> ?_) (fun _=> ?_)) fun _ _=>aP (fun _=>by (repeat' first|exact ab trivial|refine Sat.bind (P:=fun _=>True) ?_ (fun _ _=> ?_)|refine aP (fun _=> ?_) (fun _=> ?_))) fun _=> ?_
 unfold ij eL;rw [bs]
 refine Sat.bind (P:=fun _=>True) ?_ fun _ _=>ab trivial
 refine (KF hN hv hvN hk h _).bind fun s hs=>(HA hN hv hvN hk h key).bind fun q hq=>aP (fun _=>ab trivial) fun _=> ?_
 refine Sat.bind (P:=fun _=>True) ?_ fun _ _=>by (repeat' first|exact ab trivial|refine Sat.bind (P:=fun _=>True) ?_ (fun _ _=> ?_)|refine aP (fun _=> ?_) (fun _=> ?_))
 unfold nq;rw [ns hN hv hvN hk h,bs]
 (repeat' first|exact ab trivial|refine Sat.bind (P:=fun _=>True) ?_ (fun _ _=> ?_)|refine aP (fun _=> ?_) (fun _=> ?_))
theorem vd (hk:k≤1000000000){d:Na}(hd:descV N d):Sat (eT N w v d) fun _=>True:=by
 unfold eT eL
 refine Sat.bind (P:=fun _=>True) (by repeat' first|exact ab trivial|refine Sat.bind (P:=fun _=>True) ?_ (fun _ _=> ?_)|refine aP (fun _=> ?_) (fun _=> ?_)) fun _ _=>aP (fun _=>ab trivial) fun _=> ?_
 rw [bs]
 refine (KF hN hv hvN hk h _).bind fun s hs=> ?_
 rw [bs]
 exact (up N hs.1 _ _ _ hd).bind fun _ _=>by (repeat' first|exact ab trivial|refine Sat.bind (P:=fun _=>True) ?_ (fun _ _=> ?_)|refine aP (fun _=> ?_) (fun _=> ?_))
end
end
section
open Go.RowKit
def gv:Nat→List MQ→List MM
 |_,[]=> []
 |j,x::m=>bif decide (x=(⟨8,0,(⟨#[]⟩:ByteArray)⟩:MQ)) then gv (j+1) m else ⟨0,(j:Int),⟨#[]⟩⟩::gv (j+1) m
theorem qm: ∀(j:Nat) (m:List MQ),(gv j m).length≤m.length
 |_,[]=>Nat.le_refl _
 |j,x::m=>by
  unfold gv;have:=qm (j+1) m;cases decide (x=(⟨8,0,(⟨#[]⟩:ByteArray)⟩:MQ))
  ·rw [cf,List.length_cons,List.length_cons];omega
  rw [ct,List.length_cons];omega
theorem uS (N:Nat)(c:MY)(hc:c.More.length≤4096)(w':MT)(v':MQ): ∀(m j:Nat) (l:List MM),c.More.length<m+j→j≤c.More.length→l.length≤j→Sat (eV N (jW (fun x st=>gg N w' v' x st)) c m (j:Int) (none,l)) fun r=>r=(none,l++gv j (c.More.drop j))
 |0,j,l,h1,h2,_=>by omega
 | m +1,j,l,h1,h2,h3=>by
  rw [eV.eq_2];by_cases h4:j<c.More.length
  ·rw [Nf O,ct,jv h4,bs,List.drop_eq_getElem_cons h4];unfold gv
   cases e:decide (c.More[j]=(⟨8,0,(⟨#[]⟩:ByteArray)⟩:MQ)) with
   |true=>
    rw [nt,cf,ct];exact aQ (by constructor<;>omega) (uS N c hc w' v' m (j+1) _ O O O)
   | false=>
    have e:jW (fun x st=>gg N w' v' x st) ((j:Int),c.More[j]) (none,l)=some (true,(none,l++([(⟨0,(j:Int),⟨#[]⟩⟩:MM)]:List MM))):=by
     show Option.map _ (gg N w' v' ((j:Int),c.More[j]) l)=_;unfold gg;simp only;rw [iN (by unfold gQ;rw [List.length_singleton];omega)];rfl
    rw [nf,ct,e,bs,nt,cf,cf];refine aQ (by constructor<;>omega) ((uS N c hc w' v' m (j+1) _ O O (by rw [List.length_append,List.length_singleton];omega)).mono fun r hr=> ?_);rw [hr,Ni];rfl
  rw [Ng O,cf];exact ab (by rw [List.drop_of_length_le O,show gv j []=[] from rfl,List.append_nil])
theorem zt (N:Nat)(w:MT)(y:List MX)(hy:y.length≤1024): ∀(m j:Nat) (l:List MM),y.length<m+j→j≤y.length→l.length≤4097+j→mp N y w m (j:Int) l=eA N (l++(y.drop j).map (·.Key))
 |0,j,l,h1,h2,_=>by omega
 | m+1,j,l,h1,h2,h3=>by
  rw [mp.eq_2];by_cases h4:j<y.length
  ·rw [Nf O,ct,jv h4,bs,iN (by unfold gQ;rw [List.length_singleton];omega),iN (by constructor<;>omega),List.drop_eq_getElem_cons h4];have:=zt N w y hy m (j+1) (l++ [y[j].Key]) O O (by rw [List.length_append,List.length_singleton];omega);simp only [Int.natCast_add,Int.cast_ofNat_Int] at this;rw [this,Ni];rfl
  rw [Ng O,cf,List.drop_of_length_le O,List.map_nil,List.append_nil];unfold oN;cases eA N l<;>rfl
def jU (c:MY):MY:=⟨c.Kind,c.Shape,aZ .i64 c.Flags 1,c.Age,c.Slots,c.More⟩
theorem F9 {f:Int}(h:0≤f∧f≤63)(h2:ai .i64 f 16=0):(0≤aZ .i64 f 1∧aZ .i64 f 1≤63)∧ai .i64 (aZ .i64 f 1) 16=0∧ai .i64 (aZ .i64 f 1) 1=0:=by
 have:=EU ⟨f.toNat,by omega⟩;simp only [Int.toNat_of_nonneg h.1] at this;exact this h2
theorem ET: ∀f:_root_.Fin 64,ai .i64 (aZ .i64 (f.val:Int) 1) 32=ai .i64 (f.val:Int) 32:=by decide+kernel
theorem J4 {f:Int}(h:0≤f∧f≤63):ai .i64 (aZ .i64 f 1) 32=ai .i64 f 32:=by
 have:=ET ⟨f.toNat,by omega⟩;simp only [Int.toNat_of_nonneg h.1] at this;exact this
def rl (N:Nat)(w:MT)(v:MQ)(key:MM):MX:=((bZ N w v key).getD default).1
section
variable {N:Nat} (hN:20000≤N) {v:MQ} {i:Nat} (hv:v.Kind=7) (hvN:v.N=2*i+1) {k:Nat} (hk:k≤1000000000) {w:MT} {c:MY} {l:List (MM×Int)} (h:InvC N i k w c l)
include hN hv hvN hk h
theorem FJ:mP N w v=eA N (l.map (·.1)):=by
 unfold mP;rw [oY hN hv hvN hk h,bs];show Option.bind (eP N w.shapes_ c.Shape) _=_;rw [Dn N O h.ti h.obj.row,bs];cases eA N (l.map (·.1))<;>rfl
theorem GZ (hc2:c.Kind=2):nZ N w v=eA N ((gv 0 c.More++ [(⟨1,0,(⟨#[108,101,110,103,116,104]⟩:ByteArray)⟩:MM)])++l.map (·.1)):=by
 have hle:=h.obj.row.le h.ti;have hmo:=h.obj.rc.more;have hel:=qm 0 c.More;unfold nZ mG cu;rw [ns hN hv hvN hk h,bs,Nf hc2,nt,cf,bs];have he:=(uS N c hmo w v N 0 [] O O (by simp)).eq;obtain ⟨q,hq,hq2⟩:=sY hN hv hvN hk h
 have e:q.length=l.length:=by rw [←hq2,List.length_map]
 show Option.bind (eV N (jW (fun x st=>gg N w v x st)) c N ((0:Nat):Int) (none,[])) _=_;rw [he,bs,Ib,bs,List.drop_zero,List.nil_append,iN (by show (gv 0 c.More).length+1≤1099511627776;omega),hq,bs];have:=zt N w q O N 0 (gv 0 c.More++ [(⟨1,0,(⟨#[108,101,110,103,116,104]⟩:ByteArray)⟩:MM)]) O O (by rw [List.length_append,List.length_singleton];omega);rw [List.drop_zero] at this;rw [show q.map (·.Key)=l.map (·.1) by rw [←hq2,List.map_map];rfl] at this;exact this
theorem FS:dw N w v=eA N (bif decide (c.Kind=2) then (gv 0 c.More++ [(⟨1,0,(⟨#[108,101,110,103,116,104]⟩:ByteArray)⟩:MM)])++l.map (·.1) else l.map (·.1)):=by
 unfold dw;rw [D8 hN hv hvN hk h,bs];by_cases e:c.Kind=2
 ·rw [Nf e,ct,ct,GZ hN hv hvN hk h e];cases eA N _<;>rfl
 rw [Ng e,cf,cf,FJ hN hv hvN hk h];cases eA N _<;>rfl
theorem Hp:ee N w v=some (qY w (w.heap_.m_.Young.set i (jU c)))∧InvC N i k (qY w (w.heap_.m_.Young.set i (jU c))) (jU c) l:=by
 have hg:=h.good;have hrc:=h.obj.rc;have hf:=F9 hrc.fl h.obj.noP;have hlt:=h.lt;have hgc:goodC (jU c):=⟨hg.sl,hg.ml,hg.sv,hg.mv⟩;have hoc:ObjC N w.shapes_ (jU c) l:=⟨⟨hrc.kind,hrc.sh,hf.1,hrc.age,hrc.sv,hrc.mv,hrc.sl,hrc.proto,hrc.more,hrc.plain⟩,h.obj.row,h.obj.num,h.obj.nd,hf.2.1,h.obj.idx⟩;obtain ⟨w',h1,h2, -⟩:=store hN hv hvN hk h.mem h.ti h.tb h.at_ (c':=jU c) (l':=l) rfl hgc hoc;have h3:=zK N h.mem.good hv hvN O h.at_ hgc (hoc.rc.right hN);rw [h1] at h3;have e:w'=qY w (w.heap_.m_.Young.set i (jU c)):=Option.some.inj h3;rw [e] at h1 h2;refine ⟨?_,h2⟩;unfold ee oB;rw [oY hN hv hvN hk h,bs];unfold dz;show Option.bind (Option.bind (Option.bind (fu N w v (jU c)) _) _) _=_;rw [Dd,h1];rfl
theorem xd (key:MM): ∃b,bZ N w v key=some (rl N w v key,b):=by
 obtain ⟨r,h1, -⟩:=La hN hv hvN hk h key;exact ⟨r.2,by unfold rl;rw [h1];rfl⟩
theorem Em (ks:List MM)(hks:dw N w v=some ks)(hl:ks.length≤6000):jh N w v=some (ks.map (rl N w v)):=by
 have key: ∀(m j:Nat) (p:List MX),ks.length<m+j→j≤ks.length→p.length=j→mL N ks w v m p (j:Int)=some (p++(ks.drop j).map (rl N w v)):=by
  intro m
  induction m with
  |zero=>intro j p h1 h2;omega
  | succ m ih=>
   intro j p h1 h2 h3;rw [mL.eq_2];by_cases h4:j<ks.length
   ·obtain ⟨b,hb⟩:=xd hN hv hvN hk h ks[j];rw [Nf O,ct,jv h4,bs,hb,bs,iN (by rw [List.length_singleton];omega),iN (by constructor<;>omega),List.drop_eq_getElem_cons h4];have:=ih (j+1) (p++ [rl N w v ks[j]]) O O (by rw [List.length_append,List.length_singleton];omega);simp only [Int.natCast_add,Int.cast_ofNat_Int] at this;rw [this,Ni];rfl
   rw [Ng O,cf,List.drop_of_length_le O,List.map_nil,List.append_nil];rfl
 unfold jh;rw [hks,bs];exact key N 0 [] O O J
theorem Cr (ks:List MM)(hks:dw N w v=some ks)(hl:ks.length≤6000):gP N w v=some (decide (ai .i64 c.Flags 1=0)&&ks.all fun key=>decide (ai .i64 (rl N w v key).Attrs 4=0)):=by
 have key:=Bz (dR N ks w v) ks (fun key=>decide (ai .i64 (rl N w v key).Attrs 4=0)) (fun m j hj=>by
  obtain ⟨b,hb⟩:=xd hN hv hvN hk h ks[j];rw [dR.eq_2,Nf O,ct,jv hj,bs,hb,bs];unfold jR;rw [bs,iN (by constructor<;>omega)]
  cases decide (ai .i64 (rl N w v ks[j]).Attrs 4=0)<;>rfl) (fun m=>by
  rw [dR.eq_2,Ng O,cf];rfl) N O
 unfold gP io;rw [Lz hN hv hvN hk h,bs,nt,cf,FM hN hv hvN hk h,bs,hks];cases decide (ai .i64 c.Flags 1=0)
 ·rfl
 show Option.bind (dR N ks w v N 0) _=_;rw [key];rfl
theorem CL (ks:List MM)(hks:dw N w v=some ks)(hl:ks.length≤6000):fN N w v=some (decide (ai .i64 c.Flags 1=0)&&ks.all fun key=>decide (ai .i64 (rl N w v key).Attrs 5=0)):=by
 have key:=Bz (dS N ks w v) ks (fun key=>decide (ai .i64 (rl N w v key).Attrs 5=0)) (fun m j hj=>by
  obtain ⟨b,hb⟩:=xd hN hv hvN hk h ks[j];rw [dS.eq_2,Nf O,ct,jv hj,bs,hb,bs];unfold jS;rw [bs,iN (by constructor<;>omega)]
  cases decide (ai .i64 (rl N w v ks[j]).Attrs 5=0)<;>rfl) (fun m=>by
  rw [dS.eq_2,Ng O,cf];rfl) N O
 unfold fN ip;rw [Lz hN hv hvN hk h,bs,nt,cf,FM hN hv hvN hk h,bs,hks];cases decide (ai .i64 c.Flags 1=0)
 ·rfl
 show Option.bind (dS N ks w v N 0) _=_;rw [key];rfl
end
theorem Fq (N:Nat)(a b:List MX)(hl:a.length<N)(hl2:a.length≤100000):pY N a b=some (decide (a=b)):=by
 unfold pY;by_cases e:a.length=b.length
 ·rw [Nf O,nt,cf]
  rw [FQ (oV N a b) a b (some false) (some true) e (fun m j h1 h2=>by
   rw [oV.eq_2,Nf O,ct,jv h1,bs,jv h2,bs,iN (by constructor<;>omega)]
   cases decide (a[j]=b[j])<;>rfl) (fun m=>by rw [oV.eq_2,Ng O,cf];rfl) N hl]
  cases decide (a=b)<;>rfl
 rw [Ng O,nf,ct,Ng fun h=>e (by rw [h])]
def dp (fr:Bool)(a:Int):Int:=bif fr&&decide (ai .i64 (aZ .i64 a 4) 8=0) then aZ .i64 (aZ .i64 a 4) 1 else aZ .i64 a 4
def db (fr:Bool)(p:MX):MX:=⟨p.Key,dp fr p.Attrs,p.Value,p.Get,p.Set⟩
theorem F1: ∀a:_root_.Fin 16,ai .i64 (a.val:Int) 9≠9→(dp false (a.val:Int)=(a.val:Int)↔ai .i64 (a.val:Int) 4=0)∧(dp true (a.val:Int)=(a.val:Int)↔ai .i64 (a.val:Int) 5=0):=by decide+kernel
theorem BF {a:Int}(h:fV a):(dp false a=a↔ai .i64 a 4=0)∧(dp true a=a↔ai .i64 a 5=0):=by
 have h0:=h.1;have h1:=h.2.1;have:=F1 ⟨a.toNat,by omega⟩;simp only [Int.toNat_of_nonneg h0] at this;exact this h.2.2
end
section
open Go.RowKit
theorem Ia (N:Nat)(w:MT){x:MQ}(hl: ¬(x.Kind=7∨x.Kind=9)):bV N w x=some ⟨0,0,0,0,[],[]⟩:=by
 unfold bV;rw [pH,bs,Ng fun h=>hl (.inl h),Ng fun h=>hl (.inr h)];rfl
section
variable {N:Nat} (hN:20000≤N) {v:MQ} {i:Nat} (hv:v.Kind=7) (hvN:v.N=2*i+1) {k:Nat} (hk:k≤1000000000) {w:MT} {c:MY} {l:List (MM×Int)} (h:InvC N i k w c l)
 (h':InvC N i k (qY w (w.heap_.m_.Young.set i (jU c))) (jU c) l)
include hN hv hvN hk h h'
end
section
variable {N:Nat} (hN:20000≤N) {v:MQ} {i:Nat} (hv:v.Kind=7) (hvN:v.N=2*i+1) {k:Nat} (hk:k+100000000≤1000000000)
include hN hv hvN hk
end
end
section
open Go.RowKit
def v0:MQ:=⟨0,0,⟨#[]⟩⟩
def AT (N:Nat)(Y:List MY)(x g s:MQ):Prop:= ∃(j:Nat) (a:Int),x=⟨9,2*(j:Int)+1,⟨#[]⟩⟩∧Y[j]? =some ⟨5,0,0,a,[g,s],[]⟩∧dD N ⟨5,0,0,0,[g,s],[]⟩=some true
def SlotP (N:Nat)(Y:List MY)(p:MX)(x:MQ):Prop:=
 (ai .i64 p.Attrs 8=0∧p.Value=x∧p.Get=v0∧p.Set=v0∧x.Kind≠7∧x.Kind≠9)∨
 (ai .i64 p.Attrs 8≠0∧p.Value=v0∧((x=v0∧p.Get=v0∧p.Set=v0)∨AT N Y x p.Get p.Set))
def De (g s:MQ):MY:=⟨5,0,0,0,[g,s],[]⟩
def iP (p:MX):MX:=bif decide (ai .i64 p.Attrs 8=0) then ⟨p.Key,p.Attrs,p.Value,v0,v0⟩ else ⟨p.Key,p.Attrs,v0,p.Get,p.Set⟩
def rk (N:Nat)(p:MX):Prop:=ai .i64 p.Attrs 8=0∨dD N (De p.Get p.Set)=some true
theorem F2 {p:MX}{N:Nat}(hp:propV N p):goodC (De p.Get p.Set):=⟨by show 2≤5000;decide,by show 0≤5000;decide,fun x hx=>by
  rcases List.mem_cons.1 hx with rfl|hx
  ·exact hp.g
  ·rw [List.mem_singleton] at hx;subst hx;exact hp.s,by intro x hx;cases hx⟩
structure Slotted (N i:Nat) (k:Nat) (w:MT) (p:MX) (old:MQ) (r:MQ×MT):Prop where
 mem:Mem r.2 (k+1)
 tab:r.2.shapes_=w.shapes_
 ok:vH N r.1
 prop: ∃p',p'.Key=p.Key∧p'.Attrs=p.Attrs∧SlotP N r.2.heap_.m_.Young p' r.1∧(rk N p→p'=iP p)
 fresh:r.1.Kind=9→r.1=old∨r.1.N=2*(w.heap_.m_.Young.length:Int)+1
 rest: ∀m:Nat,m<w.heap_.m_.Young.length→(old.Kind=9→old.N≠2*(m:Int)+1)→r.2.heap_.m_.Young[m]? =w.heap_.m_.Young[m]?
theorem wG {N:Nat}(hN:20000≤N){i k:Nat}(hk:k+1≤1000000000){w:MT}(hm:Mem w k){c':MY}{v':MQ}{p:MX}(hp:propV N p)(hd:ai .i64 p.Attrs 8=0→p.Value.Kind≠7∧p.Value.Kind≠9){old:MQ}(ho:vH N old)(hold:old.Kind≠9∨ ∃g s,AT N w.heap_.m_.Young old g s):Sat (gu N ⟨c',w,v'⟩ p old) (Slotted N i k w p old):=by
 unfold gu;have hgp:=F2 hp
 refine bh (fun e=>ab ⟨pE hm O,J,hp.v,⟨⟨p.Key,p.Attrs,p.Value,v0,v0⟩,J,J,.inl ⟨e,J,J,J,(hd e).1,(hd e).2⟩,fun _=>by unfold iP;rw [Nf e];rfl⟩,fun h=>absurd h (hd e).2,fun _ _ _=>J⟩) fun e=> ?_
 have hr:=Fu N hN (De p.Get p.Set) (.inr (.inr rfl)) hgp.sl hgp.ml;obtain ⟨b,hb, -⟩:=hr
 have hnorm:iP p=⟨p.Key,p.Attrs,v0,p.Get,p.Set⟩:=by unfold iP;rw [Ng e];rfl
 have hbad:b=false→ ¬rk N p:=fun hbf h=>by
  rcases h with h|h
  ·exact e h
  rw [hb,hbf] at h;cases h
 rcases hold with h9|⟨g,s,j,a,rfl,hj,hrt⟩
 ·rw [Ng h9,cf,bs,cf];show Sat (Option.bind (fL N w (⟨5,0,0,0,([p.Get,p.Set]:List MQ),[]⟩:MY)) _) _;unfold fL gJ;rw [show ce N w.heap_=some false from rfl,bs,cf,show dD N (⟨5,0,0,0,([p.Get,p.Set]:List MQ),[]⟩:MY)=some b from hb,bs];have hlen:=hm.len
  cases b with
  |false=>
   exact ab ⟨pE hm O,J,ux N,⟨⟨p.Key,p.Attrs,v0,v0,v0⟩,J,J,.inr ⟨e,J,.inl ⟨J,J,J⟩⟩,fun h=>absurd h (hbad J)⟩,fun h=>by exact absurd h (by show¬(0:Int)=9;decide),fun _ _ _=>rfl⟩
  | true=>
   rw [nt,cf,t8 N (show goodC ⟨5,0,0,0,([p.Get,p.Set]:List MQ),[]⟩ from hgp),bs];rw [iN (by unfold gQ;rw [List.length_singleton];omega),iN (by rw [List.length_append,List.length_singleton];constructor<;>omega),iN (by rw [List.length_append,List.length_singleton];constructor<;>omega),bs]
   have e1:2*(((w.heap_.m_.Young++([(⟨5,0,0,0,[p.Get,p.Set],[]⟩:MY)]:List MY)).length:Nat):Int) - 1=2*(w.heap_.m_.Young.length:Int)+1:=by rw [List.length_append,List.length_singleton];omega
   show Sat (some ((⟨9,2*(((w.heap_.m_.Young++([(⟨5,0,0,0,[p.Get,p.Set],[]⟩:MY)]:List MY)).length:Nat):Int) - 1,⟨#[]⟩⟩:MQ),qY w (w.heap_.m_.Young++ [(⟨5,0,0,0,[p.Get,p.Set],[]⟩:MY)]))) _;rw [e1];refine ab ⟨⟨hm.old,fun x hx=> ?_,?_⟩,J,⟨⟨by show _≤2*(w.heap_.m_.Young.length:Int)+1;omega,by show 2*(w.heap_.m_.Young.length:Int)+1≤_;omega⟩,FO N O⟩,⟨⟨p.Key,p.Attrs,v0,p.Get,p.Set⟩,J,J,.inr ⟨e,J,.inr ⟨w.heap_.m_.Young.length,0,J,?_,hb⟩⟩,fun _=>hnorm.symm⟩,fun _=> .inr J,fun m hm' _=> ?_⟩
   ·rcases List.mem_append.1 hx with hx|hx
    ·exact hm.good x hx
    rw [List.mem_singleton] at hx;subst hx;exact hgp
   ·show (w.heap_.m_.Young++ [_]).length≤_;rw [List.length_append,List.length_singleton];omega
   ·show (w.heap_.m_.Young++ [_])[w.heap_.m_.Young.length]? =_;simp
   show (w.heap_.m_.Young++ [_])[m]? =_;rw [List.getElem?_append_left hm']
 have hlt:=(List.getElem?_eq_some_iff.1 hj).1;have hlen:=hm.len;rw [Nf (show (9:Int)=9 from rfl),ct];rw [wr N hm.good (x:=⟨9,2*(j:Int)+1,⟨#[]⟩⟩) (.inr rfl) rfl O hj,bs];show Sat (Option.bind (some true) _) _;rw [bs,ct];show Sat (Option.bind (bH N w ⟨9,2*(j:Int)+1,⟨#[]⟩⟩ (⟨5,0,0,0,([p.Get,p.Set]:List MQ),[]⟩:MY)) _) _;unfold bH lw;rw [pH,bs];show Sat (Option.bind (Option.bind (Option.bind (ce N w.heap_) _) _) _) _;rw [show ce N w.heap_=some false from rfl,bs,cf,Ac N _ j hlt O,bs,nt,cf,show dD N (⟨5,0,0,0,([p.Get,p.Set]:List MQ),[]⟩:MY)=some b from hb,bs]
 cases b with
 |false=>
  exact ab ⟨pE hm O,J,ho,⟨⟨p.Key,p.Attrs,v0,g,s⟩,J,J,.inr ⟨e,J,.inr ⟨j,a,J,hj,hrt⟩⟩,fun h=>absurd h (hbad J)⟩,fun _=> .inl J,fun _ _ _=>J⟩
 | true=>
  rw [nt,cf,uO N _ j hlt O,bs];show Sat (Option.bind (Option.bind (Option.bind (bR w.heap_.m_.Young (j:Int)) _) _) _) _;rw [jv hlt,bs,(List.getElem?_eq_some_iff.1 hj).2,t8 N (show goodC ⟨5,0,0,0,([p.Get,p.Set]:List MQ),[]⟩ from hgp),bs,Ng (show¬(2*(j:Int)+1).tmod 2=0 by have:=(zQ j).1;omega),cf];unfold iG;rw [bs,bs];simp only [Int.toNat_natCast,List.set_set];show Sat (some ((⟨9,2*(j:Int)+1,⟨#[]⟩⟩:MQ),qY w (w.heap_.m_.Young.set j ⟨5,0,0,a,[p.Get,p.Set],[]⟩))) _;refine ab ⟨⟨hm.old,fun x hx=> ?_,?_⟩,J,ho,⟨⟨p.Key,p.Attrs,v0,p.Get,p.Set⟩,J,J,.inr ⟨e,J,.inr ⟨j,a,J,List.getElem?_set_self hlt,hb⟩⟩,fun _=>hnorm.symm⟩,fun _=> .inl J,fun m hm' hne=> ?_⟩
  ·rcases List.mem_or_eq_of_mem_set hx with hx|rfl
   ·exact hm.good x hx
   exact ⟨hgp.sl,hgp.ml,hgp.sv,hgp.mv⟩
  ·show (w.heap_.m_.Young.set j _).length≤_;rw [List.length_set];omega
  show (w.heap_.m_.Young.set j _)[m]? =_;rw [List.getElem?_set_ne];intro e2;subst e2;exact hne J J
def mQ (p:MX):MM×Int:=(p.Key,p.Attrs)
structure ObjP (N:Nat) (Y:List MY) (i:Nat) (c:MY) (PL:List MX):Prop where
 num:c.Slots.length=PL.length+1
 each: ∀(n:Nat) p,PL[n]? =some p→ ∃x,c.Slots[n+1]? =some x∧SlotP N Y p x
 inj: ∀(n m:Nat) x,n≠m→c.Slots[n+1]? =some x→c.Slots[m+1]? =some x→x.Kind≠9
 own: ∀(n:Nat) x,c.Slots[n+1]? =some x→x.Kind=9→x.N≠2*(i:Int)+1
theorem SlotP.move {N:Nat}{Y Y':List MY}{p:MX}{x:MQ}(h:SlotP N Y p x)(hY: ∀j:Nat,x.Kind=9→x.N=2*(j:Int)+1→j<Y.length→Y'[j]? =Y[j]?):SlotP N Y' p x:=by
 rcases h with h|⟨h1,h2,h3|⟨j,a,rfl,hj,hrt⟩⟩
 ·exact .inl h
 ·exact .inr ⟨h1,h2,.inl h3⟩
 exact .inr ⟨h1,h2,.inr ⟨j,a,J,by rw [hY j rfl rfl (List.getElem?_eq_some_iff.1 hj).1];exact hj,hrt⟩⟩
section
variable {N:Nat} (hN:20000≤N) {v:MQ} {i:Nat} (hv:v.Kind=7) (hvN:v.N=2*i+1) {k:Nat} (hk:k≤1000000000) {w:MT} {c:MY} {PL:List MX} (h:InvC N i k w c (PL.map mQ)) (hp:ObjP N w.heap_.m_.Young i c PL)
include hN hv hvN hk h hp
omit hN hv hvN in
theorem Hh (n:Nat)(p:MX)(hn:PL[n]? =some p):eu N ⟨c,w,v⟩ (n:Int) p.Key p.Attrs=some p:=by
 obtain ⟨x,hx,hs⟩:=hp.each n p hn;have hlt:=(List.getElem?_eq_some_iff.1 hx).1;have hnum:=hp.num;have hle:=h.obj.row.le h.ti;have hnl:=(List.getElem?_eq_some_iff.1 hn).1;rw [List.length_map] at hle;have hlen:=h.mem.len;unfold eu;rw [iN (by constructor<;>omega)];show (bif decide ((c.Slots.length:Int)≤(n:Int)+1) then _ else dq _ (Option.bind (bR c.Slots ((n:Int)+1)) _))=_;rw [Ng O,cf,iN (by constructor<;>omega),show bR c.Slots ((n:Int)+1)=some x by unfold bR;rw [if_neg O,show ((n:Int)+1).toNat=n+1 by omega];exact hx,bs];rcases hs with ⟨h1,h2,h3,h4, -⟩|⟨h1,h2,⟨rfl,h3,h4⟩|⟨j,a,rfl,hj, -⟩⟩
 ·rw [Nf h1,ct, ←h2];obtain ⟨pk,pa,pv,pg,ps⟩:=p;simp only at h3 h4;rw [h3,h4];rfl
 ·rw [Ng h1,cf];show Option.bind (bV N w v0) _=_;rw [Ia N w (by show¬((0:Int)=7∨(0:Int)=9);decide),bs];obtain ⟨pk,pa,pv,pg,ps⟩:=p;simp only at h2 h3 h4;rw [h2,h3,h4];rfl
 rw [Ng h1,cf];show Option.bind (bV N w ⟨9,2*(j:Int)+1,⟨#[]⟩⟩) _=_;have:=(List.getElem?_eq_some_iff.1 hj).1;rw [wr N h.mem.good (.inr rfl) rfl O hj,bs];obtain ⟨pk,pa,pv,pg,ps⟩:=p;simp only at h2;rw [h2];rfl
def Ju (PL:List MX)(key:MM)(r:MX×Int×Bool):Prop:=(r.2.2=false∧r.1.Attrs=0∧ ∀p∈PL,p.Key≠key)∨ ∃n:Nat,r.2.1=n∧r.2.2=true∧PL[n]? =some r.1∧r.1.Key=key
omit hv hvN in
theorem sS (key:MM):Sat (bn N ⟨c,w,v⟩ key) (Ju PL key):=by
 unfold bn cK;rw [bs]
 refine (sa N O h.ti h.obj.row key).bind fun z hz=> ?_
 rcases hz with ⟨rfl,hz⟩|⟨n,z1,z2,z3⟩
 ·exact ab (.inl ⟨J,J,fun p hp'=>hz _ (List.mem_map_of_mem hp')⟩)
 rw [List.getElem?_map] at z3
 cases e:PL[n]? with
 |none=>rw [e] at z3;cases z3
 |some p=>
  rw [e] at z3;have e1:p.Key=key:=congrArg Prod.fst (Option.some.inj z3);have e2:p.Attrs=z.2.1:=congrArg Prod.snd (Option.some.inj z3);rw [z2];show Sat (Option.bind _ _) _;have:=Hh (v:=v) hk h hp n p e;rw [e1,e2] at this;rw [z1,this,bs];exact ab (.inr ⟨n,J,J,e,e1⟩)
theorem Cy (key:MM):Sat (dP N w v key) fun r=>(r.2=false∧r.1.Attrs=0∧ ∀p∈PL,p.Key≠key)∨(r.2=true∧r.1∈PL∧r.1.Key=key):=by
 unfold dP;rw [oY hN hv hvN hk h,bs];show Sat (Option.bind (bn N ⟨c,w,v⟩ key) _) _
 refine (sS (v:=v) hN hk h hp key).bind fun r hr=>ab ?_
 rcases hr with ⟨r1,r2,r3⟩|⟨n,r1,r2,r3,r4⟩
 ·exact .inl ⟨r1,r2,r3⟩
 exact .inr ⟨r2,List.mem_of_getElem? r3,r4⟩
end
end
section
open Go.RowKit
theorem ObjP.nine {N:Nat}{Y:List MY}{i:Nat}{c:MY}{PL:List MX}(h:ObjP N Y i c PL){n:Nat}{x:MQ}(hx:c.Slots[n+1]? =some x)(h9:x.Kind=9): ∃g s,AT N Y x g s:=by
 have hn:n<PL.length:=by have:=(List.getElem?_eq_some_iff.1 hx).1;have:=h.num;omega
 obtain ⟨x',h1,h2⟩:=h.each n PL[n] (List.getElem?_eq_getElem hn);have:x'=x:=Option.some.inj (h1.symm.trans hx);subst this;rcases h2 with ⟨-, -, -, -, -,h3⟩|⟨-, -,⟨rfl, -, -⟩|h3⟩
 ·exact absurd h9 h3
 ·exact absurd h9 (by show¬(0:Int)=9;decide)
 exact ⟨_,_,h3⟩
theorem ObjP.not9 {N:Nat}{Y:List MY}{i:Nat}{c:MY}{PL:List MX}(h:ObjP N Y i c PL){n:Nat}{x:MQ}(hx:c.Slots[n+1]? =some x):x.Kind≠9∨ ∃g s,AT N Y x g s:=by
 by_cases e:x.Kind=9
 ·exact .inr (h.nine hx e)
 exact .inl e
section
variable {N:Nat} (hN:20000≤N) {v:MQ} {i:Nat} (hv:v.Kind=7) (hvN:v.N=2*i+1)
include hN hv hvN
theorem At {k:Nat}(hk:k≤1000000000){w:MT}{c c':MY}{l':List (MM×Int)}(hm:Mem w k)(hti:TI N w.shapes_)(htb:w.shapes_.shapes_.length≤k)(hat:w.heap_.m_.Young[i]? =some c)(hage:c'.Age=c.Age)(hg:goodC c')(ho:ObjC N w.shapes_ c' l')(b:Bool):dz N ⟨c',w,v⟩ b=some ⟨c',qY w (w.heap_.m_.Young.set i c'),v⟩∧InvC N i k (qY w (w.heap_.m_.Young.set i c')) c' l':=by
 have hlt:=(List.getElem?_eq_some_iff.1 hat).1;have:=hm.len;obtain ⟨w',h1,h2, -⟩:=store hN hv hvN hk hm hti htb hat hage hg ho;have h3:=zK N hm.good hv hvN O hat hg (ho.rc.right hN);rw [h1] at h3
 have e:w'=qY w (w.heap_.m_.Young.set i c'):=by
  rw [Option.some.inj h3, ←hage]
 subst e;refine ⟨?_,h2⟩;unfold dz;show Option.bind (fu N w v c') _=_;rw [Dd,h1,bs];show Option.bind (bif b then some (!decide (ai .i64 c'.Flags 16=0)) else some false) _=_;rw [Nf ho.noP];cases b<;>rfl
omit hN hv hvN in
theorem Br {w:MT}{c:MY}{PL:List MX}(hp:ObjP N w.heap_.m_.Young i c PL){k:Nat}(hi:i<w.heap_.m_.Young.length){p:MX}{old:MQ}{q:MQ×MT}(hq:Slotted N i k w p old q)(p':MX)(hp':SlotP N q.2.heap_.m_.Young p' q.1)(c':MY)(sl:List MQ)(n:Nat)(PL':List MX)
  (hnum:sl.length=PL'.length+1) (hold:old.Kind≠9∨c.Slots[n+1]? =some old)
  (h1:sl[n+1]? =some q.1) (h2:PL'[n]? =some p') (h3: ∀m,m≠n→sl[m+1]? =c.Slots[m+1]?) (h4: ∀m,m≠n→PL'[m]? =PL[m]?) (hsl:c'.Slots=sl):ObjP N (q.2.heap_.m_.Young.set i c') i c' PL':=by
 have hoth: ∀m x,m≠n→c.Slots[m+1]? =some x→x.Kind=9→ ∀j:Nat,x.N=2*(j:Int)+1→(old.Kind=9→old.N≠2*(j:Int)+1):=by
  intro m x hmn hx h9 j hj ho9 hoj;rcases hold with ho|ho
  ·exact ho ho9
  obtain ⟨g,s,j1,a,e1, -, -⟩:=hp.nine hx h9;obtain ⟨g',s',j2,a',e2, -, -⟩:=hp.nine ho ho9
  have:x=old:=by
   rw [e1,e2];rw [e1] at hj;rw [e2] at hoj;have h5:2*(j1:Int)+1=2*(j:Int)+1:=hj;have h6:2*(j2:Int)+1=2*(j:Int)+1:=hoj;rw [h5,h6]
  subst this;exact hp.inj m n x hmn hx ho h9
 have hnew:q.1.Kind=9→q.1.N≠2*(i:Int)+1:=fun h9=>by
  rcases hq.fresh h9 with e|e
  ·rcases hold with ho|ho
   ·exact absurd (by rw [←e];exact h9) ho
   rw [e];exact hp.own n old ho (by rw [←e];exact h9)
  rw [e];omega
 have hset: ∀(j:Nat),(j:Int)≠i→(q.2.heap_.m_.Young.set i c')[j]? =q.2.heap_.m_.Young[j]? :=fun j hj=>List.getElem?_set_ne O
 refine ⟨by rw [hsl];exact hnum,fun m r hr=> ?_,fun m1 m2 x hne hx1 hx2 h9=> ?_,fun m x hx h9=> ?_⟩
 ·by_cases e:m=n
  ·subst e;have:r=p':=Option.some.inj (hr.symm.trans h2);subst this;refine ⟨q.1,by rw [hsl];exact h1,hp'.move fun j h9 hj _=>hset j fun e=>hnew h9 (by rw [hj,e])⟩
  rw [h4 m e] at hr;obtain ⟨x,hx,hs⟩:=hp.each m r hr;refine ⟨x,by rw [hsl,h3 m e];exact hx,(hs.move fun j h9 hj hlt=>hq.rest j hlt (hoth m x e hx h9 j hj)).move fun j h9 hj _=>hset j fun e2=>hp.own m x hx h9 (by rw [hj,e2])⟩
 ·rw [hsl] at hx1 hx2
  have key: ∀m x,m≠n→sl[m+1]? =some x→sl[n+1]? =some x→x.Kind=9→False:=by
   intro m x hm hx hxn h9;rw [h1] at hxn;have hxq:q.1=x:=Option.some.inj hxn;rw [h3 m hm] at hx;rcases hq.fresh (by rw [hxq];exact h9) with e|e
   ·rcases hold with ho|ho
    ·exact ho (by rw [←e,hxq];exact h9)
    exact hp.inj m n x hm hx (by rw [←hxq,e];exact ho) h9
   obtain ⟨g,s,j,a,e1,hj, -⟩:=hp.nine hx h9;have:=(List.getElem?_eq_some_iff.1 hj).1;rw [hxq,e1] at e;have h5:2*(j:Int)+1=2*(w.heap_.m_.Young.length:Int)+1:=e;omega
  by_cases e1:m1=n
  ·subst e1;exact key m2 x (Ne.symm hne) hx2 hx1 h9
  by_cases e2:m2=n
  ·subst e2;exact key m1 x e1 hx1 hx2 h9
  rw [h3 m1 e1] at hx1;rw [h3 m2 e2] at hx2;exact hp.inj m1 m2 x hne hx1 hx2 h9
 rw [hsl] at hx;by_cases e:m=n
 ·subst e;rw [h1] at hx;have hxq:q.1=x:=Option.some.inj hx;rw [←hxq];exact hnew (by rw [hxq];exact h9)
 rw [h3 m e] at hx;exact hp.own m x hx h9
end
end
section
open Go.RowKit
structure Obj (N i k:Nat) (w:MT) (c:MY) (PL:List MX):Prop where
 inv:InvC N i k w c (PL.map mQ)
 obj:ObjP N w.heap_.m_.Young i c PL
theorem Obj.more {N i k k':Nat}{w:MT}{c:MY}{PL:List MX}(h:Obj N i k w c PL)(hk:k≤k'):Obj N i k' w c PL:=⟨h.inv.more hk,h.obj⟩
def AS (N:Nat)(p p':MX):Prop:=p'.Key=p.Key∧p'.Attrs=p.Attrs∧(rk N p→p'=iP p)
def Put (PL PL':List MX)(p':MX):Prop:=((∀q∈PL,q.Key≠p'.Key)∧PL'=PL++ [p'])∨ ∃(n:Nat) (q:MX),PL[n]? =some q∧q.Key=p'.Key∧PL'=PL.set n p'
def xK (p:MX):Prop:=ai .i64 p.Attrs 8=0→p.Value.Kind≠7∧p.Value.Kind≠9
section
variable {N:Nat} (hN:20000≤N) {v:MQ} {i:Nat} (hv:v.Kind=7) (hvN:v.N=2*i+1)
include hN hv hvN
variable {k:Nat} {w:MT} {c:MY} {PL:List MX} (h:Obj N i k w c PL)
include h
theorem wD (hk:k+1100≤1000000000){p:MX}(hp:propV N p)(hd:xK p)(hidx:c.Kind=2→p.Key.Kind=0→p.Key.N<c.More.length)(hR:keyR N p.Key)(hM:fV p.Attrs)(hlen:(∃q∈PL,q.Key=p.Key)∨PL.length<1024):Sat (cP N ⟨c,w,v⟩ p) fun r=>r.1=true∧ ∃c' p' PL',AS N p p'∧Put PL PL' p'∧Obj N i (k+1024) r.2.w_ c' PL'∧c'.Kind=c.Kind∧c'.More=c.More∧c'.Flags=c.Flags:=by
 have hI:=h.inv;have hle:=hI.obj.row.le hI.ti;rw [List.length_map] at hle
 have hb:w.shapes_.shapes_.length+1024≤1073741824:=by have:=hI.tb;omega
 obtain ⟨z,z1,z2⟩:=hI.obj.rc.proto;have hrc:=hI.obj.rc;have hg:=hI.good;have hsl:=h.obj.num;have hilt:=(List.getElem?_eq_some_iff.1 hI.at_).1;unfold cP;show Sat (Option.bind (bn N ⟨c,w,v⟩ p.Key) _) _
 refine (sS (v:=v) hN O hI h.obj p.Key).bind fun y hy=> ?_
 rcases hy with ⟨e1, -,hno⟩|⟨n,e1,e2,hn,hnk⟩
 ·rw [e1]
  have hlen':PL.length<1024:=by
   rcases hlen with ⟨q,q1,q2⟩|h'
   ·exact absurd q2 (hno q q1)
   exact h'
  obtain ⟨s,s1,s2⟩:=hI.obj.row.has hI.ti;rw [List.length_map] at s2;show Sat (Option.bind (ez N w.shapes_ c.Shape) _) _;rw [zW N s1,bs]
  refine bh (fun h3=>by omega) fun h3=> ?_
  refine (Dh N O hI.ti hb hI.obj.row p.Key p.Attrs (fun x hx=>by
   obtain ⟨q,q1,q2⟩:=List.mem_map.1 hx
   rw [←q2];exact hno q q1) (by rw [List.length_map];omega)).bind fun r hr=> ?_
  rcases hr with ⟨r1,r2,r3,r4,r5⟩|⟨r1,r2,r3⟩
  ·rw [r3];show Sat (Option.bind _ _) _;have hm1:Mem (Cp w r.2.2) k:=⟨hI.mem.old,hI.mem.good,hI.mem.len⟩
   refine (wG (i:=i) (w:=Cp w r.2.2) hN O hm1 (c':=⟨c.Kind,r.1,c.Flags,c.Age,c.Slots,c.More⟩) (v':=v) hp hd (ux N) (.inl (by show¬(0:Int)=9;decide))).bind fun q hq=> ?_
   obtain ⟨p',p1,p2,p3,p4⟩:=hq.prop
   have q4:q.2.heap_.m_.Young[i]? =some c:=by rw [hq.rest i hilt (fun h9=>absurd h9 (by show¬(0:Int)=9;decide))];exact hI.at_
   refine aQ (by unfold gQ;rw [List.length_singleton];show c.Slots.length+1≤_;omega) ?_;unfold kq
   have hlen2:(c.Slots++ [q.1]).length=c.Slots.length+1:=by rw [List.length_append,List.length_singleton]
   have hgc:goodC ⟨c.Kind,r.1,c.Flags,c.Age,c.Slots++ [q.1],c.More⟩:=⟨by show (c.Slots++ [q.1]).length≤5000;omega,hg.ml,fun x hx=>by
    rcases List.mem_append.1 hx with hx|hx
    ·exact hg.sv x hx
    ·rw [List.mem_singleton] at hx;subst hx;exact hq.ok.1,hg.mv⟩
   have hmap:(PL++ [p']).map mQ=PL.map mQ++ [(p.Key,p.Attrs)]:=by rw [List.map_append];show _++ [(p'.Key,p'.Attrs)]=_;rw [p1,p2]
   have hoc:ObjC N q.2.shapes_ ⟨c.Kind,r.1,c.Flags,c.Age,c.Slots++ [q.1],c.More⟩ ((PL++ [p']).map mQ):=by
    rw [hq.tab,hmap];refine ⟨⟨hrc.kind,?_,hrc.fl,hrc.age,fun x hx=> ?_,hrc.mv,by show (c.Slots++ [q.1]).length≤1025;omega,⟨z,?_,z2⟩,hrc.more,hrc.plain⟩,r5,by show (c.Slots++ [q.1]).length=_;rw [hlen2,hsl,List.length_append,List.length_singleton,List.length_map],?_,hI.obj.noP,fun hk2 x hx h0=> ?_⟩
    ·obtain ⟨s',s1', -⟩:=r5.has r4.ti;exact s1'.1
    ·rcases List.mem_append.1 hx with hx|hx
     ·exact hrc.sv x hx
     rw [List.mem_singleton] at hx;subst hx;exact hq.ok.2
    ·show (c.Slots++ [q.1])[0]? =some z;rw [List.getElem?_append_left (List.getElem?_eq_some_iff.1 z1).1];exact z1
    ·rw [List.map_append];refine List.nodup_append.2 ⟨hI.obj.nd,by simp,fun a ha b hb' e=> ?_⟩;rw [List.map_singleton,List.mem_singleton] at hb';obtain ⟨x,x1,x2⟩:=List.mem_map.1 ha;obtain ⟨u,u1,u2⟩:=List.mem_map.1 x1
     have hua:u.Key=a:=by rw [←x2, ←u2];rfl
     exact hno u u1 (by rw [hua,e,hb'])
    rcases List.mem_append.1 hx with hx|hx
    ·exact hI.obj.idx hk2 x hx h0
    rw [List.mem_singleton] at hx;subst hx;exact hidx hk2 h0
   obtain ⟨g1,g2⟩:=At (w:=q.2) hN hv hvN (k:=k+1024) O (pE hq.mem O) (by rw [hq.tab];exact r4.ti) (by rw [hq.tab];have:=r4.num;have:=hI.tb;show r.2.2.shapes_.length≤_;omega) q4 (c':=⟨c.Kind,r.1,c.Flags,c.Age,c.Slots++ [q.1],c.More⟩) rfl hgc hoc true
   refine Sat.bind ⟨_,g1,J⟩ fun u hu=> ?_
   rw [←hu];refine ab ⟨J,_,p',PL++ [p'],⟨p1,p2,p4⟩,.inl ⟨fun u hu=>by rw [p1];exact hno u hu,rfl⟩,⟨g2,?_⟩,J,J,J⟩;refine Br (w:=Cp w r.2.2) h.obj hilt hq p' p3 _ (c.Slots++ [q.1]) PL.length (PL++ [p']) (by rw [hlen2,hsl,List.length_append,List.length_singleton]) (.inl (by show¬(0:Int)=9;decide)) (by rw [←hsl,List.getElem?_append_right (Nat.le_refl _),Nat.sub_self];rfl) (by rw [List.getElem?_append_right (Nat.le_refl _),Nat.sub_self];rfl) (fun m hm=> ?_) (fun m hm=> ?_) J
   ·by_cases e:m+1<c.Slots.length
    ·rw [List.getElem?_append_left e]
    rw [List.getElem?_eq_none (by rw [hlen2];omega),List.getElem?_eq_none O]
   by_cases e:m<PL.length
   ·rw [List.getElem?_append_left e]
   rw [List.getElem?_eq_none (by rw [List.length_append,List.length_singleton];omega),List.getElem?_eq_none O]
  exact absurd ⟨hR,hM⟩ r1
 rw [e2];have hlt:=(List.getElem?_eq_some_iff.1 hn).1
 have hnl:(PL.map mQ)[n]? =some (p.Key,y.1.Attrs):=by rw [List.getElem?_map,hn];show some (y.1.Key,y.1.Attrs)=_;rw [hnk]
 obtain ⟨x,hx,hsx⟩:=h.obj.each n y.1 hn
 have hj81: ∀(sh:Int) (t':MU),Grow N w.shapes_ t' 1024→Row t' sh ((PL.map mQ).set n (p.Key,p.Attrs))→Sat (f7 N y p ⟨c,w,v⟩ sh t'.shapes_ t'.next_) fun r=>r.1=true∧ ∃c' p' PL',AS N p p'∧Put PL PL' p'∧Obj N i (k+1024) r.2.w_ c' PL'∧c'.Kind=c.Kind∧c'.More=c.More∧c'.Flags=c.Flags:=by
  intro sh t' hgr hrow;unfold f7;rw [e1]
  have hgx:bR c.Slots ((n:Int)+1)=some x:=by unfold bR;rw [if_neg O,show ((n:Int)+1).toNat=n+1 by omega];exact hx
  refine aQ (by constructor<;>omega) (aQ (by constructor<;>omega) ?_);show Sat (Option.bind (bR c.Slots ((n:Int)+1)) _) _;rw [hgx,bs];have hxm:x∈c.Slots:=List.mem_of_getElem? hx;have hm1:Mem (Cp w t') k:=⟨hI.mem.old,hI.mem.good,hI.mem.len⟩
  refine (wG (i:=i) (w:=Cp w t') hN O hm1 (c':=⟨c.Kind,sh,c.Flags,c.Age,c.Slots,c.More⟩) (v':=v) hp hd ⟨hg.sv x hxm,hrc.sv x hxm⟩ (h.obj.not9 hx)).bind fun q hq=> ?_
  obtain ⟨p',p1,p2,p3,p4⟩:=hq.prop
  have q4:q.2.heap_.m_.Young[i]? =some c:=by rw [hq.rest i hilt (fun h9=>h.obj.own n x hx h9)];exact hI.at_
  rw [bs,show ((n:Int)+1).toNat=n+1 by omega];have hlen2:(List.set c.Slots (n+1) q.1).length=c.Slots.length:=List.length_set ..
  have hgc:goodC ⟨c.Kind,sh,c.Flags,c.Age,List.set c.Slots (n+1) q.1,c.More⟩:=⟨by show (List.set c.Slots _ q.1).length≤5000;rw [hlen2];exact hg.sl,hg.ml,fun x hx=>by
   rcases List.mem_or_eq_of_mem_set hx with hx|rfl
   ·exact hg.sv x hx
   ·exact hq.ok.1,hg.mv⟩
  have hmap:(PL.set n p').map mQ=(PL.map mQ).set n (p.Key,p.Attrs):=by rw [List.map_set];show (PL.map mQ).set n (p'.Key,p'.Attrs)=_;rw [p1,p2]
  have hkeys:((PL.map mQ).set n (p.Key,p.Attrs)).map (·.1)=(PL.map mQ).map (·.1):=by
   rw [List.map_set];refine na ?_;rw [List.getElem?_map,hnl];rfl
  have hoc:ObjC N q.2.shapes_ ⟨c.Kind,sh,c.Flags,c.Age,List.set c.Slots (n+1) q.1,c.More⟩ ((PL.set n p').map mQ):=by
   rw [hq.tab,hmap];refine ⟨⟨hrc.kind,?_,hrc.fl,hrc.age,fun x hx=> ?_,hrc.mv,by show (List.set c.Slots _ q.1).length≤1025;rw [hlen2];exact hrc.sl,⟨z,?_,z2⟩,hrc.more,hrc.plain⟩,hrow,by show (List.set c.Slots _ q.1).length=_;rw [hlen2,hsl,List.length_set,List.length_map],by rw [hkeys];exact hI.obj.nd,hI.obj.noP,fun hk2 x hx h0=> ?_⟩
   ·obtain ⟨s',s1', -⟩:=hrow.has hgr.ti;exact s1'.1
   ·rcases List.mem_or_eq_of_mem_set hx with hx|rfl
    ·exact hrc.sv x hx
    exact hq.ok.2
   ·show (List.set c.Slots _ q.1)[0]? =some z;rw [List.getElem?_set_ne O];exact z1
   have:x.1∈(PL.map mQ).map (·.1):=by rw [←hkeys];exact List.mem_map_of_mem hx
   obtain ⟨x',x1,x2⟩:=List.mem_map.1 this;have:=hI.obj.idx hk2 x' x1 (by rw [x2];exact h0);rw [x2] at this;exact this
  obtain ⟨g1,g2⟩:=At (w:=q.2) hN hv hvN (k:=k+1024) O (pE hq.mem O) (by rw [hq.tab];exact hgr.ti) (by rw [hq.tab];have:=hgr.num;have:=hI.tb;show t'.shapes_.length≤_;omega) q4 (c':=⟨c.Kind,sh,c.Flags,c.Age,List.set c.Slots (n+1) q.1,c.More⟩) rfl hgc hoc (!decide (y.1.Attrs=p.Attrs))
  refine Sat.bind ⟨_,g1,J⟩ fun u hu=> ?_
  rw [←hu];refine ab ⟨J,_,p',PL.set n p',⟨p1,p2,p4⟩,.inr ⟨n,y.1,hn,by rw [p1];exact hnk,rfl⟩,⟨g2,?_⟩,J,J,J⟩;refine Br (w:=Cp w t') h.obj hilt hq p' p3 _ (List.set c.Slots (n+1) q.1) n (PL.set n p') (by rw [hlen2,hsl,List.length_set]) (.inr hx) (List.getElem?_set_self O) (List.getElem?_set_self hlt) (fun m hm=>List.getElem?_set_ne O) (fun m hm=>List.getElem?_set_ne (Ne.symm hm)) J
 show Sat (bif !decide (y.1.Attrs=p.Attrs) then _ else _) _
 refine eK (fun e=> ?_) fun e=> ?_
 ·refine (zo N O hI.ti hb hI.obj.row hI.obj.nd p.Key p.Attrs n y.1.Attrs hnl).bind fun r hr=> ?_
  rcases hr with ⟨r1,r3,r4,r5⟩|⟨r1,r2,r3⟩
  ·rw [r3];exact hj81 r.1 r.2.2 r4 r5
  exact absurd hM r1
 refine hj81 c.Shape w.shapes_ ⟨hI.ti,Le.refl _,by omega⟩ ?_;rw [na (by rw [hnl,of_decide_eq_true e])];exact hI.obj.row
end
end
section
open Go.RowKit
def Gr:Na:=⟨32,0,v0,v0,v0⟩
def H6:Na:=⟨34,0,v0,v0,v0⟩
theorem H5 (N:Nat):descV N Gr:=⟨ux N,lz,lz⟩
theorem H4 (N:Nat):descV N H6:=⟨ux N,lz,lz⟩
def normal (p:MX):Prop:=(ai .i64 p.Attrs 8=0→p.Get=v0∧p.Set=v0)∧(ai .i64 p.Attrs 8≠0→p.Value=v0)
theorem SlotP.normal {N:Nat}{Y:List MY}{p:MX}{x:MQ}(h:SlotP N Y p x):normal p:=by
 rcases h with ⟨h1, -,h3,h4, -⟩|⟨h1,h2, -⟩
 ·exact ⟨fun _=>⟨h3,h4⟩,fun h=>absurd h1 h⟩
 exact ⟨fun h=>absurd h h1,fun _=>h2⟩
theorem E6:ai .i64 32 12=0∧ai .i64 32 3=0∧ai .i64 32 2=0∧ai .i64 32 16=0∧ai .i64 32 32=32∧ai .i64 32 1=0∧ai .i64 32 4=0∧ai .i64 32 8=0:=by decide+kernel
theorem Ls:ai .i64 34 12=0∧ai .i64 34 3=2∧ai .i64 34 2=2∧ai .i64 34 16=0∧ai .i64 34 32=32∧ai .i64 34 1=0∧ai .i64 34 4=0∧ai .i64 34 8=0:=by decide+kernel
theorem b0:ai .i64 0 4=0∧ai .i64 0 1=0∧bf .i64 0 1=1∧bf .i64 0 4=4∧bf .i64 1 4=5∧ai .i64 0 5=0:=by decide+kernel
theorem E7: ∀a:_root_.Fin 16,ai .i64 (a.val:Int) 9≠9→
  (ai .i64 (a.val:Int) 8=0→bf .i64 (aZ .i64 (bf .i64 (ai .i64 (a.val:Int) 1) (ai .i64 (a.val:Int) 6)) 4) 0=dp false (a.val:Int)∧bf .i64 (aZ .i64 (bf .i64 (ai .i64 (a.val:Int) 1) (ai .i64 (a.val:Int) 6)) 5) 0=dp true (a.val:Int))∧
  (ai .i64 (a.val:Int) 8≠0→bf .i64 (aZ .i64 (bf .i64 (bf .i64 0 (ai .i64 (a.val:Int) 6)) 8) 4) 0=dp false (a.val:Int)∧dp true (a.val:Int)=dp false (a.val:Int)):=by decide+kernel
theorem uZ {a:Int}(h:fV a):
  (ai .i64 a 8=0→bf .i64 (aZ .i64 (bf .i64 (ai .i64 a 1) (ai .i64 a 6)) 4) 0=dp false a∧bf .i64 (aZ .i64 (bf .i64 (ai .i64 a 1) (ai .i64 a 6)) 5) 0=dp true a)∧
  (ai .i64 a 8≠0→bf .i64 (aZ .i64 (bf .i64 (bf .i64 0 (ai .i64 a 6)) 8) 4) 0=dp false a∧dp true a=dp false a):=by
 have h0:=h.1;have h1:=h.2.1;have:=E7 ⟨a.toNat,by omega⟩;simp only [Int.toNat_of_nonneg h0] at this;exact this h.2.2
theorem Gw (N:Nat)(p:MX)(hp:normal p)(hm:fV p.Attrs)(k:MM):cA N p k Gr=some ⟨k,dp false p.Attrs,p.Value,p.Get,p.Set⟩:=by
 obtain ⟨c1,c2,c3,c4,c5,c6,c7,c8⟩:=E6;obtain ⟨e1,e2,e3,e4,e5,e6⟩:=b0;obtain ⟨pk,pa,pv,pg,ps⟩:=p;have ha:=uZ hm;unfold cA dk d8 dj di dh d7 eN eH eG d5 bi;by_cases h8:ai .i64 pa 8=0
 ·obtain ⟨hg,hs⟩:=hp.1 h8;simp only at hg hs;subst hg hs;simp [Gr,c1,c2,c3,c4,c5,c6,c7,c8,e1,e4,h8,(ha.1 h8).1];rfl
 have hv:=hp.2 h8;simp only at hv;subst hv;simp [Gr,c1,c2,c3,c4,c5,c6,c7,c8,e1,e4,h8,(ha.2 h8).1];rfl
theorem Gv (N:Nat)(p:MX)(hp:normal p)(hm:fV p.Attrs)(h8:ai .i64 p.Attrs 8=0)(k:MM):cA N p k H6=some ⟨k,dp true p.Attrs,p.Value,p.Get,p.Set⟩:=by
 obtain ⟨c1,c2,c3,c4,c5,c6,c7,c8⟩:=Ls;obtain ⟨e1,e2,e3,e4,e5,e6⟩:=b0;obtain ⟨pk,pa,pv,pg,ps⟩:=p;have ha:=uZ hm;unfold cA dk d8 dj di dh d7 eN eH eG d5 bi;obtain ⟨hg,hs⟩:=hp.1 h8;simp only at hg hs h8;subst hg hs;simp [H6,c1,c2,c3,c4,c5,c6,c7,c8,e3,e5,e6,h8,(ha.1 h8).2];rfl
theorem JI {N:Nat}(hN:20000≤N):dD N ⟨5,0,0,0,[v0,v0],[]⟩=some true:=by
 have hm: ∀x∈([v0,v0]:List MQ),pp N x:=fun x hx=>by
  rcases List.mem_cons.1 hx with rfl|hx
  ·exact CC N
  rw [List.mem_singleton] at hx;subst hx;exact CC N
 have ha:=(uz N hN ⟨5,0,0,0,[v0,v0],[]⟩ (by show 2≤5000;decide) (by show 0≤5000;decide) hm (fun x hx=>by cases hx) N 0 (by show 2<N+0;omega) O).eq;unfold dD;show Option.bind (iK N _ _ _) _=_;rw [show iK N ⟨5,0,0,0,[v0,v0],[]⟩ (jW (fun x st=>cY N ⟨5,0,0,0,[v0,v0],[]⟩ x st)) (none,())=some (none,()) from ha,bs];rfl
theorem ObjP.ok {N:Nat}(hN:20000≤N){Y:List MY}{i:Nat}{c:MY}{PL:List MX}(h:ObjP N Y i c PL): ∀p∈PL,rk N p∧normal p∧xK p∧iP p=p:=by
 intro p hp;obtain ⟨n,hn⟩:=List.getElem?_of_mem hp;obtain ⟨x, -,hs⟩:=h.each n p hn;have hnorm:=hs.normal;refine ⟨?_,hnorm,?_,?_⟩
 ·rcases hs with ⟨h1, -⟩|⟨-, -,⟨-,h3,h4⟩|⟨j,a, -, -,hr⟩⟩
  ·exact .inl h1
  ·refine .inr ?_;unfold De;rw [h3,h4];exact JI hN
  exact .inr hr
 ·intro h8;rcases hs with ⟨h1,h2, -, -,h5,h6⟩|⟨h1, -⟩
  ·rw [h2];exact ⟨h5,h6⟩
  exact absurd h8 h1
 obtain ⟨pk,pa,pv,pg,ps⟩:=p;unfold iP;by_cases h8:ai .i64 pa 8=0
 ·obtain ⟨e1,e2⟩:=hnorm.1 h8;simp only at e1 e2⊢;rw [Nf h8,ct,e1,e2]
 have e:=hnorm.2 h8;simp only at e⊢;rw [Ng h8,cf,e]
def Hardens (fr:Bool)(p:MX)(d:Na):Prop:=(d=Gr∧(fr=true→ai .i64 p.Attrs 8≠0))∨(d=H6∧fr=true∧ai .i64 p.Attrs 8=0)
theorem Hardens.v {fr:Bool}{p:MX}{d:Na}(h:Hardens fr p d)(N:Nat):descV N d:=by
 rcases h with ⟨rfl, -⟩|⟨rfl, -⟩
 ·exact H5 N
 exact H4 N
theorem KB (N:Nat)(p:MX):eB N p Gr=some false:=by
 obtain ⟨c1,c2,c3,c4,c5,c6,c7,c8⟩:=E6;obtain ⟨e1,e2,e3,e4,e5,e6⟩:=b0;unfold eB bi;by_cases h8:ai .i64 p.Attrs 8=0<;>by_cases h1:ai .i64 p.Attrs 1=0<;>simp [Gr,c1,c2,c3,c4,c5,c6,c7,c8,e1,h8,h1]
theorem KA (N:Nat)(p:MX)(h8:ai .i64 p.Attrs 8=0):eB N p H6=some false:=by
 obtain ⟨c1,c2,c3,c4,c5,c6,c7,c8⟩:=Ls;obtain ⟨e1,e2,e3,e4,e5,e6⟩:=b0;unfold eB bi;by_cases h1:ai .i64 p.Attrs 1=0<;>simp [H6,c1,c2,c3,c4,c5,c6,c7,c8,e1,e2,h8,h1]
theorem nV (N:Nat){fr:Bool}{p:MX}{d:Na}(h:Hardens fr p d)(hn:normal p)(hm:fV p.Attrs)(ext:Bool):br N p true ext p.Key d=some (db fr p,true):=by
 have ha:=(uZ hm).2
 have hch:cA N p p.Key d=some (db fr p):=by
  rcases h with ⟨rfl,h2⟩|⟨rfl,h2,h3⟩
  ·rw [Gw N p hn hm];unfold db;cases fr
   ·rfl
   rw [(ha (h2 rfl)).2]
  rw [Gv N p hn hm h3,h2];rfl
 have hba:eB N p d=some false:=by
  rcases h with ⟨rfl,h2⟩|⟨rfl,h2,h3⟩
  ·exact KB N p
  exact KA N p h3
 unfold br;rw [nt,cf,hba,hch];cases decide (ai .i64 p.Attrs 4=0)<;>rfl
theorem EK: ∀a:_root_.Fin 16,ai .i64 (a.val:Int) 9≠9→ ∀fr:Bool,(0≤dp fr (a.val:Int)∧dp fr (a.val:Int)≤15∧ai .i64 (dp fr (a.val:Int)) 9≠9)∧(ai .i64 (dp fr (a.val:Int)) 8=0↔ai .i64 (a.val:Int) 8=0)∧dp fr (dp fr (a.val:Int))=dp fr (a.val:Int):=by decide+kernel
theorem r8 {a:Int}(h:fV a)(fr:Bool):fV (dp fr a)∧(ai .i64 (dp fr a) 8=0↔ai .i64 a 8=0)∧dp fr (dp fr a)=dp fr a:=by
 have h0:=h.1;have h1:=h.2.1;have:=EK ⟨a.toNat,by omega⟩;simp only [Int.toNat_of_nonneg h0] at this;exact this h.2.2 fr
theorem wb {l z:List MM}{i j:Nat}{a b:MM}(h:l.Perm z)(ha:l[i]? =some a)(hb:l[j]? =some b):((l.set i b).set j a).Perm z:=by
 obtain ⟨h1,e1⟩:=List.getElem?_eq_some_iff.1 ha;obtain ⟨h2,e2⟩:=List.getElem?_eq_some_iff.1 hb;subst e1 e2;exact (List.set_set_perm h1 h2).trans h
section
variable (N:Nat) (hN:20000≤N) (n:Nat) (hn:n≤6000) (zk:List MM) (hzk:zk.length=n)
include hN hn hzk
omit hN in
theorem Bo (kb:List MM→Int→Option (List MM))(a b p5:Int)(ha:0≤a)(h5:p5<n)(hk: ∀l:List MM,l.Perm zk→Sat (kb l (p5+1)) fun r=>r.Perm zk):
  ∀(m:Nat) (l:List MM) (j:Int),j<m→a≤j→j≤p5→l.Perm zk→Sat (df N kb a b p5 m l j) fun r=>r.Perm zk
 |0,l,j,h,h1,_,_=>by omega
 | m+1,l,j,h,h1,h2,h3=>by
  have hlz:=(h3).length_eq.trans hzk;rw [df.eq_2]
  refine bB (P:=fun c=>c=true→a<j) (fun e=> ?_) (fun _=>ab fun h=>by cases h) fun c hc=>aP (fun e=> ?_) fun _=> ?_
  ·have h4:=of_decide_eq_true e
   refine bO O O fun x _=>aQ (by constructor<;>omega) (bO O O fun y _=>(tI N _ _).bind fun z _=>ab fun _=>h4)
  ·have h4:=hc e;refine aQ (by constructor<;>omega) (aQ (by constructor<;>omega) (bO O O fun xb hxb=>bO O O fun xa hxa=>bO O O fun _ _=>bO O (by rw [List.length_set];omega) fun _ _=>aQ (by constructor<;>omega) ?_));exact Bo kb a b p5 ha h5 hk m _ _ O O O (wb h3 hxa hxb)
  unfold eo;exact aQ (by constructor<;>omega) (hk l h3)
theorem yQ (a b:Int)(ha:0≤a)(hb:b≤n): ∀(m:Nat) (l:List MM) (i:Int),(b - i).toNat<m→a≤i→l.Perm zk→Sat (cj N a b m l i) fun r=>r.Perm zk
 |0,l,i,h,h1,h2=>by omega
 |m+1,l,i,h,h1,h2=>by
  have hlz:=(h2).length_eq.trans hzk;rw [cj.eq_2]
  refine bh (fun h3=> ?_) fun _=>ab h2
  exact Bo N n hn zk hzk _ a b i ha O (fun l' hl'=>yQ a b ha hb m l' (i+1) O O hl') N l i O h1 O h2
theorem Bn (l:List MM)(a b:Int)(ha:0≤a)(ha':a≤n)(hb:b≤n)(hl:l.Perm zk):Sat (cr N l a b) fun r=>r.Perm zk:=by
 have hlz:=(hl).length_eq.trans hzk;unfold cr;exact aQ (by constructor<;>omega) (yQ N hN n hn zk hzk a b ha hb N l _ O O hl)
omit hN in
theorem vt (x y k:Int)(hx:0≤x)(hy:0≤y)(hx2:x+k≤n)(hy2:y+k≤n): ∀(m:Nat) (l:List MM) (i:Int),k - i<m→0≤i→i≤k→l.Perm zk→Sat (dO N x y k m l i) fun r=>r.Perm zk
 |0,l,i,h,h1,h3,h2=>by omega
 |m+1,l,i,h,h1,h3,h2=>by
  have hlz:=(h2).length_eq.trans hzk;rw [dO.eq_2]
  refine bh (fun h4=> ?_) fun _=>ab h2
  refine aQ (by constructor<;>omega) (aQ (by constructor<;>omega) (aQ (by constructor<;>omega) (bO O O fun xb hxb=>aQ (by constructor<;>omega) (bO O O fun xa hxa=>bO O O fun _ _=>bO O (by rw [List.length_set];omega) fun _ _=>aQ (by constructor<;>omega) ?_))));exact vt x y k hx hy hx2 hy2 m _ _ O O O (wb h2 hxa hxb)
theorem uG (l:List MM)(x y k:Int)(hk:0≤k)(hx:0≤x)(hy:0≤y)(hx2:x+k≤n)(hy2:y+k≤n)(hl:l.Perm zk):Sat (da N l x y k) fun r=>r.Perm zk:=
 vt N n hn zk hzk x y k hx hy hx2 hy2 N l 0 O O O hl
theorem sX (q:Int): ∀(m:Nat) (l:List MM) (i j:Int),i+j<m→0<i→0<j→i≤q→q+j≤n→l.Perm zk→Sat (dy N q m l i j) fun r=>r.Perm zk
 |0,l,i,j,h,h1,h2,h3,h4,h5=>by omega
 | m+1,l,i,j,h,h1,h2,h3,h4,h5=>by
  have hlz:=(h5).length_eq.trans hzk;rw [dy.eq_2]
  refine eK (fun e=>bh (fun h6=> ?_) fun h6=> ?_) fun e=> ?_
  ·refine aQ (by constructor<;>omega) ((uG N hN n hn zk hzk l _ _ _ O O O O O h5).bind fun r hr=>aQ (by constructor<;>omega) ?_);exact sX q m r _ _ O O h2 O h4 hr
  ·have:=of_decide_eq_false e;refine aQ (by constructor<;>omega) (aQ (by constructor<;>omega) (aQ (by constructor<;>omega) ((uG N hN n hn zk hzk l _ _ _ O O O O O h5).bind fun r hr=>aQ (by constructor<;>omega) ?_)));exact sX q m r _ _ O h1 O h3 O hr
  have:=of_decide_eq_true e;unfold f5;exact aQ (by constructor<;>omega) ((uG N hN n hn zk hzk l _ _ _ O O O O O h5).bind fun r hr=>ab hr)
theorem FB (l:List MM)(a q b:Int)(h0:0≤a)(h1:a<q)(h2:q<b)(h3:b≤n)(hl:l.Perm zk):Sat (eJ N l a q b) fun r=>r.Perm zk:=by
 have hlz:=(hl).length_eq.trans hzk;unfold eJ;exact aQ (by constructor<;>omega) (aQ (by constructor<;>omega) (sX N hN n hn zk hzk q N l _ _ O O O O O hl))
section
variable (kb:List MM→Int→Int→Int→Option (List MM)) (a q b:Int) (h0:0≤a) (h1:a<q) (h2:q<b) (h3:b≤n)
variable (hk: ∀(l:List MM) (x y z:Int),a≤x→x<y→y<z→z≤b→z - x<b - a→l.Perm zk→Sat (kb l x y z) fun r=>r.Perm zk)
include h0 h1 h2 h3
omit hN in
theorem yL (p7:Int)(h7:p7≤b)(h7':q≤p7): ∀(m:Nat) (l:List MM) (k:Int),(p7 - k).toNat<m→a≤k→l.Perm zk→Sat (dK N kb a q b p7 m l k) fun r=>r.Perm zk
 |0,l,k,h,h4,h5=>by omega
 |m+1,l,k,h,h4,h5=>by
  have hlz:=(h5).length_eq.trans hzk;rw [dK.eq_2];refine aQ (by constructor<;>omega) (bh (fun h6=> ?_) fun _=>ab h5);refine aQ (by constructor<;>omega) (aQ (by constructor<;>omega) (bO O O fun xb hxb=>bO O O fun xa hxa=>bO O O fun _ _=>bO O (by rw [List.length_set];omega) fun _ _=>aQ (by constructor<;>omega) ?_));exact yL p7 h7 h7' m _ _ O O (wb h5 hxa hxb)
theorem wY (l:List MM)(hl:l.Perm zk): ∀(m:Nat) (i j:Int),j - i<m→q≤i→i≤j→j≤b→Sat (cG N kb a q b l m i j) fun r=>r.Perm zk
 |0,i,j,h,h4,h5,h6=>by omega
 |m+1,i,j,h,h4,h5,h6=>by
  have hlz:=(hl).length_eq.trans hzk;rw [cG.eq_2]
  refine bh (fun h7=> ?_) fun _=>yL N n hn zk hzk kb a q b h0 h1 h2 h3 i O h4 N l a O O hl
  rw [nj O O O];refine aQ (by constructor<;>omega) (bO O O fun _ _=>bO O O fun _ _=>(tI N _ _).bind fun _ _=>aP (fun _=>aQ (by constructor<;>omega) ?_) fun _=> ?_)
  ·exact wY l hl m _ _ O O O h6
  exact wY l hl m _ _ O h4 O O
omit hN h1 in
theorem yK (p34:Int)(h7:a≤p34): ∀(m:Nat) (l:List MM) (k:Int),k<m→0≤k→k≤q→l.Perm zk→Sat (dJ N kb a q b p34 m l k) fun r=>r.Perm zk
 |0,l,k,h,h4,h5,h6=>by omega
 |m+1,l,k,h,h4,h5,h6=>by
  have hlz:=(h6).length_eq.trans hzk;rw [dJ.eq_2]
  refine bh (fun h8=> ?_) fun _=>ab h6
  refine aQ (by constructor<;>omega) (aQ (by constructor<;>omega) (bO O O fun xb hxb=>bO O O fun xa hxa=>bO O O fun _ _=>bO O (by rw [List.length_set];omega) fun _ _=>aQ (by constructor<;>omega) ?_));exact yK p34 h7 m _ _ O O O (wb h6 hxa hxb)
theorem uF (l:List MM)(hl:l.Perm zk): ∀(m:Nat) (i j:Int),j - i<m→a≤i→i≤j→j≤q→Sat (cT N kb a q b l m i j) fun r=>r.Perm zk
 |0,i,j,h,h4,h5,h6=>by omega
 |m+1,i,j,h,h4,h5,h6=>by
  have hlz:=(hl).length_eq.trans hzk;rw [cT.eq_2]
  refine bh (fun h7=> ?_) fun _=>yK N n hn zk hzk kb a q b h0 h2 h3 i h4 N l q O O O hl
  rw [nj O O O];refine aQ (by constructor<;>omega) (bO O O fun _ _=>bO O O fun _ _=>(tI N _ _).bind fun _ _=>eK (fun _=>aQ (by constructor<;>omega) ?_) fun _=> ?_)
  ·exact uF l hl m _ _ O O O h6
  exact uF l hl m _ _ O h4 O O
include hk
omit hN in
theorem yM (p:Int)(hp:p≤q)(hp2:(a+b) / 2+q - b≤p)(hp3:a≤p)(l:List MM)(hl:l.Perm zk):Sat (cU N kb b a q p l) fun r=>r.Perm zk:=by
 have hlz:=(hl).length_eq.trans hzk;unfold cU;rw [nj O O O]
 refine bB (P:=fun c=>c=true→(a+b) / 2<(a+b) / 2+q - p∧(a+b) / 2+q - p<b) (fun e=>ab fun e2=>⟨of_decide_eq_true e,of_decide_eq_true e2⟩) (fun _=>ab fun h=>by cases h) fun c hc=>aP (fun e=> ?_) fun _=>ab hl
 obtain ⟨h4,h5⟩:=hc e
 exact (hk l _ _ _ O h4 h5 O O hl).bind fun r hr=>ab hr
omit hN in
theorem yO (p:Int)(hp:p≤q)(hp2:(a+b) / 2+q - b≤p)(hp3:a≤p)(l:List MM)(hl:l.Perm zk):Sat (cV N kb a b p q l) fun r=>r.Perm zk:=by
 have hlz:=(hl).length_eq.trans hzk;unfold cV;rw [nj O O O]
 refine bB (P:=fun c=>c=true→a<p∧p<(a+b) / 2) (fun e=>ab fun e2=>⟨of_decide_eq_true e,of_decide_eq_true e2⟩) (fun _=>ab fun h=>by cases h) fun c hc=>aP (fun e=> ?_) fun _=>yM N n hn zk hzk kb a q b h0 h1 h2 h3 hk p hp hp2 hp3 l hl
 obtain ⟨h4,h5⟩:=hc e
 exact (hk l _ _ _ O h4 h5 O O hl).bind fun r hr=>yM N n hn zk hzk kb a q b h0 h1 h2 h3 hk p hp hp2 hp3 r hr
theorem Eo (p:Int)(hp:p≤q)(hp2:(a+b) / 2+q - b≤p)(hp3:a≤p)(l:List MM)(hl:l.Perm zk):Sat (dL N kb a q b l p) fun r=>r.Perm zk:=by
 have hlz:=(hl).length_eq.trans hzk;unfold dL;rw [nj O O O];refine aQ (by constructor<;>omega) (bB (P:=fun c=>c=true→p<q∧q<(a+b) / 2+q - p) (fun e=>ab fun e2=>⟨of_decide_eq_true e,of_decide_eq_true e2⟩) (fun _=>ab fun h=>by cases h) fun c hc=>aP (fun e=> ?_) fun _=>yO N n hn zk hzk kb a q b h0 h1 h2 h3 hk p hp hp2 hp3 l hl);obtain ⟨h4,h5⟩:=hc e
 exact (FB N hN n hn zk hzk l _ _ _ O h4 h5 O hl).bind fun r hr=>yO N n hn zk hzk kb a q b h0 h1 h2 h3 hk p hp hp2 hp3 r hr
theorem rZ (l:List MM)(hl:l.Perm zk): ∀(m:Nat) (i j:Int),j - i<m→a≤i→(a+b) / 2+q - b≤i→i≤j→j≤q→j≤(a+b) / 2∨q≤(a+b) / 2→Sat (cR N kb a q b l m i j) fun r=>r.Perm zk
 |0,i,j,h,h4,h4',h5,h6,h7=>by omega
 |m+1,i,j,h,h4,h4',h5,h6,h7=>by
  have hlz:=(hl).length_eq.trans hzk;rw [cR.eq_2]
  refine bh (fun h8=> ?_) fun _=>Eo N hN n hn zk hzk kb a q b h0 h1 h2 h3 hk i O h4' h4 l hl
  rw [nj (a:=a) (b:=b) O O O,nj (a:=i) (b:=j) O O O];refine aQ (by constructor<;>omega) (aQ (by constructor<;>omega) (bO O O fun _ _=>bO O O fun _ _=>(tI N _ _).bind fun _ _=>eK (fun _=>aQ (by constructor<;>omega) ?_) fun _=> ?_))
  ·exact rZ l hl m _ _ O O O O h6 h7
  exact rZ l hl m _ _ O h4 h4' O O O
theorem Ep (l:List MM)(hl:l.Perm zk):Sat (dN N kb a q b l) fun r=>r.Perm zk:=by
 have hlz:=(hl).length_eq.trans hzk;unfold dN dM;rw [nj O O O];refine aQ (by constructor<;>omega) (aQ (by constructor<;>omega) (bh (fun h4=> ?_) fun h4=> ?_))
 ·exact aQ (by constructor<;>omega) (aQ (by constructor<;>omega) (rZ N hN n hn zk hzk kb a q b h0 h1 h2 h3 hk l hl N _ _ O O O O O O))
 exact aQ (by constructor<;>omega) (rZ N hN n hn zk hzk kb a q b h0 h1 h2 h3 hk l hl N _ _ O O O O O O)
end
theorem Df: ∀(m:Nat) (l:List MM) (a q b:Int),b - a<m→0≤a→a<q→q<b→b≤n→l.Perm zk→Sat (aN N m l a q b) fun r=>r.Perm zk
 |0,l,a,q,b,h,h0,h1,h2,h3,h4=>by omega
 |m+1,l,a,q,b,h,h0,h1,h2,h3,h4=>by
  have hlz:=(h4).length_eq.trans hzk
  have hk: ∀(l:List MM) (x y z:Int),a≤x→x<y→y<z→z≤b→z - x<b - a→l.Perm zk→Sat (aN N m l x y z) fun r=>r.Perm zk:=fun l x y z g1 g2 g3 g4 g5 g6=>Df m l x y z O O g2 g3 O g6
  rw [iw];refine aQ (by constructor<;>omega) (bh (fun _=>wY N hN n hn zk hzk _ a q b h0 h1 h2 h3 l h4 N q b O O O O) fun _=> ?_);unfold dW;refine aQ (by constructor<;>omega) (bh (fun _=>uF N hN n hn zk hzk _ a q b h0 h1 h2 h3 l h4 N a q O O O O) fun _=>Ep N hN n hn zk hzk _ a q b h0 h1 h2 h3 hk l h4)
theorem Bl (l:List MM)(a q b:Int)(h0:0≤a)(h1:a<q)(h2:q<b)(h3:b≤n)(h4:l.Perm zk):Sat (bW N l a q b) fun r=>r.Perm zk:=
 Df N hN n hn zk hzk N l a q b O h0 h1 h2 h3 h4
theorem wZ (kb:List MM→Int→Option (List MM))(z:Int)(hz:0<z)(hz2:z≤n)(hk: ∀l:List MM,l.Perm zk→Sat (kb l (z*2)) fun r=>r.Perm zk): ∀(m:Nat) (l:List MM) (a b:Int),(n:Int) - a<m→0≤a→a≤n→b=a+2*z→l.Perm zk→Sat (d9 N kb n z m l a b) fun r=>r.Perm zk
 |0,l,a,b,h,h0,h1,h2,h3=>by omega
 | m+1,l,a,b,h,h0,h1,h2,h3=>by
  have hlz:=(h3).length_eq.trans hzk;rw [d9.eq_2]
  refine bh (fun h4=> ?_) fun h4=> ?_
  ·refine aQ (by constructor<;>omega) ((Bl N hN n hn zk hzk l _ _ _ h0 O O h4 h3).bind fun r hr=>aQ (by constructor<;>omega) (aQ (by constructor<;>omega) ?_));exact wZ kb z hz hz2 hk m r _ _ O O h4 J hr
  unfold fG ec;refine aQ (by constructor<;>omega) (bh (fun h5=> ?_) fun _=>aQ (by constructor<;>omega) (hk l h3))
  exact (Bl N hN n hn zk hzk l _ _ _ h0 O h5 O h3).bind fun r hr=>aQ (by constructor<;>omega) (hk r hr)
theorem xc: ∀(m:Nat) (l:List MM) (z:Int),((n:Int) - z).toNat<m→0<z→l.Perm zk→Sat (bN N n m l z) fun r=>r.Perm zk
 |0,l,z,h,h0,h1=>by omega
 |m+1,l,z,h,h0,h1=>by
  have hlz:=(h1).length_eq.trans hzk;rw [bN.eq_2]
  refine bh (fun h4=> ?_) fun h4=>ab h1
  exact aQ (by constructor<;>omega) (wZ N hN n hn zk hzk _ z h0 O (fun l' hl'=>xc m l' (z*2) O O hl') N l 0 _ O O O O h1)
theorem yP: ∀(m:Nat) (l:List MM) (a b:Int),(n:Int) - a<m→0≤a→a≤n→b=a+20→l.Perm zk→Sat (ew N n m l a b) fun r=>r.Perm zk
 |0,l,a,b,h,h0,h1,h2,h3=>by omega
 | m+1,l,a,b,h,h0,h1,h2,h3=>by
  have hlz:=(h3).length_eq.trans hzk;rw [ew.eq_2]
  refine bh (fun h4=> ?_) fun h4=> ?_
  ·refine (Bn N hN n hn zk hzk l a b h0 h1 h4 h3).bind fun r hr=>aQ (by constructor<;>omega) ?_
   exact yP m r _ _ O O h4 J hr
  unfold fZ
  exact (Bn N hN n hn zk hzk l a n h0 h1 O h3).bind fun r hr=>xc N hN n hn zk hzk N r 20 O O hr
end
theorem Er (N:Nat)(hN:20000≤N)(l:List MM)(hl:l.length≤6000):Sat (ey N l) fun r=>r.Perm l:=by
 unfold ey gp
 exact (yP N hN l.length hl l J N l 0 20 O O O O (List.Perm.refl l)).bind fun r hr=>ab hr
theorem sF (N:Nat)(hN:20000≤N)(a:List MM)(ha:a.length≤6000)(hR: ∀x∈a,keyR N x): ∀(m i:Nat) (p:List MM),a.length<m+i→i≤a.length→p=a.take i→Sat (kM N a m p (i:Int)) fun r=>r.Perm a
 |0,i,p,h,h1,h2=>by omega
 | m+1,i,p,h,h1,h2=>by
  rw [kM.eq_2]
  have hp:p.length≤i:=by rw [h2,List.length_take];omega
  refine bh (fun h4=> ?_) fun h4=> ?_
  ·refine bO O h4 fun x hx=> ?_
   rw [show co N x=some true from hR x (List.mem_of_getElem? hx),bs];unfold nS;rw [ct];refine aQ (by unfold gQ;rw [List.length_singleton];omega) (aQ (by constructor<;>omega) ?_);refine sF N hN a ha hR m (i+1) _ O O ?_;rw [Int.toNat_natCast] at hx;rw [h2,List.take_add_one,hx];rfl
  unfold qd;rw [List.take_of_length_le O] at h2;subst h2
  exact (Er N hN p ha).bind fun r hr=>ab hr
theorem Bm (N:Nat)(hN:20000≤N)(a:List MM)(ha:a.length≤6000)(hR: ∀x∈a,keyR N x):Sat (eA N a) fun r=>r.Perm a:=
 sF N hN a ha hR N 0 [] O O (by simp)
end
section
open Go.RowKit
theorem Obj.uniq {N i k:Nat}{w:MT}{c:MY}{PL:List MX}(h:Obj N i k w c PL){p q:MX}(hp:p∈PL)(hq:q∈PL)(e:p.Key=q.Key):p=q:=by
 have hnd:=h.inv.obj.nd;obtain ⟨n,hn⟩:=List.getElem?_of_mem hp;obtain ⟨m,hm⟩:=List.getElem?_of_mem hq
 have g1:((PL.map mQ).map (·.1))[n]? =some p.Key:=by rw [List.getElem?_map,List.getElem?_map,hn];rfl
 have g2:((PL.map mQ).map (·.1))[m]? =some p.Key:=by rw [List.getElem?_map,List.getElem?_map,hm,e];rfl
 have:n=m:=(List.getElem?_inj (by rw [List.length_map,List.length_map];exact (List.getElem?_eq_some_iff.1 hn).1) hnd).1 (g1.trans g2.symm);subst this;exact Option.some.inj (hn.symm.trans hm)
theorem Obj.key {N i k:Nat}{w:MT}{c:MY}{PL:List MX}(h:Obj N i k w c PL){p:MX}(hp:p∈PL):keyR N p.Key∧fV p.Attrs:=h.inv.obj.row.ok h.inv.ti _ (List.mem_map_of_mem hp)
theorem vy {fr:Bool}{p:MX}(hm:fV p.Attrs)(h:normal p):normal (db fr p):=by
 have h8:=(r8 hm fr).2.1;exact ⟨fun e=>h.1 (h8.1 e),fun e=>h.2 fun e2=>e (h8.2 e2)⟩
theorem rm {p:MX}(h:normal p):iP p=p:=by
 obtain ⟨pk,pa,pv,pg,ps⟩:=p;unfold iP;by_cases h8:ai .i64 pa 8=0
 ·obtain ⟨e1,e2⟩:=h.1 h8;simp only at e1 e2⊢;rw [Nf h8,ct,e1,e2]
 have e:=h.2 h8;simp only at e⊢;rw [Ng h8,cf,e]
section
variable {N:Nat} (hN:20000≤N) {v:MQ} {i:Nat} (hv:v.Kind=7) (hvN:v.N=2*i+1)
include hN hv hvN
variable {k:Nat} {w:MT} {c:MY} {PL:List MX} (h:Obj N i k w c PL)
include h
omit hv hvN in
theorem uy (hk:k≤1000000000){p:MX}(hp:p∈PL):propV N p∧ ∃n:Int,bn N ⟨c,w,v⟩ p.Key=some (p,n,true):=by
 obtain ⟨r,e1, -,h1⟩: ∃r,bn N ⟨c,w,v⟩ p.Key=some r∧True∧Ju PL p.Key r:=by
  obtain ⟨r,e,h1⟩:=sS (v:=v) hN hk h.inv h.obj p.Key;exact ⟨r,e,trivial,h1⟩
 obtain ⟨r',e2,h2⟩:=JC (v:=v) hN hk h.inv p.Key;have:r'=r:=Option.some.inj (e2.symm.trans e1);subst this;rcases h1 with ⟨-, -,h1⟩|⟨n,r1,r2,r3,r4⟩
 ·exact absurd J (h1 p hp)
 have hpr:r'.1=p:=h.uniq (List.mem_of_getElem? r3) hp r4;refine ⟨by rw [←hpr];exact h2.1,r'.2.1,?_⟩;rw [e1];obtain ⟨a,b,d⟩:=r';simp only at r2 hpr;rw [r2,hpr]
theorem yU (hk:k+1100≤1000000000){fr:Bool}{p:MX}(hpm:p∈PL){d:Na}(hd:Hardens fr p d):Sat (dg N w v p.Key d) fun r=>r.1=true∧ ∃c' n,PL[n]? =some p∧Obj N i (k+1024) r.2 c' (PL.set n (db fr p))∧c'.Kind=c.Kind∧c'.More=c.More∧c'.Flags=c.Flags:=by
 obtain ⟨hR,hM⟩:=h.key hpm;obtain ⟨hV,n0,hown⟩:=uy (v:=v) hN h O hpm;obtain ⟨o1,o2,o3,o4⟩:=h.obj.ok hN p hpm;have hm2:=r8 hM fr;unfold dg;rw [oY hN hv hvN O h.inv,bs];show Sat (Option.bind (co N p.Key) _) _;rw [show co N p.Key=some true from hR,bs,nt,cf];show Sat (Option.bind (bn N ⟨c,w,v⟩ p.Key) _) _;rw [hown,bs];show Sat (Option.bind (br N p true _ p.Key d) _) _;rw [nV N hd o2 hM,bs];show Sat (Option.bind (cP N ⟨c,w,v⟩ (db fr p)) _) _
 refine (wD hN hv hvN h hk (p:=db fr p) ⟨hV.v,hV.g,hV.s⟩ (fun e=>o3 (hm2.2.1.1 e)) (fun h2 h0=>h.inv.obj.idx h2 _ (List.mem_map_of_mem (f:=mQ) hpm) h0) hR hm2.1 (.inl ⟨p,hpm,J⟩)).bind fun r hr=> ?_
 obtain ⟨r1,c',p',PL',⟨s1,s2,s3⟩,hput,hobj,e1,e2,e3⟩:=hr
 have hpo:rk N (db fr p):=by
  rcases o1 with o1|o1
  ·exact .inl (hm2.2.1.2 o1)
  exact .inr o1
 have hp':p'=db fr p:=(s3 hpo).trans (rm (vy hM o2));subst hp';rcases hput with ⟨hno, -⟩|⟨n,q,q1,q2,rfl⟩
 ·exact absurd J (hno p hpm)
 have hq:q=p:=h.uniq (List.mem_of_getElem? q1) hpm q2;subst hq;exact ab ⟨r1,c',n,q1,hobj,e1,e2,e3⟩
end
end
section
open Go.RowKit
section
variable {N:Nat} (hN:20000≤N) {v:MQ} {i:Nat} (hv:v.Kind=7) (hvN:v.N=2*i+1)
include hN hv hvN
variable {k:Nat} {w:MT} {c:MY} {PL:List MX} (h:Obj N i k w c PL)
include h
theorem Cz (hk:k≤1000000000){p:MX}(hp:p∈PL):dP N w v p.Key=some (p,true):=by
 obtain ⟨-,n,hown⟩:=uy (v:=v) hN h hk hp;unfold dP;rw [oY hN hv hvN hk h.inv,bs];show Option.bind (bn N ⟨c,w,v⟩ p.Key) _=_;rw [hown,bs]
theorem JW (hk:k≤1000000000)(hc:c.Kind=1){p:MX}(hp:p∈PL):bZ N w v p.Key=some (p,true):=by
 unfold bZ;rw [D8 hN hv hvN hk h.inv,bs,Ng O,cf,Cz hN hv hvN h hk hp,bs]
theorem CD (hk:k+1100≤1000000000)(hc:c.Kind=1){fr:Bool}{p:MX}(hpm:p∈PL){d:Na}(hd:Hardens fr p d):Sat (cB N w v p.Key d) fun r=>r.1=true∧ ∃c' n,PL[n]? =some p∧Obj N i (k+1024) r.2.2 c' (PL.set n (db fr p))∧c'.Kind=c.Kind∧c'.More=c.More∧c'.Flags=c.Flags:=by
 obtain ⟨hR,hM⟩:=h.key hpm;obtain ⟨o1,o2,o3,o4⟩:=h.obj.ok hN p hpm
 have hw:fi N w v p.Key d=some 0:=by
  obtain ⟨q,hq, -⟩:=sY hN hv hvN (show k≤1000000000 by omega) h.inv;unfold fi;rw [JW hN hv hvN h O hc hpm,bs,FM hN hv hvN O h.inv,bs];show Option.bind (br N p true _ p.Key d) _=_;rw [nV N hd o2 hM,bs];show Option.bind (some false) _=_;rw [bs,cf];show (bif !true then _ else Option.bind (eF N w v) _)=_;rw [nt,cf,hq,bs,D8 hN hv hvN O h.inv,bs,Ng O];rfl
 unfold cB;rw [Nf hv,nt,cf,D8 hN hv hvN O h.inv,bs,Ng O,nf,ct,hw,bs];show Sat (Option.bind (dg N w v p.Key d) _) _
 refine (yU hN hv hvN h hk hpm hd).bind fun r hr=> ?_
 obtain ⟨r1,rest⟩:=hr;unfold fW;rw [r1,ct,bs];exact ab ⟨J,rest⟩
end
theorem F5 (N:Nat)(p:MX): ∃d,fC N p=some d∧Hardens true p d:=by
 unfold fC oe o9;by_cases h8:ai .i64 p.Attrs 8=0
 ·refine ⟨H6,?_,.inr ⟨J,J,h8⟩⟩;rw [Nf h8,nt,cf,bs,bs];show some (⟨ai .i64 34 51,0,v0,v0,v0⟩:Na)=_;rw [show ai .i64 34 51=34 by decide+kernel];rfl
 refine ⟨Gr,?_,.inl ⟨J,fun _=>h8⟩⟩;rw [Ng h8,nf,ct,bs];show some (⟨ai .i64 34 60,0,v0,v0,v0⟩:Na)=_;rw [show ai .i64 34 60=32 by decide+kernel];rfl
theorem JG (N:Nat)(p:MX): ∃d,iZ N p=some d∧Hardens false p d:=⟨Gr,rfl,.inl ⟨rfl,fun h=>by cases h⟩⟩
end
section
open Go.RowKit
theorem EL (fr:Bool)(p:MX):(db fr p).Key=p.Key:=rfl
section
variable {N:Nat} (hN:20000≤N) {v:MQ} {i:Nat} (hv:v.Kind=7) (hvN:v.N=2*i+1)
include hN hv hvN
variable {k:Nat} {w:MT} {c:MY} {PL:List MX} (h:Obj N i k w c PL)
include h
theorem JE (hk:k≤1000000000):ee N w v=some (qY w (w.heap_.m_.Young.set i (jU c)))∧Obj N i k (qY w (w.heap_.m_.Young.set i (jU c))) (jU c) PL:=by
 obtain ⟨h1,h2⟩:=Hp hN hv hvN hk h.inv;refine ⟨h1,h2,?_⟩;refine ⟨h.obj.num,fun n p hn=> ?_,h.obj.inj,h.obj.own⟩;obtain ⟨x,hx,hs⟩:=h.obj.each n p hn;refine ⟨x,hx,hs.move fun j h9 hj _=> ?_⟩;show (w.heap_.m_.Young.set i (jU c))[j]? =_;rw [List.getElem?_set_ne];intro e;subst e;exact h.obj.own n x hx h9 hj
end
end
section
open Go.RowKit
section
variable {N:Nat} (hN:20000≤N) {v:MQ} {i:Nat} (hv:v.Kind=7) (hvN:v.N=2*i+1)
include hN hv hvN
variable {k:Nat} {w:MT} {c:MY} {PL:List MX} (h:Obj N i k w c PL)
include h
theorem JD (hk:k+1100≤1000000000){p:MX}(hp:propV N p)(hd:xK p)(hidx:c.Kind=2→p.Key.Kind=0→p.Key.N<c.More.length):Sat (cP N ⟨c,w,v⟩ p) fun r=> ∃c' PL',Obj N i (k+1024) r.2.w_ c' PL'∧c'.Kind=c.Kind∧c'.More=c.More∧c'.Flags=c.Flags∧(∀q∈PL',q.Key=p.Key∨q.Key∈PL.map (·.Key)):=by
 have hI:=h.inv;have hle:=hI.obj.row.le hI.ti;rw [List.length_map] at hle
 have hb:w.shapes_.shapes_.length+1024≤1073741824:=by have:=hI.tb;omega
 have hst:Obj N i (k+1024) w c PL:=h.more O
 have hsame: ∀q∈PL,q.Key=p.Key∨q.Key∈PL.map (·.Key):=fun q hq=> .inr (List.mem_map_of_mem hq)
 by_cases hall:keyR N p.Key∧fV p.Attrs∧((∃q∈PL,q.Key=p.Key)∨PL.length<1024)
 ·refine (wD hN hv hvN h hk hp hd hidx hall.1 hall.2.1 hall.2.2).mono fun r hr=> ?_
  obtain ⟨-,c',p',PL',⟨s1, -, -⟩,hput,ho,e1,e2,e3⟩:=hr;refine ⟨c',PL',ho,e1,e2,e3,fun q hq=> ?_⟩;rcases hput with ⟨-,rfl⟩|⟨n,u, -, -,rfl⟩
  ·rcases List.mem_append.1 hq with hq|hq
   ·exact hsame q hq
   rw [List.mem_singleton] at hq;subst hq;exact .inl s1
  rcases List.mem_or_eq_of_mem_set hq with hq|rfl
  ·exact hsame q hq
  exact .inl s1
 unfold cP;show Sat (Option.bind (bn N ⟨c,w,v⟩ p.Key) _) _
 refine (sS (v:=v) hN O hI h.obj p.Key).bind fun y hy=> ?_
 rcases hy with ⟨e1, -,hno⟩|⟨n,e1,e2,hn,hnk⟩
 ·rw [e1];obtain ⟨s,s1,s2⟩:=hI.obj.row.has hI.ti;rw [List.length_map] at s2;show Sat (Option.bind (ez N w.shapes_ c.Shape) _) _;rw [zW N s1,bs]
  refine bh (fun _=>ab ⟨c,PL,hst,J,J,J,hsame⟩) fun h3=> ?_
  refine (Dh N O hI.ti hb hI.obj.row p.Key p.Attrs (fun x hx=>by
   obtain ⟨q,q1,q2⟩:=List.mem_map.1 hx
   rw [←q2];exact hno q q1) (by rw [List.length_map];omega)).bind fun r hr=> ?_
  rcases hr with ⟨r1,r2, -⟩|⟨-,r2,r3⟩
  ·exact absurd ⟨r1,r2,.inr O⟩ hall
  rw [Ng r2];refine ab ⟨c,PL,?_,J,J,J,hsame⟩;rw [r3];exact hst
 rw [e2];have hmem:=List.mem_of_getElem? hn;obtain ⟨k1,k2⟩:=h.key hmem
 have hnm: ¬fV p.Attrs:=fun hM=>hall ⟨by rw [←hnk];exact k1,hM,.inl ⟨y.1,hmem,hnk⟩⟩
 have hne:y.1.Attrs≠p.Attrs:=fun e=>hnm (by rw [←e];exact k2)
 have hnl:(PL.map mQ)[n]? =some (p.Key,y.1.Attrs):=by rw [List.getElem?_map,hn];show some (y.1.Key,y.1.Attrs)=_;rw [hnk]
 show Sat (bif !decide (y.1.Attrs=p.Attrs) then _ else _) _;rw [Ng hne,nf,ct]
 refine (zo N O hI.ti hb hI.obj.row hI.obj.nd p.Key p.Attrs n y.1.Attrs hnl).bind fun r hr=> ?_
 rcases hr with ⟨r1, -⟩|⟨-,r2,r3⟩
 ·exact absurd r1 hnm
 rw [Ng r2];refine ab ⟨c,PL,?_,J,J,J,hsame⟩;rw [r3];exact hst
end
end
section
open Go.RowKit
def xr (n:Int):Prop:=n≠7∧n≠9
def KT (d:Na):Prop:=xr d.Value.Kind
theorem Gm (N:Nat)(d:Na)(a1:MM)(p27 y29 p31 p32:Int)(p33:ByteArray)(p14 p15:Int)(p16:ByteArray)(p37 p38:Int)(p39:ByteArray)(h:xr p31):Sat (dh N d a1 p27 y29 p31 p32 p33 p14 p15 p16 p37 p38 p39) fun r=>xr r.Value.Kind:=by
 unfold dh d7 bi;rw [bs]
 exact aP (fun _=>ab h) fun _=>ab h
theorem Gn (N:Nat)(d:Na)(a1:MM)(p27 y29 p11 p12:Int)(p13:ByteArray)(p14 p15:Int)(p16:ByteArray)(p31 p32:Int)(p33:ByteArray)(h:xr p31):Sat (di N d a1 p27 y29 p11 p12 p13 p14 p15 p16 p31 p32 p33) fun r=>xr r.Value.Kind:=by
 unfold di bi;rw [bs]
 exact aP (fun _=>Gm N d _ _ _ _ _ _ _ _ _ _ _ _ h) fun _=>Gm N d _ _ _ _ _ _ _ _ _ _ _ _ h
theorem Am (N:Nat){d:Na}(hd:KT d)(a1:MM)(p21 p22:Int)(p23:ByteArray)(p11 p12:Int)(p13:ByteArray)(p14 p15:Int)(p16:ByteArray)(p27:Int)(h:xr p21):Sat (dj N d a1 p21 p22 p23 p11 p12 p13 p14 p15 p16 p27) fun r=>xr r.Value.Kind:=by
 unfold dj
 refine (uT N d).bind fun y _=> ?_
 unfold bi;rw [bs]
 exact aP (fun _=>Gn N d _ _ _ _ _ _ _ _ _ _ _ _ hd) fun _=>Gn N d _ _ _ _ _ _ _ _ _ _ _ _ h
theorem Gp (N:Nat){d:Na}(hd:KT d){p:MX}(hp:ai .i64 p.Attrs 8=0→xr p.Value.Kind)(b:Bool)(a1:MM)(p11 p12:Int)(p13:ByteArray)(p14 p15:Int)(p16:ByteArray):Sat (dk N p b d a1 p11 p12 p13 p14 p15 p16) fun r=>xr r.Value.Kind:=by
 unfold dk d8
 refine bB (P:=fun x=>x=true→ai .i64 p.Attrs 8=0) (fun _=>ab fun e=> ?_) (fun _=>ab fun e=>by cases e) fun x hx=>aP (fun e=>aP (fun _=> ?_) fun _=> ?_) fun _=>aP (fun _=> ?_) fun _=> ?_
 ·rw [Bool.not_not] at e;exact of_decide_eq_true e
 ·exact Am N hd _ _ _ _ _ _ _ _ _ _ _ (hp (hx e))
 ·exact Am N hd _ _ _ _ _ _ _ _ _ _ _ (hp (hx e))
 ·exact Am N hd _ _ _ _ _ _ _ _ _ _ _ ⟨by decide,by decide⟩
 exact Am N hd _ _ _ _ _ _ _ _ _ _ _ ⟨by decide,by decide⟩
theorem zm (N:Nat){p:MX}(hp:ai .i64 p.Attrs 8=0→xr p.Value.Kind)(k:MM){d:Na}(hd:KT d):Sat (cA N p k d) fun r=>xr r.Value.Kind:=by
 unfold cA bi;rw [bs]
 have ht: ∀{x y:Bool} {m:Option Bool},Sat m (fun _=>True)→Sat (bif x then some y else m) fun _=>True:=fun hm=>aP (fun _=>ab trivial) fun _=>hm
 refine Sat.bind (P:=fun _=>True) (ht (Sat.bind (P:=fun _=>True) (aP (fun _=>Sat.bind (P:=fun _=>True) (ab trivial) fun _ _=>ab trivial) fun _=>ab trivial) fun _ _=>ab trivial)) fun b _=>Sat.bind (P:=fun _=>True) (aP (fun _=>ab trivial) fun _=>ab trivial) fun c _=>aP (fun _=> ?_) fun _=> ?_
 ·exact Gp N hd hp b k _ _ _ _ _ _
 exact Gp N hd hp b k _ _ _ _ _ _
theorem Gq (N:Nat){p:MX}(hp:ai .i64 p.Attrs 8=0→xr p.Value.Kind)(has ext:Bool)(k:MM){d:Na}(hd:KT d):Sat (br N p has ext k d) fun r=>xr r.1.Value.Kind:=by
 have h0:xr 0:=⟨by decide,by decide⟩;unfold br nl
 refine eK (fun _=>eK (fun _=>ab h0) fun _=> ?_) fun _=> ?_
 ·exact Sat.bind ((zm N (fun _=>h0) k hd).bind fun y hy=>ab hy) fun y hy=>ab hy
 refine Sat.bind (P:=fun _=>True) (aP (fun _=>(D5 N p d).bind fun _ _=>ab trivial) fun _=>ab trivial) fun b _=>aP (fun _=>ab h0) fun _=> ?_
 exact (zm N hp k hd).bind fun y hy=>ab hy
section
variable {N:Nat} (hN:20000≤N) {v:MQ} {i:Nat} (hv:v.Kind=7) (hvN:v.N=2*i+1)
include hN hv hvN
variable {k:Nat} {w:MT} {c:MY} {PL:List MX} (h:Obj N i k w c PL)
include h
theorem yV (hk:k+1100≤1000000000)(key:MM){d:Na}(hd:descV N d)(hdk:KT d)(hidx:c.Kind=2→key.Kind=0→key.N<c.More.length):Sat (dg N w v key d) fun r=> ∃c' PL',Obj N i (k+1024) r.2 c' PL'∧c'.Kind=c.Kind∧c'.More=c.More∧c'.Flags=c.Flags∧(∀q∈PL',q.Key=key∨q.Key∈PL.map (·.Key)):=by
 have hst: ∃c' PL',Obj N i (k+1024) w c' PL'∧c'.Kind=c.Kind∧c'.More=c.More∧c'.Flags=c.Flags∧(∀q∈PL',q.Key=key∨q.Key∈PL.map (·.Key)):=⟨c,PL,h.more O,rfl,rfl,rfl,fun q hq=> .inr (List.mem_map_of_mem hq)⟩;unfold dg;rw [oY hN hv hvN O h.inv,bs];show Sat (Option.bind (co N key) _) _
 refine (kK N O key).bind fun b _=>eK (fun _=>ab hst) fun _=> ?_
 show Sat (Option.bind (bn N ⟨c,w,v⟩ key) _) _;obtain ⟨y,e1,hx⟩:=sS (v:=v) hN O h.inv h.obj key;obtain ⟨y',e2,hy⟩:=JC (v:=v) hN O h.inv key;have:y'=y:=Option.some.inj (e2.symm.trans e1);subst this;rw [e1,bs]
 have hdy:ai .i64 y'.1.Attrs 8=0→xr y'.1.Value.Kind:=by
  intro h8;rcases hx with ⟨x1,x2,x3⟩|⟨n,x1,x2,x3,x4⟩
  ·obtain ⟨y1,y2,y3⟩:=hy;rcases y3 with ⟨-, -⟩|⟨n, -,y4, -⟩
   ·have e3:bn N ⟨c,w,v⟩ key=some y':=e1;unfold bn cK at e3;rw [bs] at e3;obtain ⟨z,z1,z2⟩:=sa N O h.inv.ti h.inv.obj.row key;change Option.bind (dY N w.shapes_ c.Shape key) _=_ at e3;rw [z1,bs] at e3;rcases z2 with ⟨rfl, -⟩|⟨n, -,z4,z5⟩
    ·have:=Option.some.inj e3;rw [←this];exact ⟨by decide,by decide⟩
    obtain ⟨p,hp,hp2⟩:=List.mem_map.1 (List.mem_of_getElem? z5);exact absurd (congrArg Prod.fst hp2) (x3 p hp)
   rw [y4] at x1;cases x1
  exact (h.obj.ok hN _ (List.mem_of_getElem? x3)).2.2.1 h8
 obtain ⟨p,f1,g1⟩:=up N hy.1 y'.2.2 (!decide (ai .i64 c.Flags 1=0)) key hd;obtain ⟨p',f2,g2⟩:=Gq N hdy y'.2.2 (!decide (ai .i64 c.Flags 1=0)) key hdk;have:p'=p:=Option.some.inj (f2.symm.trans f1);subst this;show Sat (Option.bind (br N y'.1 y'.2.2 (!decide (ai .i64 c.Flags 1=0)) key d) _) _;rw [f1,bs]
 refine aP (fun e=> ?_) fun _=>ab hst
 have hk2:=g1.2 e
 refine (JD hN hv hvN h hk g1.1 (fun _=>g2) (by rw [hk2];exact hidx)).bind fun r hr=>ab ?_
 rw [hk2] at hr;exact hr
end
end
section
open Go.RowKit
def eO:MQ:=⟨8,0,⟨#[]⟩⟩
def kW:MM:=⟨1,0,⟨#[108,101,110,103,116,104]⟩⟩
structure Arr (N i k:Nat) (w:MT) (c:MY) (PL:List MX):Prop where
 o:Obj N i k w c PL
 kind:c.Kind=2
 hole: ∀p∈PL,p.Key.Kind=0→c.More[p.Key.N.toNat]? =some eO
 len: ∀p∈PL,p.Key≠kW
def f8 (c:MY):MX:=⟨kW,bif decide (ai .i64 c.Flags 32=0) then 1 else 0,⟨3,(c.More.length:Int),⟨#[]⟩⟩,v0,v0⟩
theorem AQ (N:Nat)(c:MY):gT N c=some (f8 c):=by
 unfold gT cu jG f8;rw [bs];cases decide (ai .i64 c.Flags 32=0)<;>rfl
section
variable {N:Nat} (hN:20000≤N) {v:MQ} {i:Nat} (hv:v.Kind=7) (hvN:v.N=2*i+1)
include hN hv hvN
variable {k:Nat} {w:MT} {c:MY} {PL:List MX} (h:Arr N i k w c PL) (hk:k≤1000000000)
include h hk
theorem uq:bY N w v kW=some (f8 c,true):=by
 unfold bY cu;rw [ns hN hv hvN hk h.o.inv,bs,Nf h.kind,nt,cf,bs,show decide (kW=(⟨1,0,(⟨#[108,101,110,103,116,104]⟩:ByteArray)⟩:MM))=true from Nf rfl,ct,AQ,bs]
theorem D6 {key:MM}(h0:key.Kind=0)(hR:keyR N key){x:MQ}(hx:c.More[key.N.toNat]? =some x)(hh:x≠eO):bY N w v key=some (⟨key,7,x,v0,v0⟩,true):=by
 have hb:=hR.b O h0;have hlt:=(List.getElem?_eq_some_iff.1 hx).1
 have hg:bR c.More key.N=some x:=by unfold bR;rw [if_neg O];exact hx
 unfold bY cu jM;rw [ns hN hv hvN hk h.o.inv,bs,Nf h.kind,nt,cf,bs,Ng (fun e:key=⟨1,0,⟨#[108,101,110,103,116,104]⟩⟩=>by rw [e] at h0;exact absurd h0 (by decide)),cf,Nf h0,ct,show co N key=some true from hR,bs,bs,ct];show Option.bind (Option.bind (Option.bind (bif decide (key.N<(c.More.length:Int)) then Option.bind (bR c.More key.N) _ else some false) _) _) _=_;rw [Nf O,ct,hg,bs,Ng (show¬x=(⟨8,0,(⟨#[]⟩:ByteArray)⟩:MQ) from hh)];rfl
theorem Ca {key:MM}(hl:key≠kW)(hno:key.Kind=0→ ∀x,0≤key.N→c.More[key.N.toNat]? =some x→x=eO):bY N w v key=(dP N w v key).bind fun y=>some (y.1,y.2):=by
 unfold bY cu jM;rw [ns hN hv hvN hk h.o.inv,bs,Nf h.kind,nt,cf,bs,Ng (show¬key=⟨1,0,⟨#[108,101,110,103,116,104]⟩⟩ from hl),cf];obtain ⟨b,hb,hb2⟩:=kK N O key;by_cases h0:key.Kind=0
 ·rw [Nf h0,ct,hb,bs,bs]
  cases b with
  |false=>rfl
  | true=>
   have hn:=hb2 rfl h0;show Option.bind (Option.bind (Option.bind (bif decide (key.N<(c.More.length:Int)) then Option.bind (bR c.More key.N) _ else some false) _) _) _=_;by_cases hlt:key.N<c.More.length
   ·have hg:bR c.More key.N=some eO:=by
     rw [HI hn.1 O];exact congrArg some (hno h0 _ hn.1 (List.getElem?_eq_getElem O))
    rw [Nf hlt,ct,hg,bs];rfl
   rw [Ng hlt,cf];rfl
 rw [Ng h0];rfl
theorem GV {p:MX}(hp:p∈PL):bY N w v p.Key=some (p,true):=by
 rw [Ca hN hv hvN h hk (h.len p hp) (fun h0 x _ hx=>Option.some.inj (hx.symm.trans (h.hole p hp h0))),Cz hN hv hvN h.o hk hp,bs]
end
end
section
open Go.RowKit
theorem FY {N:Nat}(hN:20000≤N):keyR N kW:=by
 unfold keyR co;show (Option.bind (kw N (⟨#[108,101,110,103,116,104]⟩:ByteArray)) _)=_
 have h:kw N (⟨#[108,101,110,103,116,104]⟩:ByteArray)=some (0,false):=by
  unfold kw
  have e:((⟨#[108,101,110,103,116,104]⟩:ByteArray).toList==(⟨#[]⟩:ByteArray).toList)=false:=by decide+kernel
  have hg:uQ (⟨#[108,101,110,103,116,104]⟩:ByteArray) 0=some 108:=by decide+kernel
  have hs:((⟨#[108,101,110,103,116,104]⟩:ByteArray).size:Int)=6:=by decide+kernel
  rw [e,cf,bs,hs,hg];obtain ⟨m,rfl⟩: ∃m,N=m+1:=⟨N - 1,by omega⟩;rw [show decide ((10:Int)<6)=false from rfl,cf,bs,show decide ((108:Int)=48)=false from rfl,cf,bs,bs,cf];rw [nT.eq_2,hs,hg];rfl
 rw [h,bs];rfl
theorem Gj (N:Nat):gz N Gr=some true:=by
 obtain ⟨c1,c2,c3,c4,c5,c6,c7,c8⟩:=E6;obtain ⟨e1,e2,e3,e4,e5,e6⟩:=b0
 have x1:aZ .i64 32 63=0:=by decide+kernel
 have x2:aZ .i64 0 4=0:=by decide+kernel
 unfold gz eN eH eG d5 bi lN;simp [Gr,v0,c1,c2,c3,c4,c5,c6,c7,c8,e4,x1,x2]
theorem Gi (N:Nat):gz N H6=some true:=by
 obtain ⟨c1,c2,c3,c4,c5,c6,c7,c8⟩:=Ls;obtain ⟨e1,e2,e3,e4,e5,e6⟩:=b0
 have x1:aZ .i64 34 63=0:=by decide+kernel
 have x2:aZ .i64 0 5=0:=by decide+kernel
 unfold gz eN eH eG d5 bi lN;simp [H6,v0,c1,c2,c3,c4,c5,c6,c7,c8,e3,e5,x1,x2]
theorem Hardens.right {fr:Bool}{p:MX}{d:Na}(h:Hardens fr p d)(N:Nat):gz N d=some true∧ai .i64 d.Has 1=0:=by
 rcases h with ⟨rfl, -⟩|⟨rfl, -⟩
 ·exact ⟨Gj N,E6.2.2.2.2.2.1⟩
 exact ⟨Gi N,Ls.2.2.2.2.2.1⟩
def yq (p:MX):Na:=bif decide (ai .i64 p.Attrs 8=0) then ⟨51,ai .i64 p.Attrs 7,p.Value,v0,v0⟩ else ⟨60,ai .i64 p.Attrs 6,v0,p.Get,p.Set⟩
theorem JR (N:Nat)(p:MX):oe N p=some (yq p):=by
 unfold oe o9 yq;cases decide (ai .i64 p.Attrs 8=0)<;>rfl
theorem LY:ai .i64 51 12=0∧ai .i64 51 3=3∧ai .i64 51 2=2∧ai .i64 51 16=16∧ai .i64 51 32=32∧ai .i64 51 1=1∧ai .i64 51 4=0∧ai .i64 51 8=0:=by decide+kernel
theorem LX:ai .i64 60 12=12∧ai .i64 60 3=0∧ai .i64 60 2=0∧ai .i64 60 16=16∧ai .i64 60 32=32∧ai .i64 60 1=0∧ai .i64 60 4=4∧ai .i64 60 8=8:=by decide+kernel
theorem b7:ai .i64 7 8=0∧ai .i64 7 4=4∧ai .i64 7 1=1∧ai .i64 7 6=6∧bf .i64 0 1=1∧bf .i64 1 2=3∧bf .i64 3 4=7∧bf .i64 0 2=2∧bf .i64 2 4=6∧bf .i64 0 6=6∧bf .i64 6 8=14∧bf .i64 1 6=7∧aZ .i64 7 7=0∧aZ .i64 14 6=8:=by decide+kernel
theorem JQ: ∀a:_root_.Fin 16,ai .i64 (a.val:Int) 9≠9→
  (ai .i64 (a.val:Int) 8=0→bf .i64 0 (ai .i64 (ai .i64 (a.val:Int) 7) 7)=(a.val:Int))∧
  (ai .i64 (a.val:Int) 8≠0→bf .i64 8 (ai .i64 (ai .i64 (a.val:Int) 6) 6)=(a.val:Int)):=by decide+kernel
theorem JP {a:Int}(h:fV a):(ai .i64 a 8=0→bf .i64 0 (ai .i64 (ai .i64 a 7) 7)=a)∧(ai .i64 a 8≠0→bf .i64 8 (ai .i64 (ai .i64 a 6) 6)=a):=by
 have h0:=h.1;have h1:=h.2.1;have:=JQ ⟨a.toNat,by omega⟩;simp only [Int.toNat_of_nonneg h0] at this;exact this h.2.2
theorem CB {N:Nat}{Y:List MY}{i:Nat}{c c':MY}{PL:List MX}(h:ObjP N Y i c PL){n:Nat}(hn:n<PL.length)(hs:c'.Slots=c.Slots.eraseIdx (n+1)):ObjP N (Y.set i c') i c' (PL.eraseIdx n):=by
 have hnum:=h.num
 have hP: ∀m:Nat,(PL.eraseIdx n)[m]? =PL[if m<n then m else m+1]? :=fun m=>by
  rw [List.getElem?_eraseIdx];split<;>rfl
 have hS: ∀m:Nat,c'.Slots[m+1]? =c.Slots[(if m<n then m else m+1)+1]? :=fun m=>by
  rw [hs,List.getElem?_eraseIdx];by_cases e:m<n
  ·rw [if_pos O,if_pos e]
  rw [if_neg O,if_neg e]
 refine ⟨?_,fun m p hp=> ?_,fun m1 m2 x hne h1 h2=> ?_,fun m x hx=> ?_⟩
 ·rw [hs,List.length_eraseIdx_of_lt O,List.length_eraseIdx_of_lt hn];omega
 ·rw [hP] at hp;obtain ⟨x,hx,hsl⟩:=h.each _ p hp;refine ⟨x,by rw [hS];exact hx,hsl.move fun j h9 hj _=>List.getElem?_set_ne fun e=> ?_⟩;subst e;exact h.own _ x hx h9 hj
 ·rw [hS] at h1 h2;refine h.inj _ _ x (fun e=>hne ?_) h1 h2;split at e<;>split at e<;>omega
 rw [hS] at hx;exact h.own _ x hx
section
variable {N:Nat} (hN:20000≤N) {v:MQ} {i:Nat} (hv:v.Kind=7) (hvN:v.N=2*i+1)
include hN hv hvN
variable {k:Nat} {w:MT} {c:MY} {PL:List MX} (h:Obj N i k w c PL)
include h
def Ja (N i k:Nat)(w:MT)(c:MY)(PL:List MX)(key:MM)(r:Bool×MT):Prop:=
 (r=(true,w)∧ ∀p∈PL,p.Key≠key)∨(r=(false,w)∧ ∃p∈PL,p.Key=key∧ai .i64 p.Attrs 4=0)∨
 ∃n p c',r.1=true∧PL[n]? =some p∧p.Key=key∧ai .i64 p.Attrs 4≠0∧Obj N i (k+1024) r.2 c' (PL.eraseIdx n)∧c'.Kind=c.Kind∧c'.More=c.More∧c'.Flags=c.Flags
theorem uJ (hk:k+1100≤1000000000)(key:MM):Sat (gq N w v key) (Ja N i k w c PL key):=by
 have hI:=h.inv;have hle:=hI.obj.row.le hI.ti;rw [List.length_map] at hle
 have hb:w.shapes_.shapes_.length+1024≤1073741824:=by have:=hI.tb;omega
 obtain ⟨z,z1,z2⟩:=hI.obj.rc.proto;have hrc:=hI.obj.rc;have hg:=hI.good;have hsl:=h.obj.num;unfold gq;rw [oY hN hv hvN O hI,bs];show Sat (Option.bind (bn N ⟨c,w,v⟩ key) _) _
 refine (sS (v:=v) hN O hI h.obj key).bind fun y hy=> ?_
 rcases hy with ⟨e1, -,hno⟩|⟨n,e1,e2,hn,hnk⟩
 ·rw [e1];exact ab (.inl ⟨J,hno⟩)
 have hlt:=(List.getElem?_eq_some_iff.1 hn).1;rw [e2]
 refine bh (fun h4=>ab (.inr (.inl ⟨J,y.1,List.mem_of_getElem? hn,hnk,h4⟩))) fun h4=> ?_
 have hnl:(PL.map mQ)[n]? =some (key,y.1.Attrs):=by rw [List.getElem?_map,hn];show some (y.1.Key,y.1.Attrs)=_;rw [hnk]
 show Sat (Option.bind (fA N w.shapes_ c.Shape key) _) _
 refine (Ci N O hI.ti hb hI.obj.row hI.obj.nd key n _ hnl).bind fun r hr=> ?_
 obtain ⟨r3,r4,r5⟩:=hr;rw [r3];refine aQ (by rw [e1];constructor<;>omega) (aQ (by rw [e1];constructor<;>omega) ?_);rw [e1];show Sat (Option.bind (lr N c.Slots ((n:Int)+1) ((n:Int)+2)) _) _;unfold lr;rw [iN O,bs]
 have e3:c.Slots.take ((n:Int)+1).toNat++c.Slots.drop ((n:Int)+2).toNat=c.Slots.eraseIdx (n+1):=by
  rw [List.eraseIdx_eq_take_drop_succ];congr 1
 rw [e3]
 have hm: ∀x∈c.Slots.eraseIdx (n+1),x∈c.Slots:=fun x hx=>List.mem_of_mem_eraseIdx hx
 have hlen:(c.Slots.eraseIdx (n+1)).length=c.Slots.length - 1:=List.length_eraseIdx_of_lt O;have hlen2:(PL.eraseIdx n).length=PL.length - 1:=List.length_eraseIdx_of_lt hlt
 have hmap:(PL.eraseIdx n).map mQ=(PL.map mQ).eraseIdx n:=by
  rw [List.eraseIdx_eq_take_drop_succ,List.map_append,List.map_take,List.map_drop, ←List.eraseIdx_eq_take_drop_succ]
 rw [←hmap] at r5;have hgc:goodC ⟨c.Kind,r.1,c.Flags,c.Age,c.Slots.eraseIdx (n+1),c.More⟩:=⟨by show (c.Slots.eraseIdx (n+1)).length≤5000;have:=hg.sl;omega,hg.ml,fun x hx=>hg.sv x (hm x hx),hg.mv⟩
 have hoc:ObjC N r.2.2 ⟨c.Kind,r.1,c.Flags,c.Age,c.Slots.eraseIdx (n+1),c.More⟩ ((PL.eraseIdx n).map mQ):=by
  refine ⟨⟨hrc.kind,?_,hrc.fl,hrc.age,fun x hx=>hrc.sv x (hm x hx),hrc.mv,by show (c.Slots.eraseIdx (n+1)).length≤1025;have:=hrc.sl;omega,⟨z,?_,z2⟩,hrc.more,hrc.plain⟩,r5,by show (c.Slots.eraseIdx (n+1)).length=_;rw [List.length_map];omega,?_,hI.obj.noP,fun hk2 x hx h0=>hI.obj.idx hk2 x (by rw [hmap] at hx;exact List.mem_of_mem_eraseIdx hx) h0⟩
  ·obtain ⟨s',s1', -⟩:=r5.has r4.ti;exact s1'.1
  ·show (c.Slots.eraseIdx (n+1))[0]? =some z;rw [List.getElem?_eraseIdx_of_lt O];exact z1
  rw [hmap,List.eraseIdx_eq_take_drop_succ,List.map_append,List.map_take,List.map_drop, ←List.eraseIdx_eq_take_drop_succ];exact List.Nodup.sublist (List.eraseIdx_sublist ..) hI.obj.nd
 obtain ⟨g1,g2⟩:=At (w:=Cp w r.2.2) hN hv hvN (k:=k+1024) O ⟨hI.mem.old,hI.mem.good,by have:=hI.mem.len;show w.heap_.m_.Young.length≤_;omega⟩ r4.ti (by have:=r4.num;have:=hI.tb;show r.2.2.shapes_.length≤_;omega) hI.at_ (c':=⟨c.Kind,r.1,c.Flags,c.Age,c.Slots.eraseIdx (n+1),c.More⟩) rfl hgc hoc true
 refine Sat.bind ⟨_,g1,J⟩ fun u hu=> ?_
 rw [←hu];exact ab (.inr (.inr ⟨n,y.1,_,J,hn,hnk,h4,⟨g2,CB h.obj hlt J⟩,J,J,J⟩))
end
def pI (k:MM)(q:MX):MX:=⟨k,q.Attrs,(iP q).Value,(iP q).Get,(iP q).Set⟩
theorem I2: ∀a:_root_.Fin 16,aZ .i64 (bf .i64 (ai .i64 (a.val:Int) 1) (ai .i64 (a.val:Int) 6)) 7=0∧aZ .i64 (ai .i64 (a.val:Int) 6) 7=0∧aZ .i64 (bf .i64 0 (ai .i64 (a.val:Int) 6)) 7=0∧aZ .i64 (bf .i64 (bf .i64 0 (ai .i64 (a.val:Int) 6)) 8) 6=8∧aZ .i64 (bf .i64 (ai .i64 (a.val:Int) 6) 8) 6=8:=by decide+kernel
theorem I1 {a:Int}(h:fV a):aZ .i64 (bf .i64 (ai .i64 a 1) (ai .i64 a 6)) 7=0∧aZ .i64 (ai .i64 a 6) 7=0∧aZ .i64 (bf .i64 0 (ai .i64 a 6)) 7=0∧aZ .i64 (bf .i64 (bf .i64 0 (ai .i64 a 6)) 8) 6=8∧aZ .i64 (bf .i64 (ai .i64 a 6) 8) 6=8:=by
 have h0:=h.1;have h1:=h.2.1;have:=I2 ⟨a.toNat,by omega⟩;simp only [Int.toNat_of_nonneg h0] at this;exact this
theorem te (N:Nat)(p:MX)(hp:fV p.Attrs)(q:MX)(hm:fV q.Attrs)(k:MM):cA N p k (yq q)=some (pI k q):=by
 obtain ⟨pk,pa,pv,pg,ps⟩:=p;obtain ⟨qk,qa,qv,qg,qs⟩:=q;have ha:=JP hm;obtain ⟨a1,a2,a3,a4,a5⟩:=I1 hp;simp only at ha a1 a2 a3 a4 a5;obtain ⟨z1,z2,z3,z4,z5,z6,z7,z8,z9,z10,z11,z12,z13,z14⟩:=b7;unfold yq pI iP;by_cases h8:ai .i64 qa 8=0
 ·obtain ⟨c1,c2,c3,c4,c5,c6,c7,c8⟩:=LY;rw [Nf h8,ct,ct];unfold cA dk d8 dj di dh d7 eN eH eG d5 bi;by_cases h8p:ai .i64 pa 8=0
  ·simp [c1,c2,c3,c4,c5,c6,c7,c8,z5,z6,z7,h8p,a1,ha.1 h8];rfl
  simp [c1,c2,c3,c4,c5,c6,c7,c8,z5,z6,z7,h8p,a2,a3,ha.1 h8];rfl
 obtain ⟨c1,c2,c3,c4,c5,c6,c7,c8⟩:=LX;rw [Ng h8,cf,cf];unfold cA dk d8 dj di dh d7 eN eH eG d5 bi;by_cases h8p:ai .i64 pa 8=0
 ·simp [c1,c2,c3,c4,c5,c6,c7,c8,z8,z9,h8p,a4,a5,ha.2 h8];rfl
 simp [c1,c2,c3,c4,c5,c6,c7,c8,z8,z9,h8p,a4,a5,ha.2 h8];rfl
theorem Ew {q:MX}(hm:fV q.Attrs):ai .i64 (yq q).Has 32≠0∧(ai .i64 q.Attrs 4≠0→ai .i64 (yq q).Attrs 4≠0):=by
 have hfin: ∀a:_root_.Fin 16,ai .i64 (ai .i64 (a.val:Int) 7) 4=ai .i64 (a.val:Int) 4∧ai .i64 (ai .i64 (a.val:Int) 6) 4=ai .i64 (a.val:Int) 4:=by decide+kernel
 have h0:=hm.1;have h1:=hm.2.1;have:=hfin ⟨q.Attrs.toNat,by omega⟩;simp only [Int.toNat_of_nonneg h0] at this;unfold yq;cases decide (ai .i64 q.Attrs 8=0)
 ·rw [cf];exact ⟨by rw [LX.2.2.2.2.1];decide,fun h=>by rw [this.2];exact h⟩
 rw [ct];exact ⟨by rw [LY.2.2.2.2.1];decide,fun h=>by rw [this.1];exact h⟩
theorem E8 (N:Nat)(p:MX)(hp:fV p.Attrs)(q:MX)(hm:fV q.Attrs)(has ext:Bool)(k:MM):Sat (br N p has ext k (yq q)) fun r=>r.2=false∨(r=(pI k q,true)∧(has=true→ai .i64 p.Attrs 4=0→ai .i64 q.Attrs 4=0)):=by
 unfold br nl
 cases has with
 | false=>
  rw [nf,ct]
  cases ext with
  |false=>exact ab (.inl rfl)
  |true=>
   rw [nt,cf];show Sat (Option.bind (Option.bind (cA N ⟨_,0,_,_,_⟩ k (yq q)) _) _) _;rw [te N _ Ez q hm k];exact ab (.inr ⟨J,fun h=>by cases h⟩)
 | true=>
  rw [nt,cf]
  refine bB (P:=fun b=>b=false→ai .i64 p.Attrs 4=0→ai .i64 q.Attrs 4=0) (fun e=> ?_) (fun e=>ab fun _ h=>absurd h (of_decide_eq_false e)) fun b hb=>aP (fun _=>ab (.inl J)) fun e=> ?_
  ·unfold eB bi;obtain ⟨l1,l2⟩:=Ew hm;rw [bs,Ng l1,nf,ct];by_cases h4:ai .i64 q.Attrs 4=0
   ·refine Sat.mono (R:=fun _=>True) ?_ fun _ _ _ _=>h4
    repeat' first|exact ab trivial|refine Sat.bind (P:=fun _=>True) ?_ (fun _ _=> ?_)|refine aP (fun _=> ?_) (fun _=> ?_)
   rw [Ng (l2 h4)]
   exact ab fun h=>by cases h
  rw [te N p hp q hm k,bs];exact ab (.inr ⟨J,fun _=>hb e⟩)
end
section
open Go.RowKit
def nU (n:Int):MM:=⟨0,n,⟨#[]⟩⟩
theorem tT {N:Nat}{k:MM}(h:keyR N k)(h0:k.Kind=0):k=nU k.N:=by
 unfold keyR co at h;rw [Nf h0,ct] at h
 have hs:k.S=⟨#[]⟩:=by
  cases e:(k.S.toList==(⟨#[]⟩:ByteArray).toList) with
  |true=>exact rH.1 (eq_of_beq e)
  |false=>rw [e] at h;cases h
 obtain ⟨a,b,s⟩:=k;simp only at h0 hs;subst h0 hs;rfl
def Ce (c:MY)(PL:List MX)(key:MM)(r:MX×Bool):Prop:=
 (∃x,key.Kind=0∧c.More[key.N.toNat]? =some x∧x≠eO∧r=(⟨key,7,x,v0,v0⟩,true)∧ ∀p∈PL,p.Key≠key)∨
 (r.1∈PL∧r.1.Key=key∧r.2=true∧(key.Kind=0→c.More[key.N.toNat]? =some eO))∨
 (r.2=false∧r.1.Attrs=0∧(∀p∈PL,p.Key≠key)∧(key.Kind=0→ ∀x,c.More[key.N.toNat]? =some x→x=eO))
section
variable {N:Nat} (hN:20000≤N) {v:MQ} {i:Nat} (hv:v.Kind=7) (hvN:v.N=2*i+1)
include hN hv hvN
variable {k:Nat} {w:MT} {c:MY} {PL:List MX}
section
variable (h:Arr N i k w c PL) (hk:k≤1000000000)
include h hk
theorem C0 {key:MM}(hl:key≠kW)(hR:keyR N key):Sat (bY N w v key) (Ce c PL key):=by
 have hob:(key.Kind=0→ ∀x,c.More[key.N.toNat]? =some x→x=eO)→Sat (bY N w v key) (Ce c PL key):=fun hno=>by
  rw [Ca hN hv hvN h hk hl fun h0 x _ hx=>hno h0 x hx]
  refine (Cy hN hv hvN hk h.o.inv h.o.obj key).bind fun r hr=>ab ?_
  rcases hr with ⟨r1,r2,r3⟩|⟨r1,r2,r3⟩
  ·exact .inr (.inr ⟨r1,r2,r3,hno⟩)
  exact .inr (.inl ⟨r2,r3,r1,fun h0=>by rw [←r3];exact h.hole _ r2 (by rw [r3];exact h0)⟩)
 by_cases h0:key.Kind=0
 ·cases e:c.More[key.N.toNat]? with
  |none=>exact hob fun _ x hx=>by rw [e] at hx;cases hx
  |some x=>
   by_cases hx:x=eO
   ·exact hob fun _ y hy=>by rw [e] at hy;cases hy;exact hx
   rw [D6 hN hv hvN h hk h0 hR e hx];refine ab (.inl ⟨x,h0,e,hx,J,fun p hp hpk=> ?_⟩);have:=h.hole p hp (by rw [hpk];exact h0);rw [hpk,e] at this;exact hx (Option.some.inj this)
 exact hob fun e=>absurd e h0
end
section
variable (h:Obj N i k w c PL)
include h
theorem wR (hk:k≤1000000000)(hk2:c.Kind=2)(m:List MQ)(hm:m.length≤4096)(hmv: ∀x∈m,vH N x)(hidx: ∀p∈PL,p.Key.Kind=0→p.Key.N<m.length)(f:Int)(hf:(0≤f∧f≤63)∧ai .i64 f 16=0): ∃w',bH N w v ⟨c.Kind,c.Shape,f,c.Age,c.Slots,m⟩=some w'∧Obj N i k w' ⟨c.Kind,c.Shape,f,c.Age,c.Slots,m⟩ PL:=by
 have hg:=h.inv.good;have hrc:=h.inv.obj.rc;have hlen:=h.inv.mem.len;have hlt:=(List.getElem?_eq_some_iff.1 h.inv.at_).1;have hgc:goodC ⟨c.Kind,c.Shape,f,c.Age,c.Slots,m⟩:=⟨hg.sl,by show m.length≤5000;omega,hg.sv,fun x hx=>(hmv x hx).1⟩
 have hoc:ObjC N w.shapes_ ⟨c.Kind,c.Shape,f,c.Age,c.Slots,m⟩ (PL.map mQ):=⟨⟨hrc.kind,hrc.sh,hf.1,hrc.age,hrc.sv,fun x hx=>(hmv x hx).2,hrc.sl,hrc.proto,hm,fun e=>by have:c.Kind=1:=e;omega⟩,h.inv.obj.row,h.inv.obj.num,h.inv.obj.nd,hf.2,fun _ x hx h0=>by
  obtain ⟨p,hp,rfl⟩:=List.mem_map.1 hx
  exact hidx p hp h0⟩
 obtain ⟨w',h1,h2, -⟩:=store hN hv hvN hk h.inv.mem h.inv.ti h.inv.tb h.inv.at_ (c':=⟨c.Kind,c.Shape,f,c.Age,c.Slots,m⟩) (l':=PL.map mQ) rfl hgc hoc;have h3:=zK N h.inv.mem.good hv hvN O h.inv.at_ hgc (hoc.rc.right hN);rw [h1] at h3;have e:w'=qY w (w.heap_.m_.Young.set i ⟨c.Kind,c.Shape,f,c.Age,c.Slots,m⟩):=Option.some.inj h3;refine ⟨w',h1,h2,?_⟩;rw [e];refine ⟨h.obj.num,fun n p hn=> ?_,h.obj.inj,h.obj.own⟩;obtain ⟨x,hx,hs⟩:=h.obj.each n p hn;refine ⟨x,hx,hs.move fun j h9 hj _=> ?_⟩;show (w.heap_.m_.Young.set i _)[j]? =_;rw [List.getElem?_set_ne];intro e;subst e;exact h.obj.own n x hx h9 hj
theorem KH (hk:k+3000≤1000000000){p:MX}(hp:propV N p)(hd:xK p)(hidx:c.Kind=2→p.Key.Kind=0→p.Key.N<c.More.length)(hR:keyR N p.Key)(hM:fV p.Attrs)(hlen:(∃q∈PL,q.Key=p.Key)∨PL.length<1024):Sat (nn N w v p) fun w'=> ∃c' p' PL',AS N (pI p.Key p) p'∧Put PL PL' p'∧Obj N i (k+2048) w' c' PL'∧c'.Kind=c.Kind∧c'.More=c.More∧c'.Flags=c.Flags:=by
 have h7:rk N ⟨p.Key,7,v0,v0,v0⟩:=.inl b7.1;have hn7:normal ⟨p.Key,7,v0,v0,v0⟩:=⟨fun _=>⟨rfl,rfl⟩,fun _=>rfl⟩;unfold nn qb;rw [oY hN hv hvN O h.inv,bs];show Sat (Option.bind (Option.bind (co N p.Key) _) _) _;rw [show co N p.Key=some true from hR,bs];show Sat (Option.bind (Option.bind (cP N ⟨c,w,v⟩ ⟨p.Key,7,v0,v0,v0⟩) _) _) _;obtain ⟨r,hr, -,c1,p1,PL1,⟨s1,s2,s3⟩,hput,h1,e1,e2,e3⟩:=wD hN hv hvN h O (p:=⟨p.Key,7,v0,v0,v0⟩) ⟨ux N,lz,lz⟩ (fun _=>⟨by show¬(0:Int)=7;decide,by show¬(0:Int)=9;decide⟩) hidx hR FP hlen;rw [hr,bs,bs];have hp1:p1=⟨p.Key,7,v0,v0,v0⟩:=(s3 h7).trans (rm hn7);subst hp1
 have hmem:(⟨p.Key,7,v0,v0,v0⟩:MX)∈PL1:=by
  rcases hput with ⟨-,rfl⟩|⟨n,q,q1, -,rfl⟩
  ·exact Nj _ (List.mem_singleton_self _)
  exact List.mem_of_getElem? (List.getElem?_set_self (List.getElem?_eq_some_iff.1 q1).1)
 rw [JR N p,bs];unfold dg;rw [oY hN hv hvN O h1.inv,bs];show Sat (Option.bind (Option.bind (co N p.Key) _) _) _;rw [show co N p.Key=some true from hR,bs,nt,cf];obtain ⟨hV,n0,hown⟩:=uy (v:=v) hN h1 O hmem;show Sat (Option.bind (Option.bind (bn N ⟨c1,_,v⟩ p.Key) _) _) _;rw [show bn N ⟨c1,_,v⟩ p.Key=some ((⟨p.Key,7,v0,v0,v0⟩:MX),n0,true) from hown,bs]
 have hap: ∀ext,br N (⟨p.Key,7,v0,v0,v0⟩:MX) true ext p.Key (yq p)=some (pI p.Key p,true):=fun ext=>by
  unfold br;rw [nt,cf,Ng (show¬ai .i64 (⟨p.Key,7,v0,v0,v0⟩:MX).Attrs 4=0 by show¬ai .i64 7 4=0;rw [b7.2.1];decide),cf,bs,cf,te N _ FP p hM p.Key,bs]
 show Sat (Option.bind (Option.bind (br N (⟨p.Key,7,v0,v0,v0⟩:MX) true _ p.Key (yq p)) _) _) _;rw [hap,bs]
 have hVp:propV N (pI p.Key p):=by
  unfold pI iP;cases decide (ai .i64 p.Attrs 8=0)
  ·exact ⟨ux N,hp.g,hp.s⟩
  exact ⟨hp.v,lz,lz⟩
 have hdp:xK (pI p.Key p):=fun h8=>by
  have h8':ai .i64 p.Attrs 8=0:=h8;show (iP p).Value.Kind≠7∧(iP p).Value.Kind≠9;unfold iP;rw [Nf h8'];exact hd h8'
 obtain ⟨q,hq, -,c2,p2,PL2,hst,hput2,h2,g1,g2,g3⟩:=wD hN hv hvN h1 O (p:=pI p.Key p) hVp hdp (fun h2 h0=>by rw [e2];exact hidx (e1▸h2) h0) hR hM (.inl ⟨_,hmem,rfl⟩);show Sat (Option.bind (Option.bind (cP N ⟨c1,r.2.w_,v⟩ (pI p.Key p)) _) _) _;rw [hq,bs,bs];refine ab ?_;have hk2:p2.Key=p.Key:=hst.1;refine ⟨c2,p2,PL2,hst,?_,h2.more O,g1.trans e1,g2.trans e2,g3.trans e3⟩;rcases hput2 with ⟨hno, -⟩|⟨n2,q2,q3,q4,rfl⟩
 ·exact absurd hk2.symm (hno ⟨p.Key,7,v0,v0,v0⟩ hmem)
 have hq:q2=⟨p.Key,7,v0,v0,v0⟩:=h1.uniq (List.mem_of_getElem? q3) hmem (q4.trans hk2);rcases hput with ⟨hno,rfl⟩|⟨n,q,q1,q5,rfl⟩
 ·refine .inl ⟨fun u hu=>by rw [hk2];exact hno u hu,?_⟩
  have hn2:n2=PL.length:=by
   rcases Nat.lt_or_ge n2 PL.length with e|e
   ·rw [List.getElem?_append_left e] at q3;exact absurd (by rw [hq]) (hno q2 (List.mem_of_getElem? q3))
   have:=(List.getElem?_eq_some_iff.1 q3).1;rw [List.length_append,List.length_singleton] at this;omega
  rw [hn2,List.set_append_right _ _ (Nat.le_refl _),Nat.sub_self];rfl
 have hn2:n2=n:=by
  have hlt:=(List.getElem?_eq_some_iff.1 q1).1;have hnd:=h1.inv.obj.nd
  have g4:((List.map mQ (PL.set n ⟨p.Key,7,v0,v0,v0⟩)).map (·.1))[n]? =some p.Key:=by rw [List.getElem?_map,List.getElem?_map,List.getElem?_set_self hlt];rfl
  have g5:((List.map mQ (PL.set n ⟨p.Key,7,v0,v0,v0⟩)).map (·.1))[n2]? =some p.Key:=by rw [List.getElem?_map,List.getElem?_map,q3,hq];rfl
  exact (List.getElem?_inj (by have:=(List.getElem?_eq_some_iff.1 q3).1;rw [List.length_map,List.length_map];exact this) hnd).1 (g5.trans g4.symm)
 subst hn2;refine .inr ⟨n2,q,q1,by rw [hk2];exact q5,?_⟩;rw [List.set_set]
end
end
end
section
open Go.RowKit
theorem Put.mem {PL PL':List MX}{p':MX}(h:Put PL PL' p'): ∀q∈PL',q=p'∨q∈PL:=by
 intro q hq;rcases h with ⟨-,rfl⟩|⟨n,u, -, -,rfl⟩
 ·rcases List.mem_append.1 hq with hq|hq
  ·exact .inr hq
  exact .inl (List.mem_singleton.1 hq)
 rcases List.mem_or_eq_of_mem_set hq with hq|hq
 ·exact .inr hq
 exact .inl hq
theorem Obj.gone {N i k:Nat}{w:MT}{c:MY}{PL:List MX}(h:Obj N i k w c PL){n:Nat}{p:MX}(hn:PL[n]? =some p): ∀q∈PL.eraseIdx n,q∈PL∧q.Key≠p.Key:=by
 intro q hq;refine ⟨List.mem_of_mem_eraseIdx hq,?_⟩;have hnd:=h.inv.obj.nd
 have h1:q.Key∈((PL.map mQ).map (·.1)).eraseIdx n:=by
  have e:((PL.map mQ).map (·.1)).eraseIdx n=((PL.eraseIdx n).map mQ).map (·.1):=by
   rw [List.eraseIdx_eq_take_drop_succ,List.eraseIdx_eq_take_drop_succ,List.map_append,List.map_append,List.map_take,List.map_take,List.map_drop,List.map_drop]
  rw [e];exact List.mem_map.2 ⟨mQ q,List.mem_map_of_mem hq,J⟩
 exact ((qz hnd (show ((PL.map mQ).map (·.1))[n]? =some p.Key by rw [List.getElem?_map,List.getElem?_map,hn];rfl) q.Key).1 h1).2
structure MoreX (m0 m:List MQ):Prop where
 le:m0.length≤m.length
 at_: ∀(j:Nat) x,m0[j]? =some x→m[j]? =some x
 new: ∀(j:Nat) x,m[j]? =some x→m0.length≤j→x=eO
theorem MoreX.refl (m:List MQ):MoreX m m:=⟨Nat.le_refl _,fun _ _ h=>h,fun j x h h2=>by have:=(List.getElem?_eq_some_iff.1 h).1;omega⟩
theorem MoreX.snoc {m0 m:List MQ}(h:MoreX m0 m):MoreX m0 (m++ [eO]):=by
 refine ⟨by rw [List.length_append];have:=h.le;omega,fun j x hx=> ?_,fun j x hx hj=> ?_⟩
 ·have:=h.at_ j x hx;rw [List.getElem?_append_left (List.getElem?_eq_some_iff.1 this).1];exact this
 by_cases e:j<m.length
 ·rw [List.getElem?_append_left e] at hx;exact h.new j x hx hj
 have:=(List.getElem?_eq_some_iff.1 hx).1;rw [List.length_append,List.length_singleton] at this;rw [List.getElem?_append_right O,show j - m.length=0 by omega] at hx;exact (Option.some.inj hx).symm
def Lp (N i k:Nat)(c:MY)(PL:List MX)(m:List MQ)(key:MM)(p:MX)(w':MT):Prop:= ∃c' PL',Arr N i (k+4096) w' c' PL'∧c'.Flags=c.Flags∧
  ((p.Attrs=7∧c'.More=m.set key.N.toNat p.Value∧(∀q∈PL',q∈PL))∨(p.Attrs≠7∧c'.More=m.set key.N.toNat eO∧ ∃p',AS N p p'∧Put PL PL' p'))
def Mb (N i k:Nat)(w:MT)(v:MQ)(c:MY)(PL:List MX)(key:MM)(d:Na)(p:MX)(r:Bool×Bool×MT):Prop:=(r.1=false∧r.2.2=w∧((∀y,bY N w v key=some y→br N y.1 y.2 (!decide (ai .i64 c.Flags 1=0)) key d=some (p,true))→key.N<c.More.length→1024≤PL.length))∨(r.1=true∧(∃y,bY N w v key=some y∧br N y.1 y.2 (!decide (ai .i64 c.Flags 1=0)) key d=some (p,true))∧ ∃m',MoreX c.More m'∧key.N<m'.length∧(key.N<c.More.length→m'=c.More)∧Lp N i k c PL m' key p r.2.2)
structure Layable (N:Nat) (key:MM) (p:MX):Prop where
 v:propV N p
 d:xK p
 m:fV p.Attrs
 k:pI key p=p
theorem Layable.key {N:Nat}{key:MM}{p:MX}(h:Layable N key p):p.Key=key:=by
 rw [←h.k];rfl
section
variable {N:Nat} (hN:20000≤N) {v:MQ} {i:Nat} (hv:v.Kind=7) (hvN:v.N=2*i+1)
include hN hv hvN
variable {k:Nat} {w:MT} {c:MY} {PL:List MX} (h:Arr N i k w c PL)
include h
section
variable (hk:k+5000≤1000000000) (key:MM) (h0:key.Kind=0) (hR:keyR N key) (hkey:key.N<4096) (y29 y23:MX×Bool) (hp:Layable N key y23.1) (hodd1:y29.2=true→ ∃q∈PL,q.Key=key) (hodd0:y29.2=false→ ∀q∈PL,q.Key≠key) (hfull:y23.1.Attrs≠7→y29.2=true∨PL.length<1024) (hloose:y23.1.Attrs=7→ ∀q∈PL,q.Key=key→ai .i64 q.Attrs 4≠0)
include hk h0 hR hkey hp hodd1 hodd0 hfull hloose
theorem GR (m:List MQ)(hmx:MoreX c.More m)(hm:m.length≤4096)(hm2:key.N<m.length)(hmv: ∀x∈m,vH N x)(m2:List MQ)(hm3:m2=m.set key.N.toNat (bif decide (y23.1.Attrs=7) then y23.1.Value else eO)):Sat (gY N y29 w v c key y23 m2) fun r=>r.1=true∧Lp N i k c PL m key y23.1 r.2.2:=by
 have hb:=hR.b O h0
 have hlen:m2.length=m.length:=by rw [hm3,List.length_set]
 have hle:=hmx.le
 have hmv2: ∀x∈m2,vH N x:=fun x hx=>by
  rw [hm3] at hx;rcases List.mem_or_eq_of_mem_set hx with hx|rfl
  ·exact hmv x hx
  cases decide (y23.1.Attrs=7)
  ·exact Ab N
  exact hp.v.v
 have hhole: ∀p∈PL,p.Key.Kind=0→p.Key≠key→m2[p.Key.N.toNat]? =some eO:=fun p hpm hp0 hne=>by
  have hpR:=(h.o.key hpm).1;have e1:=tT hpR hp0;have e2:=tT hR h0;have b1:=hpR.b O hp0;rw [hm3,List.getElem?_set_ne]
  ·exact hmx.at_ _ _ (h.hole p hpm hp0)
  intro e;exact hne (by rw [e1,e2,show p.Key.N=key.N by omega])
 obtain ⟨w',h1,h2⟩:=wR hN hv hvN h.o O h.kind m2 O hmv2 (fun p hpm hp0=>by have:=h.o.inv.obj.idx h.kind _ (List.mem_map_of_mem (f:=mQ) hpm) hp0;have:p.Key.N<c.More.length:=this;omega) c.Flags ⟨h.o.inv.obj.rc.fl,h.o.inv.obj.noP⟩;unfold gY;rw [h1,bs]
 refine bh (fun h7=> ?_) fun h7=> ?_
 ·have hm7:m2=m.set key.N.toNat y23.1.Value:=by rw [hm3,Nf h7];rfl
  unfold nY
  refine Sat.bind (P:=fun w2=>Lp N i k c PL m key y23.1 w2) (aP (fun e=>(uJ hN hv hvN h2 O key).bind fun r hr=>ab ?_) fun e=>ab ⟨_,PL,⟨h2.more O,h.kind,fun p hpm hp0=>hhole p hpm hp0 (hodd0 e p hpm),h.len⟩,J,.inl ⟨h7,hm7,fun q hq=>hq⟩⟩) fun u hu=>ab ⟨J,hu⟩
  obtain ⟨q,hq1,hq2⟩:=hodd1 e;rcases hr with ⟨-,hno⟩|⟨-,p,p1,p2,p3⟩|⟨n,p,c', -,p1,p2, -,p3,p4,p5,p6⟩
  ·exact absurd hq2 (hno q hq1)
  ·exact absurd p3 (hloose h7 p p1 p2)
  have hg:=h2.gone p1;refine ⟨c',_,⟨p3.more O,p4.trans h.kind,fun u hu hu0=> ?_,fun u hu=>h.len u (hg u hu).1⟩,p6,.inl ⟨h7,p5.trans hm7,fun u hu=>(hg u hu).1⟩⟩;rw [p5];exact hhole u (hg u hu).1 hu0 (by rw [←p2];exact (hg u hu).2)
 have hm8:m2=m.set key.N.toNat eO:=by rw [hm3,Ng h7];rfl
 have hpk:=hp.key
 refine (KH hN hv hvN h2 O hp.v hp.d (fun _ _=>by rw [hpk];show key.N<m2.length;omega) (by rw [hpk];exact hR) hp.m (by
  rw [hpk];rcases hfull h7 with e|e
  ·exact .inl (hodd1 e)
  ·exact .inr e)).bind fun u hu=>ab ⟨J,?_⟩
 obtain ⟨c',p',PL',hst,hput,g1,g2,g3,g4⟩:=hu;rw [hpk,hp.k] at hst;have hpk':p'.Key=key:=hst.1.trans hpk;refine ⟨c',PL',⟨g1.more O,g2.trans h.kind,fun u hu hu0=> ?_,fun u hu e=> ?_⟩,g4,.inr ⟨h7,g3.trans hm8,p',hst,hput⟩⟩
 ·rw [g3];show m2[u.Key.N.toNat]? =some eO;by_cases e:u.Key=key
  ·rw [e,hm8];exact List.getElem?_set_self O
  rcases hput.mem u hu with rfl|hu
  ·exact absurd hpk' e
  exact hhole u hu hu0 e
 rcases hput.mem u hu with rfl|hu
 ·rw [hpk'] at e;rw [e] at h0;exact absurd h0 (by decide)
 exact h.len u hu e
theorem KC (m:List MQ)(hmx:MoreX c.More m)(hm:m.length≤4096)(hm2:key.N<m.length)(hmv: ∀x∈m,vH N x):Sat (jz N y29 w v c key y23 m) fun r=>r.1=true∧Lp N i k c PL m key y23.1 r.2.2:=by
 have hb:=hR.b O h0;unfold jz
 refine bO O hm2 fun _ _=>bh (fun h7=>bO O (by rw [List.length_set];exact hm2) fun _ _=> ?_) fun h7=> ?_
 ·exact GR hN hv hvN h hk key h0 hR hkey y29 y23 hp hodd1 hodd0 hfull hloose m hmx hm hm2 hmv _ (by rw [List.set_set,Nf h7];rfl)
 exact GR hN hv hvN h hk key h0 hR hkey y29 y23 hp hodd1 hodd0 hfull hloose m hmx hm hm2 hmv _ (by rw [Ng h7];rfl)
theorem GS: ∀(n:Nat) (m:List MQ),4097<n+m.length→m.length≤4096→MoreX c.More m→(key.N<c.More.length→m=c.More)→(∀x∈m,vH N x)→Sat (fS N y29 w v c key y23 n m) fun r=>r.1=true∧ ∃m',MoreX c.More m'∧key.N<m'.length∧(key.N<c.More.length→m'=c.More)∧Lp N i k c PL m' key y23.1 r.2.2
 |0,m,g0,h1,_,_,_=>by omega
 |n+1,m,g0,h1,h2,h3,h4=>by
  rw [fS.eq_2]
  refine bh (fun h5=>aQ (by unfold gQ;rw [List.length_singleton];omega) ?_) fun h5=>(KC hN hv hvN h hk key h0 hR hkey y29 y23 hp hodd1 hodd0 hfull hloose m h2 h1 O h4).mono fun r hr=>⟨hr.1,m,h2,by omega,h3,hr.2⟩
  refine GS n _ (by rw [List.length_append,List.length_singleton];omega) (by rw [List.length_append,List.length_singleton];omega) h2.snoc (fun e=>by have:=h2.le;omega) fun x hx=> ?_
  rcases List.mem_append.1 hx with hx|hx
  ·exact h4 x hx
  rw [List.mem_singleton] at hx;subst hx;exact Ab N
end
theorem D9 (hk:k+5000≤1000000000)(key:MM)(h0:key.Kind=0)(hR:keyR N key)(d:Na)(p:MX)(hp:Layable N key p)(hap: ∀y,bY N w v key=some y→Ce c PL key y→Sat (br N y.1 y.2 (!decide (ai .i64 c.Flags 1=0)) key d) fun r=>r.2=false∨(r=(p,true)∧(y.2=true→ai .i64 y.1.Attrs 4=0→ai .i64 p.Attrs 4=0))):Sat (kR N w v c key d) (Mb N i k w v c PL key d p):=by
 have hmo:=h.o.inv.obj.rc.more;have hb:=hR.b O h0;have hle:=h.o.inv.obj.row.le h.o.inv.ti;rw [List.length_map] at hle
 have hl:key≠kW:=fun e=>by rw [e] at h0;exact absurd h0 (by decide)
 obtain ⟨y,hy,hown⟩:=C0 hN hv hvN h O hl hR;obtain ⟨pr,hpr,hap'⟩:=hap y hy hown;unfold kR;rw [hy,bs];show Sat (Option.bind (br N y.1 y.2 (!decide (ai .i64 c.Flags 1=0)) key d) _) _;rw [hpr,bs]
 have hno:pr.2=false→((∀y,bY N w v key=some y→br N y.1 y.2 (!decide (ai .i64 c.Flags 1=0)) key d=some (p,true))→key.N<c.More.length→1024≤PL.length):=fun e hh=>by
  have:=hh y hy;rw [hpr] at this;rw [Option.some.inj this] at e;cases e
 refine eK (fun e=>ab (.inl ⟨J,J,hno e⟩)) fun e=> ?_
 rcases hap' with hap'|⟨hpe,hlo⟩
 ·rw [hap'] at e;cases e
 subst hpe
 refine bh (fun h4=>ab (.inl ⟨J,J,fun _ hlt=>by omega⟩)) fun h4=>bB (P:=fun b=>b=true→(c.More.length:Int)≤key.N) (fun e=>ab fun _=>of_decide_eq_true e) (fun _=>ab fun h=>by cases h) fun b hb2=>aP (fun e2=>ab (.inl ⟨J,J,fun _ hlt=>by have:=hb2 e2;omega⟩)) fun _=> ?_
 refine (Cy hN hv hvN O h.o.inv h.o.obj key).bind fun q hq=> ?_
 have hodd1:q.2=true→ ∃u∈PL,u.Key=key:=fun e=>by
  rcases hq with ⟨q1, -⟩|⟨-,q2,q3⟩
  ·rw [q1] at e;cases e
  exact ⟨q.1,q2,q3⟩
 have hodd0:q.2=false→ ∀u∈PL,u.Key≠key:=fun e=>by
  rcases hq with ⟨-, -,q1⟩|⟨q1, -⟩
  ·exact q1
  rw [q1] at e;cases e
 have hloose:p.Attrs=7→ ∀u∈PL,u.Key=key→ai .i64 u.Attrs 4≠0:=fun e u hu huk h4'=>by
  rcases hown with ⟨x, -, -, -, -,hno⟩|⟨y1,y2,y3, -⟩|⟨-, -,hno, -⟩
  ·exact hno u hu huk
  ·have hyu:y.1=u:=h.o.uniq y1 hu (y2.trans huk.symm);have:=hlo y3 (by rw [hyu];exact h4');rw [e,b7.2.1] at this;exact absurd this (by decide)
  exact hno u hu huk
 have hgo:(p.Attrs≠7→q.2=true∨PL.length<1024)→Sat (fS N q w v c key (p,true) N c.More) (Mb N i k w v c PL key d p):=fun hfull=>
  (GS hN hv hvN h hk key h0 hR O q (p,true) hp hodd1 hodd0 hfull hloose N c.More O hmo (MoreX.refl _) (fun _=>rfl) (zT hN hv hvN h.o.inv)).mono fun r hr=> .inr ⟨hr.1,⟨y,hy,hpr⟩,hr.2⟩
 refine bB (P:=fun b=>b=false→p.Attrs≠7→q.2=true) (fun e=>ab fun h h7=> ?_) (fun e=>ab fun _ h7=> ?_) fun b hb3=>aP (fun _=> ?_) fun e=>hgo fun h7=> .inl (hb3 e h7)
 ·cases hq2:q.2
  ·rw [hq2] at h;cases h
  rfl
 ·have e2:(!decide (p.Attrs=7))=false:=e;rw [Bool.not_eq_false'] at e2;exact absurd (of_decide_eq_true e2) h7
 refine (sY hN hv hvN O h.o.inv).bind fun z hz=>bh (fun h10=>ab (.inl ⟨J,J,fun _ _=> ?_⟩)) fun h10=> ?_
 ·have:z.length=PL.length:=by have:=congrArg List.length hz;rw [List.length_map,List.length_map] at this;exact this
  omega
 rw [GQ hN hv hvN h.o.inv O h.kind key ⟨hb.1,by omega⟩ q (p,true) hp.v hp.key]
 refine hgo fun _=> .inr ?_
 have:z.length=PL.length:=by have:=congrArg List.length hz;rw [List.length_map,List.length_map] at this;exact this
 omega
end
end
section
open Go.RowKit
def G6 (N i k:Nat)(c:MY)(PL:List MX)(n:Int)(w':MT):Prop:= ∃c' PL',Arr N i k w' c' PL'∧c'.Flags=c.Flags∧(∀q∈PL',q∈PL)∧(∀(j:Nat) x,c'.More[j]? =some x→x≠eO→c.More[j]? =some x)∧(n=c.More.length→c'.More=c.More∧PL'=PL)
section
variable {N:Nat} (hN:20000≤N) {v:MQ} {i:Nat} (hv:v.Kind=7) (hvN:v.N=2*i+1)
include hN hv hvN
section
variable (n stop:Int) (c0:MY) (PL0 y:List MX) (hy:y.map (fun x=>(x.Key,x.Attrs))=PL0.map mQ) (hl0:PL0.length≤1024) (p26:List MQ) (y16:MY×Bool) (h26:p26.length≤4096) (h26x:MoreX c0.More p26) (h26n:n=c0.More.length→p26=c0.More) (h26v: ∀x∈p26,vH N x) (hs0:0≤stop) (hs1:stop.toNat≤p26.length) (hsn:n≤stop) (hloose: ∀p∈PL0,p.Key.Kind=0→stop≤p.Key.N→ai .i64 p.Attrs 4≠0) (hhole: ∀p∈PL0,p.Key.Kind=0→0≤p.Key.N∧c0.More[p.Key.N.toNat]? =some eO) (hlen: ∀p∈PL0,p.Key≠kW) {k:Nat} (hk:k+2000000≤1000000000)
include hy hl0 h26 h26x h26n h26v hs0 hs1 hsn hloose hhole hlen hk
theorem wh: ∀(m j:Nat) (w:MT) (c:MY) (PL:List MX),y.length<m+j→j≤y.length→Obj N i (k+1024*j) w c PL→c.Kind=2→c.Flags=c0.Flags→(∀q∈PL,q∈PL0)→(∀q∈PL,q.Key.Kind=0→stop≤q.Key.N→mQ q∈(PL0.map mQ).drop j)→((∀q∈PL0,q.Key.Kind=0→q.Key.N<stop)→PL=PL0)→Sat (gM N n stop y v y16 p26 m (j:Int) w.spent_.steps_ w.spent_.made_ w.spent_.calls_ w.config_.Way w.config_.Steps w.config_.Calls w.config_.Made w.config_.Young w.config_.Full w.config_.Sites w.symbols_ w.epoch_ w.serial_ w.sleepers_ w.events_ w.out_ w.heap_.m_.Young w.heap_.m_.Old w.heap_.roots_ w.heap_.pending_ w.shapes_.shapes_ w.shapes_.next_ w.heap_.set_.at_) fun r=>G6 N i (k+1048576) c0 PL0 n r.2
 |0,j,w,c,PL,g0,g1,_,_,_,_,_,_=>by omega
 | m +1,j,w,c,PL,g0,g1,h,hc2,hfl,hsub,hbad,hall=>by
  have hyl:y.length=PL0.length:=by have:=congrArg List.length hy;rw [List.length_map,List.length_map] at this;exact this
  rw [gM.eq_2]
  refine bh (fun h3=> ?_) fun h3=> ?_
  ·have hj:j<y.length:=by omega
   have hj0:j<PL0.length:=by omega
   have hxe:mQ PL0[j]=(y[j].Key,y[j].Attrs):=by
    have h1:(y.map (fun x=>(x.Key,x.Attrs)))[j]? =some (y[j].Key,y[j].Attrs):=by rw [List.getElem?_map,List.getElem?_eq_getElem hj];rfl
    rw [hy,List.getElem?_map,List.getElem?_eq_getElem hj0] at h1;exact Option.some.inj h1
   have hpk:PL0[j].Key=y[j].Key:=congrArg Prod.fst hxe;have hpm:PL0[j]∈PL0:=List.getElem_mem _
   have hdrop:(PL0.map mQ).drop j=(y[j].Key,y[j].Attrs)::(PL0.map mQ).drop (j+1):=by
    rw [List.drop_eq_getElem_cons (by rw [List.length_map];exact hj0),List.getElem_map,hxe]
   rw [jv hj,bs]
   refine bB (P:=fun b=>(b=true→y[j].Key.Kind=0∧stop≤y[j].Key.N)∧(b=false→ ¬(y[j].Key.Kind=0∧stop≤y[j].Key.N))) (fun e=>ab ⟨fun h=>⟨of_decide_eq_true e,of_decide_eq_true h⟩,fun h h2=>of_decide_eq_false h h2.2⟩) (fun e=>ab ⟨fun h=>(Bool.noConfusion h),fun _ h2=>of_decide_eq_false e h2.1⟩) fun b hb=>aP (fun e=> ?_) fun e=> ?_
   ·obtain ⟨hb1,hb2⟩:=hb.1 e
    have hnall: ¬ ∀q∈PL0,q.Key.Kind=0→q.Key.N<stop:=fun hh=>by
     have:=hh _ hpm (by rw [hpk];exact hb1);rw [hpk] at this;omega
    have hnext: ∀PL':List MX,(∀q∈PL',q∈PL∧q.Key≠y[j].Key)→ ∀q∈PL',q.Key.Kind=0→stop≤q.Key.N→mQ q∈(PL0.map mQ).drop (j+1):=fun PL' hP q hq q0 q1=>by
     have:=hbad q (hP q hq).1 q0 q1;rw [hdrop] at this;rcases List.mem_cons.1 this with e2|this
     ·exact absurd (congrArg Prod.fst e2) (hP q hq).2
     exact this
    refine (uJ hN hv hvN h O y[j].Key).bind fun r hr=> ?_
    unfold iH;refine aQ (by constructor<;>omega) ?_;rcases hr with ⟨rfl,hno⟩|⟨-,p,p1,p2,p3⟩|⟨q,p,c', -,p1,p2, -,p3,p4,p5,p6⟩
    ·exact wh m (j+1) w c PL O O (h.more O) hc2 hfl hsub (hnext PL fun q hq=>⟨hq,hno q hq⟩) hall
    ·exact absurd p3 (hloose p (hsub p p1) (by rw [p2];exact hb1) (by rw [p2];exact hb2))
    have hg:=h.gone p1;rw [p2] at hg
    exact wh m (j+1) r.2 c' _ O O (by rw [Nat.mul_add, ←Nat.add_assoc];exact p3) (p4.trans hc2) (p6.trans hfl) (fun u hu=>hsub u (hg u hu).1) (hnext _ hg) fun hh=>absurd hh hnall
   have hnb:=hb.2 e;unfold iH;refine aQ (by constructor<;>omega) ?_;refine wh m (j+1) w c PL O O (h.more O) hc2 hfl hsub (fun q hq q0 q1=> ?_) hall;have:=hbad q hq q0 q1;rw [hdrop] at this;rcases List.mem_cons.1 this with e2|this
   ·have e3:q.Key=y[j].Key:=congrArg Prod.fst e2;rw [e3] at q0 q1;exact absurd ⟨q0,q1⟩ hnb
   exact this
  have hin: ∀q∈PL,q.Key.Kind=0→q.Key.N<stop:=fun q hq q0=>by
   apply Int.lt_of_not_ge;intro hge;have:=hbad q hq q0 O;rw [List.drop_of_length_le (by rw [List.length_map];omega)] at this;cases this
  unfold mH;show Sat (Option.bind (dE N w v) _) _;rw [ns hN hv hvN O h.inv,bs];refine aQ ⟨hs0,hs1⟩ ?_;obtain ⟨w',e1,e2⟩:=wR hN hv hvN h O hc2 (p26.take stop.toNat) (by rw [List.length_take];omega) (fun x hx=>h26v x (List.mem_of_mem_take hx)) (fun p hp h0=>by rw [List.length_take,Nat.min_eq_left hs1];have:=hin p hp h0;omega) c.Flags ⟨h.inv.obj.rc.fl,h.inv.obj.noP⟩;show Sat (Option.bind (bH N w v ⟨c.Kind,c.Shape,c.Flags,c.Age,c.Slots,p26.take stop.toNat⟩) _) _;rw [e1,bs];refine ab ⟨_,PL,⟨e2.more O,hc2,fun p hp h0=> ?_,fun p hp=>hlen p (hsub p hp)⟩,hfl,hsub,fun j x hx hxh=> ?_,fun hnl=> ?_⟩
  ·show (p26.take stop.toNat)[p.Key.N.toNat]? =_;have:=hin p hp h0;have h3:=(hhole p (hsub p hp) h0).1;rw [List.getElem?_take_of_lt O];exact h26x.at_ _ _ (hhole p (hsub p hp) h0).2
  ·change (p26.take stop.toNat)[j]? =some x at hx;have hj:=(List.getElem?_eq_some_iff.1 hx).1;rw [List.length_take] at hj;rw [List.getElem?_take_of_lt O] at hx;by_cases e:c0.More.length≤j
   ·exact absurd (h26x.new j x hx e) hxh
   have h4:=h26x.at_ j _ (List.getElem?_eq_getElem O);rw [List.getElem?_eq_getElem O, ←Option.some.inj (hx.symm.trans h4)]
  have h5:=h26n hnl;refine ⟨?_,hall fun q hq q0=> ?_⟩
  ·show p26.take stop.toNat=_;rw [h5] at hs1⊢;rw [List.take_of_length_le O]
  obtain ⟨b1,b2⟩:=hhole q hq q0;have:=(List.getElem?_eq_some_iff.1 b2).1;omega
end
variable {k:Nat} {w:MT} {c:MY} {PL:List MX} (h:Arr N i k w c PL)
include h
theorem GT: ∀p∈PL,p.Key.Kind=0→0≤p.Key.N∧c.More[p.Key.N.toNat]? =some eO:=by
 have:=hv;have:=hvN
 exact fun p hp h0=>⟨((h.o.key hp).1.b O h0).1,h.hole p hp h0⟩
theorem zY (hk:k+2000000≤1000000000)(n:Int)(y:List MX)(hy:y.map (fun x=>(x.Key,x.Attrs))=PL.map mQ)(y16:MY×Bool)(p26:List MQ)(h26:p26.length≤4096)(h26v: ∀x∈p26,vH N x)(h26x:MoreX c.More p26)(h26n:n=c.More.length→p26=c.More): ∀(m j:Nat) (stop:Int),y.length<m+j→j≤y.length→0≤stop→stop≤p26.length→n≤stop→(∀x∈(PL.map mQ).take j,x.1.Kind=0→ai .i64 x.2 4=0→x.1.N<stop)→Sat (gN N n y w v y16 p26 m stop (j:Int)) fun r=>G6 N i (k+1048576) c PL n r.2
 |0,j,stop,g0,h1,_,_,_,_=>by omega
 | m +1,j,stop,g0,h1,h2,h3,hns,h4=>by
  have hyl:y.length=PL.length:=by have:=congrArg List.length hy;rw [List.length_map,List.length_map] at this;exact this
  have hI:=h.o.inv;have hle:=hI.obj.row.le hI.ti;have hmp:=h26x.le
  have hle2:PL.length≤1024:=by rw [List.length_map] at hle;exact hle
  rw [gN.eq_2]
  refine bh (fun h5=> ?_) fun h5=> ?_
  ·have hj:j<y.length:=by omega
   have hj0:j<PL.length:=by omega
   have hx:(PL.map mQ)[j]? =some (y[j].Key,y[j].Attrs):=by rw [←hy,List.getElem?_map,List.getElem?_eq_getElem hj];rfl
   have hmem:(y[j].Key,y[j].Attrs)∈PL.map mQ:=List.mem_of_getElem? hx
   have htk:(PL.map mQ).take (j+1)=(PL.map mQ).take j++ [(y[j].Key,y[j].Attrs)]:=by rw [List.take_add_one,hx];rfl
   rw [jv hj,bs]
   refine bB (P:=fun b=>(b=true→y[j].Key.Kind=0)∧(b=false→ ¬(y[j].Key.Kind=0∧ai .i64 y[j].Attrs 4=0))) (fun e=>ab ⟨fun _=>of_decide_eq_true e,fun h h2=>of_decide_eq_false h h2.2⟩) (fun e=>ab ⟨fun h=>(Bool.noConfusion h),fun _ h2=>of_decide_eq_false e h2.1⟩) fun b hb=>aP (fun e=> ?_) fun e=> ?_
   ·have hb1:=hb.1 e;have h6:=hI.obj.idx h.kind _ hmem hb1;have h7:=(hI.obj.row.ok hI.ti _ hmem).1.b O hb1;simp only at h6 h7;unfold jf;refine aQ (by constructor<;>omega) (aQ (by constructor<;>omega) ?_)
    refine zY hk n y hy y16 p26 h26 h26v h26x h26n m (j+1) _ O O O O O fun x hx0=> ?_
    rw [htk] at hx0;rcases List.mem_append.1 hx0 with hx0|hx0
    ·intro g1 g2;have:=h4 x hx0 g1 g2;omega
    rw [List.mem_singleton] at hx0;subst hx0;intro _ _;show y[j].Key.N<_;omega
   have hnb:=hb.2 e;unfold jf;refine aQ (by constructor<;>omega) ?_
   refine zY hk n y hy y16 p26 h26 h26v h26x h26n m (j+1) _ O O h2 h3 hns fun x hx0=> ?_
   rw [htk] at hx0;rcases List.mem_append.1 hx0 with hx0|hx0
   ·exact h4 x hx0
   rw [List.mem_singleton] at hx0;subst hx0;intro g1 g2;exact absurd ⟨g1,g2⟩ hnb
  unfold mI
  refine (sY hN hv hvN O hI).bind fun z hz=> ?_
  rw [List.take_of_length_le (by rw [List.length_map];omega)] at h4
  have hzl:z.length=PL.length:=by have:=congrArg List.length hz;rw [List.length_map,List.length_map] at this;exact this
  exact wh hN hv hvN n stop c PL z hz (by rw [List.length_map] at hle;exact hle) p26 y16 h26 h26x h26n h26v h2 O hns (fun p hp g1 g2 g3=>by have:=h4 _ (List.mem_map_of_mem (f:=mQ) hp) g1 g3;have:p.Key.N<stop:=this;omega) (GT hN hv hvN h) h.len hk N 0 w c PL (by rw [List.length_map] at hle;omega) O (h.o.more O) h.kind J (fun _ hx=>hx) (fun q hq _ _=>List.mem_map_of_mem (f:=mQ) hq) fun _=>J
theorem Dk (hk:k+2000000≤1000000000)(n:Int)(hn0:0≤n)(hn:n≤4096)(y16:MY×Bool): ∀(m:Nat) (p:List MQ),4097<m+p.length→p.length≤4096→MoreX c.More p→(n≤c.More.length→p=c.More)→(∀x∈p,vH N x)→Sat (kS N n w v y16 m p) fun r=>G6 N i (k+1048576) c PL n r.2
 |0,p,g0,h1,_,_,_=>by omega
 | m+1,p,g0,h1,h2,hpn,h3=>by
  have hpl:=h2.le;rw [kS.eq_2]
  refine bh (fun h4=>aQ (by unfold gQ;rw [List.length_singleton];omega) ?_) fun h4=> ?_
  ·refine Dk hk n hn0 hn y16 m _ (by rw [List.length_append,List.length_singleton];omega) (by rw [List.length_append,List.length_singleton];omega) h2.snoc (fun e=>by omega) fun x hx=> ?_
   rcases List.mem_append.1 hx with hx|hx
   ·exact h3 x hx
   rw [List.mem_singleton] at hx;subst hx;exact Ab N
  unfold mJ;have hI:=h.o.inv;have hle:=hI.obj.row.le hI.ti
  refine (sY hN hv hvN O hI).bind fun z hz=> ?_
  have hzl:z.length=(PL.map mQ).length:=by rw [←hz,List.length_map]
  exact zY hN hv hvN h hk n z hz y16 p h1 h3 h2 (fun e=>hpn O) N 0 n O O hn0 O O (by simp)
theorem Fo (hk:k+2000000≤1000000000)(n:Int):Sat (mn N w v n) fun r=>G6 N i (k+1048576) c PL n r.2:=by
 have hst:G6 N i (k+1048576) c PL n w:=⟨c,PL,⟨h.o.more O,h.kind,h.hole,h.len⟩,rfl,fun _ hq=>hq,fun _ _ hx _=>hx,fun _=>⟨rfl,rfl⟩⟩;have hmo:=h.o.inv.obj.rc.more;unfold mn;rw [ns hN hv hvN O h.o.inv,bs]
 refine bB (P:=fun b=>b=false→0≤n) (fun _=>ab fun h=>(Bool.noConfusion h)) (fun e=>ab fun h=> ?_) fun b20 h20=> ?_
 ·have:=of_decide_eq_false h;omega
 refine bB (P:=fun b=>b=false→0≤n∧n≤4096) (fun _=>ab fun h=>(Bool.noConfusion h)) (fun e=>ab fun h=> ?_) fun b21 h21=> ?_
 ·have:=of_decide_eq_false h;exact ⟨h20 e,by omega⟩
 refine bB (P:=fun b=>b=false→0≤n∧n≤4096) (fun _=>ab fun h=>(Bool.noConfusion h)) (fun e=>bB (P:=fun _=>True) (fun _=>ab trivial) (fun _=>ab trivial) fun _ _=>ab fun _=>h21 e) fun b22 h22=> ?_
 refine aP (fun _=>ab hst) fun e=> ?_
 obtain ⟨h6,h7⟩:=h22 e;exact Dk hN hv hvN h hk n h6 h7 _ N c.More O hmo (MoreX.refl _) (fun _=>J) (zT hN hv hvN h.o.inv)
theorem Dq (hk:k≤1000000000): ∃w',bH N w v ⟨c.Kind,c.Shape,bf .i64 c.Flags 32,c.Age,c.Slots,c.More⟩=some w'∧Arr N i k w' ⟨c.Kind,c.Shape,bf .i64 c.Flags 32,c.Age,c.Slots,c.More⟩ PL:=by
 obtain ⟨w',h1,h2⟩:=wR hN hv hvN h.o hk h.kind c.More h.o.inv.obj.rc.more (zT hN hv hvN h.o.inv) (fun p hp h0=>h.o.inv.obj.idx h.kind _ (List.mem_map_of_mem (f:=mQ) hp) h0) _ (Lf h.o.inv.obj.rc.fl h.o.inv.obj.noP);exact ⟨w',h1,h2,h.kind,h.hole,h.len⟩
end
end
section
open Go.RowKit
def sK (p:MX)(f:Int):Int:=bif decide (ai .i64 p.Attrs 1=0) then bf .i64 f 32 else f
def KR (N i k K:Nat)(w:MT)(c:MY)(PL:List MX)(d:Na)(r:Bool×Bool×MT):Prop:=
 (r.1=false∧r.2.2=w∧(ai .i64 d.Has 1=0→ ∀p,br N (f8 c) true true kW d≠some (p,true)))∨
 ∃p,br N (f8 c) true true kW d=some (p,true)∧(ai .i64 d.Has 1=0→r.1=true)∧ ∃c' PL',Arr N i (k+K) r.2.2 c' PL'∧c'.Flags=sK p c.Flags∧(∀q∈PL',q∈PL)∧(∀(j:Nat) x,c'.More[j]? =some x→x≠eO→c.More[j]? =some x)∧(ai .i64 d.Has 1=0∨d.Value.N=c.More.length→c'.More=c.More∧PL'=PL)
theorem Arr.more {N i k k':Nat}{w:MT}{c:MY}{PL:List MX}(h:Arr N i k w c PL)(hk:k≤k'):Arr N i k' w c PL:=⟨h.o.more hk,h.kind,h.hole,h.len⟩
section
variable {N:Nat} (hN:20000≤N) {v:MQ} {i:Nat} (hv:v.Kind=7) (hvN:v.N=2*i+1)
include hN hv hvN
section
variable {k:Nat} {w:MT} {c:MY} {PL:List MX} (h:Arr N i k w c PL)
include h
theorem Dj:propV N (f8 c)∧fV (f8 c).Attrs:=by
 have:=And.intro hN (And.intro hv hvN);obtain ⟨y,hy,hy2⟩:=D7 N c h.o.inv.obj.rc.more;rw [AQ] at hy;rw [Option.some.inj hy];exact hy2
theorem vb (hk:k+2000000≤1000000000){d:Na}(hd:descV N d)(K:Nat)(hK1:4096≤K)(hK2:ai .i64 d.Has 1≠0→1048576≤K):Sat (kg N w v c d) (KR N i k K w c PL d):=by
 obtain ⟨hlv,hlm⟩:=Dj hN hv hvN h;obtain ⟨pr,hpr,hp⟩:=up N hlv true true kW hd
 have hx: ∀b:Bool,(!b)=true→b=false:=fun b e=>by cases b<;>first|rfl|cases e
 unfold kg
 refine bB (P:=fun b=>b=true→ai .i64 d.Has 1≠0) (fun e=> ?_) (fun _=>ab fun h=>by cases h) fun b hb=>aP (fun e=>ab (.inl ⟨J,J,fun h=>absurd h (hb e)⟩)) fun _=> ?_
 ·have ne:ai .i64 d.Has 1≠0:=of_decide_eq_false (hx _ e)
  refine Sat.mono (R:=fun _=>True) ?_ fun _ _ _=>ne
  (repeat' first|exact ab trivial|refine Sat.bind (P:=fun _=>True) ?_ (fun _ _=> ?_)|refine aP (fun _=> ?_) (fun _=> ?_))
 rw [AQ,bs];show Sat (Option.bind (some kW) _) _;rw [bs];show Sat (Option.bind (br N (f8 c) true true kW d) _) _;rw [hpr,bs]
 refine eK (fun e=>ab (.inl ⟨J,J,fun _ p hh=>by rw [hpr] at hh;rw [Option.some.inj hh] at e;cases e⟩)) fun e=> ?_
 have hpe:br N (f8 c) true true kW d=some (pr.1,true):=by
  rw [hpr];obtain ⟨a,b⟩:=pr;have e':b=true:=e;rw [e']
 refine eK (fun e1=> ?_) fun e1=> ?_
 ·have n1:ai .i64 d.Has 1=0:=by
   have e1':(!decide (ai .i64 d.Has 1=0))=false:=e1;rw [Bool.not_eq_false'] at e1';exact of_decide_eq_true e1'
  refine bh (fun e2=> ?_) fun e2=> ?_
  ·obtain ⟨w',h1,h2⟩:=Dq hN hv hvN h O;rw [ns hN hv hvN O h.o.inv,bs];show Sat (Option.bind (bH N w v ⟨c.Kind,c.Shape,bf .i64 c.Flags 32,c.Age,c.Slots,c.More⟩) _) _;rw [h1,bs];refine ab (.inr ⟨pr.1,hpe,fun _=>J,_,PL,h2.more O,?_,fun _ hq=>hq,fun _ _ hx _=>hx,fun _=>⟨J,J⟩⟩);unfold sK;rw [Nf e2];rfl
  refine ab (.inr ⟨pr.1,hpe,fun _=>J,c,PL,h.more O,?_,fun _ hq=>hq,fun _ _ hx _=>hx,fun _=>⟨J,J⟩⟩);unfold sK;rw [Ng e2];rfl
 have n1:ai .i64 d.Has 1≠0:=of_decide_eq_false (hx _ e1);have hK:=hK2 n1
 refine (Fo hN hv hvN h hk d.Value.N).bind fun r hr=> ?_
 obtain ⟨c',PL',g1,g2,g3,g4,g5⟩:=hr
 refine bh (fun e2=> ?_) fun e2=> ?_
 ·obtain ⟨w',h1,h2⟩:=Dq hN hv hvN g1 O;rw [ns hN hv hvN O g1.o.inv,bs];show Sat (Option.bind (bH N r.2 v ⟨c'.Kind,c'.Shape,bf .i64 c'.Flags 32,c'.Age,c'.Slots,c'.More⟩) _) _;rw [h1,bs];refine ab (.inr ⟨pr.1,hpe,fun e=>absurd e n1,_,PL',h2.more O,?_,g3,g4,fun e=> ?_⟩)
  ·unfold sK;rw [Nf e2];show bf .i64 c'.Flags 32=_;rw [g2];rfl
  exact g5 (e.resolve_left n1)
 refine ab (.inr ⟨pr.1,hpe,fun e=>absurd e n1,c',PL',g1.more O,?_,g3,g4,fun e=>g5 (e.resolve_left n1)⟩);unfold sK;rw [Ng e2];exact g2
end
structure Stt (N i k:Nat) (w:MT) (c:MY) (PL:List MX) (K:List MM):Prop where
 o:Obj N i k w c PL
 pk: ∀p∈PL,p.Key∈K
 hole:c.Kind=2→ ∀p∈PL,p.Key.Kind=0→c.More[p.Key.N.toNat]? =some eO
 len:c.Kind=2→ ∀p∈PL,p.Key≠kW
 ek:c.Kind=2→ ∀(j:Nat) x,c.More[j]? =some x→x≠eO→nU j∈K∧xr x.Kind
omit hN hv hvN in
theorem Stt.arr {k:Nat}{w:MT}{c:MY}{PL:List MX}{K:List MM}(h:Stt N i k w c PL K)(h2:c.Kind=2):Arr N i k w c PL:=⟨h.o,h2,h.hole h2,h.len h2⟩
omit hN hv hvN in
theorem Stt.of {k:Nat}{w:MT}{c:MY}{PL:List MX}{K:List MM}(h:Arr N i k w c PL)(hp: ∀p∈PL,p.Key∈K)(he: ∀(j:Nat) x,c.More[j]? =some x→x≠eO→nU j∈K∧xr x.Kind):Stt N i k w c PL K:=⟨h.o,hp,fun _=>h.hole,fun _=>h.len,fun _=>he⟩
omit hN hv hvN in
theorem Stt.more {k k':Nat}{w:MT}{c:MY}{PL:List MX}{K K':List MM}(h:Stt N i k w c PL K)(hk:k≤k')(hK: ∀x∈K,x∈K'):Stt N i k' w c PL K':=⟨h.o.more hk,fun p hp=>hK _ (h.pk p hp),h.hole,h.len,fun e j x hx hh=>⟨hK _ (h.ek e j x hx hh).1,(h.ek e j x hx hh).2⟩⟩
omit hN hv hvN in
theorem Stt.el {k:Nat}{w:MT}{c:MY}{PL:List MX}{K:List MM}(h:Stt N i k w c PL K)(h2:c.Kind=2){j:Nat}{x:MQ}(hx:c.More[j]? =some x)(hh:x≠eO)(key:MM):nU j∈key::K∧xr x.Kind:=⟨List.mem_cons_of_mem _ (h.ek h2 j x hx hh).1,(h.ek h2 j x hx hh).2⟩
structure rightP (N:Nat) (p:MX):Prop where
 v:propV N p
 m:fV p.Attrs
 k:p.Value.Kind≠7∧p.Value.Kind≠8∧p.Value.Kind≠9
omit hN hv hvN in
theorem rightP.desc {p:MX}(h:rightP N p):descV N (yq p)∧KT (yq p):=by
 unfold yq;cases decide (ai .i64 p.Attrs 8=0)
 ·exact ⟨⟨ux N,h.v.g,h.v.s⟩,show¬(0:Int)=7 by decide,show¬(0:Int)=9 by decide⟩
 exact ⟨⟨h.v.v,lz,lz⟩,h.k.1,h.k.2.2⟩
omit hN hv hvN in
theorem rightP.lay {p:MX}(h:rightP N p)(key:MM):Layable N key (pI key p):=by
 have e:pI key (pI key p)=pI key p:=by
  unfold pI iP;by_cases h8:ai .i64 p.Attrs 8=0
  ·rw [Nf h8];rfl
  rw [Ng h8];rfl
 refine ⟨?_,?_,h.m,e⟩
 ·unfold pI iP;cases decide (ai .i64 p.Attrs 8=0)
  ·exact ⟨ux N,h.v.g,h.v.s⟩
  exact ⟨h.v.v,lz,lz⟩
 intro h8;have h8':ai .i64 p.Attrs 8=0:=h8;show (iP p).Value.Kind≠7∧(iP p).Value.Kind≠9;unfold iP;rw [Nf h8'];exact ⟨h.k.1,h.k.2.2⟩
section
variable {k:Nat} {w:MT} {c:MY} {PL:List MX} {K:List MM} (h:Stt N i k w c PL K)
include h
theorem Fb (hk:k+2000000≤1000000000)(h2:c.Kind=2)(key:MM){p:MX}(hp:rightP N p):Sat (gh N w v key (yq p)) fun r=> ∃c' PL',Stt N i (k+1048576) r.2.2 c' PL' (key::K)∧c'.Kind=c.Kind:=by
 obtain ⟨hd,hdk⟩:=hp.desc;have ha:=h.arr h2;have hst: ∃c' PL',Stt N i (k+1048576) w c' PL' (key::K)∧c'.Kind=c.Kind:=⟨c,PL,h.more O fun x hx=>List.mem_cons_of_mem _ hx,rfl⟩;unfold gh;rw [ns hN hv hvN O h.o.inv,bs,Nf h2,nt,cf]
 refine Sat.bind (P:=fun b=>b=false→keyR N key) ?_ fun b hb=> ?_
 ·obtain ⟨b,hb, -⟩:=kK N O key;rw [hb,bs]
  refine ab fun e=> ?_
  rw [Bool.not_eq_false'] at e;rw [e] at hb;exact hb
 refine bB (P:=fun b'=>b'=false→b=false) (fun _=>ab fun h=>(Bool.noConfusion h)) (fun e=>(zj N (yq p)).bind fun _ _=>ab fun _=>e) fun b2 hb2=>aP (fun _=>ab hst) fun e=> ?_
 have hR:=hb (hb2 e);show Sat (Option.bind (some kW) _) _;rw [bs]
 refine bh (fun _=> ?_) fun hl=>bh (fun h0=> ?_) fun h0=> ?_
 ·refine (vb hN hv hvN ha hk hd 1048576 O (fun _=>Nat.le_refl _)).bind fun r hr=>ab ?_
  rcases hr with ⟨-,e, -⟩|⟨-, -, -,c',PL',g1, -,g3,g4, -⟩
  ·show∃c' PL',Stt N i (k+1048576) r.2.2 c' PL' (key::K)∧c'.Kind=c.Kind;rw [e];exact hst
  exact ⟨c',PL',Stt.of g1 (fun q hq=>List.mem_cons_of_mem _ (h.pk q (g3 q hq))) fun j x hx hh=>h.el h2 (g4 j x hx hh) hh key,g1.kind.trans h2.symm⟩
 ·have hb0:=hR.b O h0;have hkey:=tT hR h0
  refine (D9 hN hv hvN ha O key h0 hR (yq p) (pI key p) (hp.lay key) fun y _ hy=> ?_).bind fun r hr=>ab ?_
  ·have hym:fV y.1.Attrs:=by
    rcases hy with ⟨x, -, -, -,rfl, -⟩|⟨y1, -⟩|⟨-,y1, -⟩
    ·exact FP
    ·exact (h.o.key y1).2
    rw [y1];exact Ez
   exact E8 N y.1 hym p hp.m y.2 _ key
  rcases hr with ⟨-,e, -⟩|⟨-, -,m',g1,g2, -,c',PL',g3, -,g4⟩
  ·show∃c' PL',Stt N i (k+1048576) r.2.2 c' PL' (key::K)∧c'.Kind=c.Kind;rw [e];exact hst
  have hel: ∀x0,c'.More=m'.set key.N.toNat x0→(x0≠eO→xr x0.Kind)→ ∀(j:Nat) x,c'.More[j]? =some x→x≠eO→nU j∈key::K∧xr x.Kind:=fun x0 e hx0 j x hx hh=>by
   rw [e] at hx;by_cases ej:key.N.toNat=j
   ·have hx1:x0=x:=by
     rw [←ej,List.getElem?_set_self O] at hx;exact Option.some.inj hx
    refine ⟨List.mem_cons.2 (.inl ?_),by rw [←hx1];exact hx0 (by rw [hx1];exact hh)⟩;rw [hkey];show nU (j:Int)=nU key.N;rw [←ej,Int.toNat_of_nonneg hb0.1]
   rw [List.getElem?_set_ne ej] at hx;refine h.el h2 ?_ hh key;by_cases e3:c.More.length≤j
   ·exact absurd (g1.new j x hx e3) hh
   have h4:=g1.at_ j _ (List.getElem?_eq_getElem O);rw [List.getElem?_eq_getElem O, ←Option.some.inj (hx.symm.trans h4)]
  refine ⟨c',PL',Stt.of (g3.more O) (fun q hq=> ?_) ?_,g3.kind.trans h2.symm⟩
  ·rcases g4 with ⟨-, -,g4⟩|⟨-, -,p',g4,g5⟩
   ·exact List.mem_cons_of_mem _ (h.pk q (g4 q hq))
   rcases g5.mem q hq with rfl|hq
   ·exact List.mem_cons.2 (.inl g4.1)
   exact List.mem_cons_of_mem _ (h.pk q hq)
  rcases g4 with ⟨g5,g4, -⟩|⟨-,g4, -⟩
  ·refine hel _ g4 fun _=> ?_
   have h8:ai .i64 p.Attrs 8=0:=by
    have e7:p.Attrs=7:=g5;rw [e7];exact b7.1
   show xr (iP p).Value.Kind;unfold iP;rw [Nf h8];exact ⟨hp.k.1,hp.k.2.2⟩
  exact hel _ g4 fun e=>absurd J e
 refine (yV hN hv hvN h.o O key hd hdk (fun _ e=>absurd e h0)).bind fun r hr=>ab ?_
 obtain ⟨c',PL',g1,g2,g3,g4,g5⟩:=hr;refine ⟨c',PL',⟨g1.more O,fun q hq=> ?_,fun _ q hq hq0=> ?_,fun _ q hq e=> ?_,fun _ j x hx hh=> ?_⟩,g2⟩
 ·rcases g5 q hq with e|e
  ·exact List.mem_cons.2 (.inl e)
  obtain ⟨u,hu,hu2⟩:=List.mem_map.1 e;rw [←hu2];exact List.mem_cons_of_mem _ (h.pk u hu)
 ·rcases g5 q hq with e|e
  ·rw [e] at hq0;exact absurd hq0 h0
  obtain ⟨u,hu,hu2⟩:=List.mem_map.1 e;rw [g3, ←hu2];exact h.hole h2 u hu (by rw [hu2];exact hq0)
 ·rcases g5 q hq with e'|e'
  ·exact hl (e'.symm.trans e)
  obtain ⟨u,hu,hu2⟩:=List.mem_map.1 e';exact h.len h2 u hu (hu2.trans e)
 rw [g3] at hx;exact h.el h2 hx hh key
theorem ED (hk:k+2000000≤1000000000)(key:MM){p:MX}(hp:rightP N p):Sat (cB N w v key (yq p)) fun r=> ∃c' PL',Stt N i (k+1048576) r.2.2 c' PL' (key::K)∧c'.Kind=c.Kind:=by
 obtain ⟨hd,hdk⟩:=hp.desc;have hst: ∃c' PL',Stt N i (k+1048576) w c' PL' (key::K)∧c'.Kind=c.Kind:=⟨c,PL,h.more O fun x hx=>List.mem_cons_of_mem _ hx,rfl⟩
 have htold: ∀(b:Bool) (w':MT),(∃c' PL',Stt N i (k+1048576) w' c' PL' (key::K)∧c'.Kind=c.Kind)→Sat ((fW N b).bind fun y=>some (y.1,y.2,w')) fun r=> ∃c' PL',Stt N i (k+1048576) r.2.2 c' PL' (key::K)∧c'.Kind=c.Kind:=fun b w' hw'=>by
  unfold fW
  exact Sat.bind (P:=fun _=>True) (by repeat' first|exact ab trivial|refine Sat.bind (P:=fun _=>True) ?_ (fun _ _=> ?_)|refine aP (fun _=> ?_) (fun _=> ?_)) fun _ _=>ab hw'
 unfold cB;rw [Nf hv,nt,cf,D8 hN hv hvN O h.o.inv,bs]
 refine eK (fun e=> ?_) fun e=> ?_
 ·refine (tn hN hv hvN h.o.inv O key hd).bind fun _ _=>eK (fun _=>ab hst) fun _=> ?_
  have hn2: ¬c.Kind=2:=of_decide_eq_false e
  refine (yV hN hv hvN h.o O key hd hdk (fun g=>absurd g hn2)).bind fun r hr=>htold _ _ ?_
  obtain ⟨c',PL',g1,g2,g3,g4,g5⟩:=hr;refine ⟨c',PL',⟨g1.more O,fun q hq=> ?_,fun e=>absurd (g2.symm.trans e) hn2,fun e=>absurd (g2.symm.trans e) hn2,fun e=>absurd (g2.symm.trans e) hn2⟩,g2⟩;rcases g5 q hq with e|e
  ·exact List.mem_cons.2 (.inl e)
  obtain ⟨u,hu,hu2⟩:=List.mem_map.1 e;rw [←hu2];exact List.mem_cons_of_mem _ (h.pk u hu)
 have hj: ∀q,Sat (dQ N w v key (yq p) q) fun r=> ∃c' PL',Stt N i (k+1048576) r.2.2 c' PL' (key::K)∧c'.Kind=c.Kind:=fun q=>by
  unfold dQ
  exact eK (fun _=>ab hst) fun _=>(Fb hN hv hvN h hk (of_decide_eq_true e) key hp).bind fun r hr=>htold _ _ hr
 unfold eL;rw [bs]
 exact bh (fun _=>(vd hN hv hvN h.o.inv O hd).bind fun q _=>hj q) fun _=>(tn hN hv hvN h.o.inv O key hd).bind fun q _=>hj q
end
end
end
section
open Go.RowKit
theorem Bt {α:Type}: ∀(l K:List α),l.Nodup→(∀x∈l,x∈K)→l.length≤K.length
 | [],_,_,_=>Nat.zero_le _
 | a::l,K,hn,hs=>by
  obtain ⟨s,t,rfl⟩:=List.append_of_mem (hs a (List.mem_cons_self ..));have hn':=List.nodup_cons.1 hn
  have:=Bt l (s++t) hn'.2 fun x hx=>by
   have:=hs x (List.mem_cons_of_mem _ hx);rw [List.mem_append,List.mem_cons] at this;rw [List.mem_append];rcases this with h|h|h
   ·exact .inl h
   ·subst h;exact absurd hx hn'.1
   exact .inr h
  rw [List.length_append] at this;rw [List.length_append,List.length_cons,List.length_cons];omega
def Owned (c:MY)(PL:List MX)(key:MM)(p:MX):Prop:=(p∈PL∧p.Key=key)∨(c.Kind=2∧key=kW∧p=f8 c)∨(c.Kind=2∧ ∃(j:Nat) (x:MQ),key=nU j∧c.More[j]? =some x∧x≠eO∧p=⟨key,7,x,v0,v0⟩)
def HardR (fr:Bool)(c:MY)(PL:List MX)(key:MM)(p:MX)(c':MY)(PL':List MX):Prop:=
 (∃n:Nat,PL[n]? =some p∧PL'=PL.set n (db fr p)∧c'.More=c.More∧c'.Flags=c.Flags)∨
 (c.Kind=2∧key=kW∧PL'=PL∧c'.More=c.More∧c'.Flags=sK (db fr (f8 c)) c.Flags)∨
 (c.Kind=2∧ ∃(j:Nat) (x:MQ),key=nU j∧c.More[j]? =some x∧x≠eO∧c'.More=c.More.set j eO∧PL'=PL++ [db fr p]∧c'.Flags=c.Flags)
theorem yZ (N:Nat){j:Nat}(hj:j≤4096):keyR N (nU j):=by
 unfold keyR co nU;show Option.bind (bif ((⟨#[]⟩:ByteArray).toList==(⟨#[]⟩:ByteArray).toList) then some (decide (0≤(j:Int))) else some false) _=_;rw [beq_self_eq_true,ct,bs,Nf O,ct,Nf (show (j:Int)≤4294967294 by omega)];rfl
theorem EJ: ∀a:_root_.Fin 16, ∀fr:Bool,ai .i64 (dp fr (a.val:Int)) 4=0:=by decide+kernel
theorem Jk {a:Int}(h:fV a)(fr:Bool):ai .i64 (dp fr a) 4=0:=by
 have h0:=h.1;have h1:=h.2.1;have:=EJ ⟨a.toNat,by omega⟩ fr;simp only [Int.toNat_of_nonneg h0] at this;exact this
theorem wg {j:Nat}:kW≠nU j:=fun e=>absurd (congrArg MM.Kind e) (by show¬(1:Int)=0;decide)
section
variable {N:Nat} (hN:20000≤N) {v:MQ} {i:Nat} (hv:v.Kind=7) (hvN:v.N=2*i+1)
variable {k:Nat} {w:MT} {c:MY} {PL:List MX} {K:List MM} (h:Stt N i k w c PL K)
include h
theorem Stt.few:PL.length≤K.length:=by
 have:=Bt _ K h.o.inv.obj.nd fun x hx=>by
  obtain ⟨y,hy,rfl⟩:=List.mem_map.1 hx;obtain ⟨p,hp,rfl⟩:=List.mem_map.1 hy;exact h.pk p hp
 rw [List.length_map,List.length_map] at this;exact this
theorem Stt.set {k':Nat}{w':MT}{c':MY}{fr:Bool}{n:Nat}{p:MX}(hn:PL[n]? =some p)(ho:Obj N i k' w' c' (PL.set n (db fr p)))(h1:c'.Kind=c.Kind)(h2:c'.More=c.More):Stt N i k' w' c' (PL.set n (db fr p)) K:=by
 have hk: ∀q∈PL.set n (db fr p), ∃u∈PL,q.Key=u.Key:=fun q hq=>by
  rcases List.mem_or_eq_of_mem_set hq with hq|rfl
  ·exact ⟨q,hq,J⟩
  exact ⟨p,List.mem_of_getElem? hn,J⟩
 refine ⟨ho,fun q hq=> ?_,fun e q hq h0=> ?_,fun e q hq=> ?_,fun e j x hx hh=> ?_⟩
 ·obtain ⟨u,hu,e⟩:=hk q hq;rw [e];exact h.pk u hu
 ·obtain ⟨u,hu,e2⟩:=hk q hq;rw [h2,e2];exact h.hole (h1.symm.trans e) u hu (by rw [←e2];exact h0)
 ·obtain ⟨u,hu,e2⟩:=hk q hq;rw [e2];exact h.len (h1.symm.trans e) u hu
 rw [h2] at hx;exact h.ek (h1.symm.trans e) j x hx hh
include hN hv hvN
theorem Stt.owned (hk:k≤1000000000){key:MM}{p:MX}(ho:Owned c PL key p):propV N p∧normal p∧fV p.Attrs∧p.Key=key∧keyR N key∧xK p∧rk N p:=by
 rcases ho with ⟨hp,rfl⟩|⟨h2,rfl,rfl⟩|⟨h2,j,x,rfl,hx,hh,rfl⟩
 ·obtain ⟨o1,o2,o3, -⟩:=h.o.obj.ok hN p hp;obtain ⟨k1,k2⟩:=h.o.key hp;exact ⟨(uy (v:=v) hN h.o hk hp).1,o2,k2,J,k1,o3,o1⟩
 ·obtain ⟨l1,l2⟩:=Dj hN hv hvN (h.arr h2)
  have h8:ai .i64 (f8 c).Attrs 8=0:=by
   unfold f8;cases decide (ai .i64 c.Flags 32=0)
   ·show ai .i64 0 8=0;decide+kernel
   show ai .i64 1 8=0;decide+kernel
  exact ⟨l1,⟨fun _=>⟨J,J⟩,fun e=>absurd h8 e⟩,l2,J,FY hN,fun _=>⟨by show¬(3:Int)=7;decide,by show¬(3:Int)=9;decide⟩,.inl h8⟩
 have hj:=(List.getElem?_eq_some_iff.1 hx).1;have hmo:=h.o.inv.obj.rc.more;exact ⟨⟨zT hN hv hvN h.o.inv x (List.mem_of_getElem? hx),lz,lz⟩,⟨fun _=>⟨J,J⟩,fun e=>absurd b7.1 e⟩,FP,J,yZ N O,fun _=>(h.ek h2 j x hx hh).2,.inl b7.1⟩
theorem GW (hk:k≤1000000000)(h2:c.Kind=2){key:MM}{p:MX}(ho:Owned c PL key p):bY N w v key=some (p,true):=by
 have hmo:=h.o.inv.obj.rc.more;rcases ho with ⟨hp,rfl⟩|⟨-,rfl,rfl⟩|⟨-,j,x,rfl,hx,hh,rfl⟩
 ·exact GV hN hv hvN (h.arr h2) hk hp
 ·exact uq hN hv hvN (h.arr h2) hk
 have hj:=(List.getElem?_eq_some_iff.1 hx).1;exact D6 hN hv hvN (h.arr h2) hk J (yZ N O) (by show c.More[((j:Int)).toNat]? =_;rw [Int.toNat_natCast];exact hx) hh
theorem zV (hk:k≤1000000000){key:MM}{p:MX}(ho:Owned c PL key p):bZ N w v key=some (p,true):=by
 unfold bZ;rw [D8 hN hv hvN hk h.o.inv,bs];by_cases h2:c.Kind=2
 ·rw [Nf h2,ct,GW hN hv hvN h hk h2 ho,bs]
 rw [Ng h2,cf];rcases ho with ⟨hp,rfl⟩|⟨e, -⟩|⟨e, -⟩
 ·rw [Cz hN hv hvN h.o hk hp,bs]
 ·exact absurd e h2
 exact absurd e h2
theorem I3 (hk:k+2000000≤1000000000)(hK:K.length<1024)(h2:c.Kind=2){fr:Bool}{key:MM}{p:MX}(ho:Owned c PL key p){d:Na}(hd:Hardens fr p d):Sat (gh N w v key d) fun r=>r.1=true∧ ∃c' PL',Stt N i (k+4096) r.2.2 c' PL' K∧c'.Kind=c.Kind∧HardR fr c PL key p c' PL':=by
 obtain ⟨o1,o2,o3,o4,o5,o6,o7⟩:=h.owned hN hv hvN O ho;have hfew:=h.few;have ha:=h.arr h2;have hown:=GW hN hv hvN h O h2 ho;obtain ⟨hdr,hdh⟩:=hd.right N;have hm2:=r8 o3 fr;have hnn:=rm (vy (fr:=fr) o3 o2);subst o4;have hap: ∀ext,br N p true ext p.Key d=some (db fr p,true):=nV N hd o2 o3;unfold gh;rw [ns hN hv hvN O h.o.inv,bs,Nf h2,nt,cf,show co N p.Key=some true from o5,bs,nt,bs,cf,hdr,bs,nt,bs,cf];show Sat (Option.bind (some kW) _) _;rw [bs]
 refine bh (fun hl=> ?_) fun hl=>bh (fun h0=> ?_) fun h0=> ?_
 ·have hpl:p=f8 c:=by
   rcases ho with ⟨q1, -⟩|⟨-, -,e⟩|⟨-,j,x,e, -⟩
   ·exact absurd hl (h.len h2 p q1)
   ·exact e
   exact absurd (hl.symm.trans e) wg
  have hap':br N (f8 c) true true kW d=some (db fr (f8 c),true):=by
   have:=hap true;rw [hl,hpl] at this;exact this
  refine (vb hN hv hvN ha hk (hd.v N) 4096 (Nat.le_refl _) (fun e=>absurd hdh e)).bind fun r hr=>ab ?_
  rcases hr with ⟨-, -,hr⟩|⟨q,q1,q2,c',PL',g1,g2,g3,g4,g5⟩
  ·exact absurd hap' (hr hdh _)
  rw [hap'] at q1;have hq:db fr (f8 c)=q:=congrArg Prod.fst (Option.some.inj q1);obtain ⟨g6,g7⟩:=g5 (.inl hdh);subst g7;exact ⟨q2 hdh,c',PL',Stt.of g1 h.pk (by rw [g6];exact h.ek h2),g1.kind.trans h2.symm,.inr (.inl ⟨h2,hl,J,g6,by rw [g2,hq]⟩)⟩
 ·have hlt:p.Key.N<c.More.length:=by
   rcases ho with ⟨q1, -⟩|⟨-,e, -⟩|⟨-,j,x,e,hx, -⟩
   ·exact h.o.inv.obj.idx h2 _ (List.mem_map_of_mem (f:=mQ) q1) h0
   ·exact absurd e hl
   have:=(List.getElem?_eq_some_iff.1 hx).1;rw [e];show (j:Int)<_;omega
  have hpL:Layable N p.Key (db fr p):=⟨⟨o1.v,o1.g,o1.s⟩,fun e=>o6 (hm2.2.1.1 e),hm2.1,by
   show (⟨p.Key,(db fr p).Attrs,(iP (db fr p)).Value,(iP (db fr p)).Get,(iP (db fr p)).Set⟩:MX)=_
   rw [hnn];rfl⟩
  have hpo:rk N (db fr p):=by
   rcases o7 with o7|o7
   ·exact .inl (hm2.2.1.2 o7)
   exact .inr o7
  have hkK:p.Key∈K:=by
   rcases ho with ⟨q1, -⟩|⟨-,e, -⟩|⟨-,j,x,e,hx,hh, -⟩
   ·exact h.pk p q1
   ·exact absurd e hl
   rw [e];exact (h.ek h2 j x hx hh).1
  refine (D9 hN hv hvN ha O p.Key h0 o5 d (db fr p) hpL fun y hy _=> ?_).bind fun r hr=>ab ?_
  ·rw [hown] at hy;obtain rfl:=am hy;exact ⟨_,hap _,.inr ⟨J,fun _ _=>Jk o3 fr⟩⟩
  rcases hr with ⟨-, -,hr⟩|⟨r1, -,m',g1,g2,g3,c',PL',g4,g5,g6⟩
  ·have:=hr (fun y hy=>by
    rw [hown] at hy;obtain rfl:=am hy
    exact hap _) hlt
   omega
  have hm:=g3 hlt;subst hm;rcases g6 with ⟨e7, -⟩|⟨-,g7,p',⟨s1,s2,s3⟩,hput⟩
  ·have h4:=Jk o3 fr;have e8:dp fr p.Attrs=7:=e7;rw [e8,b7.2.1] at h4;exact absurd h4 (by decide)
  have hp':p'=db fr p:=(s3 hpo).trans hnn;subst hp';have hb0:=(o5.b O h0).1;refine ⟨r1,c',PL',Stt.of g4 (fun q hq=> ?_) (fun j x hx hh=> ?_),g4.kind.trans h2.symm,?_⟩
  ·rcases hput.mem q hq with rfl|hq
   ·exact hkK
   exact h.pk q hq
  ·rw [g7] at hx;by_cases ej:p.Key.N.toNat=j
   ·rw [←ej,List.getElem?_set_self O] at hx;exact absurd (Option.some.inj hx).symm hh
   rw [List.getElem?_set_ne ej] at hx;exact h.ek h2 j x hx hh
  rcases hput with ⟨hno,rfl⟩|⟨n,q,q1,q2,rfl⟩
  ·rcases ho with ⟨u1, -⟩|⟨-,e, -⟩|⟨-,j,x,e,hx,hh, -⟩
   ·exact absurd J (hno p u1)
   ·exact absurd e hl
   refine .inr (.inr ⟨h2,j,x,e,hx,hh,?_,J,g5⟩);rw [g7,e];show c.More.set ((j:Int)).toNat eO=_;rw [Int.toNat_natCast]
  rcases ho with ⟨u1, -⟩|⟨-,e, -⟩|⟨-,j,x,e,hx,hh, -⟩
  ·have hq:q=p:=h.o.uniq (List.mem_of_getElem? q1) u1 q2;subst hq;exact .inl ⟨n,q1,J,by rw [g7];exact na (h.hole h2 q u1 h0),g5⟩
  ·exact absurd e hl
  have q2':q.Key=nU j:=q2.trans e;have:=h.hole h2 q (List.mem_of_getElem? q1) (by rw [q2'];rfl);rw [q2'] at this;have e9:c.More[((j:Int)).toNat]? =some eO:=this;rw [Int.toNat_natCast,hx] at e9;exact absurd (Option.some.inj e9) hh
 have hpm:p∈PL:=by
  rcases ho with ⟨q1, -⟩|⟨-,e, -⟩|⟨-,j,x,e, -⟩
  ·exact q1
  ·exact absurd e hl
  rw [e] at h0;exact absurd J h0
 refine (yU hN hv hvN h.o O hpm hd).bind fun r hr=>ab ?_
 obtain ⟨r1,c',n,g1,g2,g3,g4,g5⟩:=hr;exact ⟨r1,c',_,(h.set g1 g2 g3 g4).more O fun _ hx=>hx,g3,.inl ⟨n,g1,J,g4,g5⟩⟩
theorem HE (hk:k+2000000≤1000000000)(hK:K.length<1024){fr:Bool}{key:MM}{p:MX}(ho:Owned c PL key p){d:Na}(hd:Hardens fr p d):Sat (cB N w v key d) fun r=>r.1=true∧ ∃c' PL',Stt N i (k+4096) r.2.2 c' PL' K∧c'.Kind=c.Kind∧HardR fr c PL key p c' PL':=by
 have hfew:=h.few;by_cases h2:c.Kind=2
 ·obtain ⟨o1,o2,o3,o4,o5,o6,o7⟩:=h.owned hN hv hvN O ho;have hown:=zV hN hv hvN h O ho;obtain ⟨hdr,hdh⟩:=hd.right N
  have hj:Sat (dQ N w v key d 0) fun r=>r.1=true∧ ∃c' PL',Stt N i (k+4096) r.2.2 c' PL' K∧c'.Kind=c.Kind∧HardR fr c PL key p c' PL':=by
   unfold dQ;rw [Nf rfl,nt,cf]
   refine (I3 hN hv hvN h hk hK h2 ho hd).bind fun r hr=> ?_
   unfold fW;rw [hr.1,ct,bs];exact ab ⟨J,hr.2⟩
  subst o4;have hap: ∀ext,br N p true ext p.Key d=some (db fr p,true):=nV N hd o2 o3;obtain ⟨z,hz,hz2⟩:=sY hN hv hvN (show k≤1000000000 by omega) h.o.inv
  have hzl:z.length=PL.length:=by have:=congrArg List.length hz2;rw [List.length_map,List.length_map] at this;exact this
  unfold cB;rw [Nf hv,nt,cf,D8 hN hv hvN O h.o.inv,bs,Nf h2,nt,cf];show Sat (Option.bind (some kW) _) _;rw [bs]
  refine bh (fun hl=> ?_) fun hl=> ?_
  ·have hw:eT N w v d=some 0:=by
    have hpl:p=f8 c:=by
     rcases ho with ⟨q1, -⟩|⟨-, -,e⟩|⟨-,j,x,e, -⟩
     ·exact absurd hl (h.len h2 p q1)
     ·exact e
     exact absurd (hl.symm.trans e) wg
    have hap':=hap true;rw [hl,hpl] at hap';unfold eT;rw [Nf hdh,nt,cf,bs,cf];show Option.bind (some kW) _=_;rw [bs,uq hN hv hvN (h.arr h2) O,bs];show Option.bind (some kW) _=_;rw [bs,hap',bs];rfl
   rw [hw,bs];exact hj
  have hw:fi N w v p.Key d=some 0:=by
   unfold fi;rw [hown,bs,FM hN hv hvN O h.o.inv,bs];show Option.bind (br N p true _ p.Key d) _=_;rw [hap,bs];show Option.bind (some false) _=_;rw [bs,cf];show (bif !true then _ else Option.bind (eF N w v) _)=_;rw [nt,cf,hz,bs,D8 hN hv hvN O h.o.inv,bs,Nf h2,nt,cf,bs,Ng (show¬(1024:Int)≤(z.length:Int) by omega)];by_cases h0:p.Key.Kind=0
   ·rw [Nf h0,nt,cf]
    have hlt:p.Key.N<c.More.length:=by
     rcases ho with ⟨q1, -⟩|⟨-,e, -⟩|⟨-,j,x,e,hx, -⟩
     ·exact h.o.inv.obj.idx h2 _ (List.mem_map_of_mem (f:=mQ) q1) h0
     ·exact absurd e hl
     have:=(List.getElem?_eq_some_iff.1 hx).1;rw [e];show (j:Int)<_;omega
    have hmo:=h.o.inv.obj.rc.more;obtain ⟨q,hq, -⟩:=HA hN hv hvN (show k≤1000000000 by omega) h.o.inv p.Key;unfold ij nq;show Option.bind (Option.bind (some kW) _) _=_;rw [bs,uq hN hv hvN (h.arr h2) O,bs,hq,bs,Ng (show¬(4096:Int)≤p.Key.N by omega),cf,ns hN hv hvN O h.o.inv,bs,Nf h2,nt,cf,bs,Ng (show¬(c.More.length:Int)≤p.Key.N by omega),cf,bs,cf];cases decide ((db fr p).Attrs=7)<;>cases q.2<;>rfl
   rw [Ng h0,nf,ct];rfl
  rw [hw,bs];exact hj
 have hk1:c.Kind=1:=h.o.inv.obj.rc.kind.resolve_right h2
 have hpm:p∈PL∧p.Key=key:=by
  rcases ho with e|⟨e, -⟩|⟨e, -⟩
  ·exact e
  ·exact absurd e h2
  exact absurd e h2
 obtain ⟨hpm,rfl⟩:=hpm
 refine (CD hN hv hvN h.o O hk1 hpm hd).mono fun r hr=> ?_
 obtain ⟨r1,c',n,g1,g2,g3,g4,g5⟩:=hr;exact ⟨r1,c',_,(h.set g1 g2 g3 g4).more O fun _ hx=>hx,g3,.inl ⟨n,g1,J,g4,g5⟩⟩
end
end
end Go.Proofs.YtanojiedimeegaaGreatDoor