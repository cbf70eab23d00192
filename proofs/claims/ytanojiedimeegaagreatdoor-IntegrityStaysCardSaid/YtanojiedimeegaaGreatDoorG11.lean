/- Merged texts: part 11. No conditions of their own. -/
import Derived.Test.YtanojiedimeegaaGreatDoorG10
import Derived.KernelRfl
import Derived.Test.YtanojiedimeegaaGreatDoorG9
import Derived.Test.YtanojiedimeegaaGreatDoorG1
import Derived.Test.YtanojiedimeegaaGreatDoorG2
import Derived.Test.YtanojiedimeegaaGreatDoorRows
import Derived.ProofKit
import Derived.LaidMore
import Derived.OpenShut
import Derived.Stop.Joined
namespace Go.Proofs.YtanojiedimeegaaGreatDoor
section
open Go.RowKit
theorem FD: ∀f:_root_.Fin 64,ai .i64 (bf .i64 (f.val:Int) 32) 32≠0∧ai .i64 (bf .i64 (f.val:Int) 32) 1=ai .i64 (f.val:Int) 1∧(ai .i64 (f.val:Int) 32≠0→bf .i64 (f.val:Int) 32=(f.val:Int))∧(ai .i64 (f.val:Int) 1=0→aZ .i64 (f.val:Int) 1=(f.val:Int)):=by decide+kernel
theorem Hx {f:Int}(h:0≤f∧f≤63):ai .i64 (bf .i64 f 32) 32≠0∧ai .i64 (bf .i64 f 32) 1=ai .i64 f 1∧(ai .i64 f 32≠0→bf .i64 f 32=f)∧(ai .i64 f 1=0→aZ .i64 f 1=f):=by
 have:=FD ⟨f.toNat,by omega⟩;simp only [Int.toNat_of_nonneg h.1] at this;exact this
theorem tV: ∀fr:Bool,dp fr 0=0∧dp false 1=1∧dp true 1=0∧ai .i64 0 1=0∧ai .i64 1 1=1:=by decide+kernel
theorem BG: ∀a:_root_.Fin 16,dp true (a.val:Int)=(a.val:Int)→dp false (a.val:Int)=(a.val:Int):=by decide+kernel
theorem Do {a:Int}(h:fV a)(e:dp true a=a)(fr:Bool):dp fr a=a:=by
 have h0:=h.1;have h1:=h.2.1;have:=BG ⟨a.toNat,by omega⟩;simp only [Int.toNat_of_nonneg h0] at this;cases fr
 ·exact this e
 exact e
theorem zX {c c':MY}(h1:c'.Flags=c.Flags)(h2:c'.More.length=c.More.length):f8 c'=f8 c:=by
 unfold f8;rw [h1,h2]
theorem FU {fr:Bool}{c c':MY}(hf:0≤c.Flags∧c.Flags≤63)(h:c'.Flags=sK (db fr (f8 c)) c.Flags):db fr (f8 c')=f8 c'∧ai .i64 c'.Flags 1=ai .i64 c.Flags 1:=by
 obtain ⟨a1,a2,a3,a4,a5⟩:=tV fr;obtain ⟨o1,o2,o3, -⟩:=Hx hf
 have key:dp fr (f8 c').Attrs=(f8 c').Attrs∧ai .i64 c'.Flags 1=ai .i64 c.Flags 1:=by
  unfold sK at h;by_cases e:ai .i64 c.Flags 32=0
  ·have e1:(db fr (f8 c)).Attrs=dp fr 1:=by
    show dp fr (bif decide (ai .i64 c.Flags 32=0) then 1 else 0)=_;rw [Nf e];rfl
   rw [e1] at h;cases fr
   ·rw [a2,a5,Ng (by decide)] at h;have h':c'.Flags=c.Flags:=h;refine ⟨?_,by rw [h']⟩;show dp false (bif decide (ai .i64 c'.Flags 32=0) then 1 else 0)=bif decide (ai .i64 c'.Flags 32=0) then 1 else 0;rw [h',Nf e];exact a2
   rw [a3,a4,Nf rfl] at h;have h':c'.Flags=bf .i64 c.Flags 32:=h;refine ⟨?_,by rw [h',o2]⟩;show dp true (bif decide (ai .i64 c'.Flags 32=0) then 1 else 0)=bif decide (ai .i64 c'.Flags 32=0) then 1 else 0;rw [h',Ng o1];exact a1
  have e1:(db fr (f8 c)).Attrs=dp fr 0:=by
   show dp fr (bif decide (ai .i64 c.Flags 32=0) then 1 else 0)=_;rw [Ng e];rfl
  rw [e1,a1,a4,Nf rfl] at h;have h':c'.Flags=c.Flags:=h.trans (o3 e);refine ⟨?_,by rw [h']⟩;show dp fr (bif decide (ai .i64 c'.Flags 32=0) then 1 else 0)=bif decide (ai .i64 c'.Flags 32=0) then 1 else 0;rw [h',Ng e];exact a1
 refine ⟨?_,key.2⟩;show (⟨(f8 c').Key,dp fr (f8 c').Attrs,(f8 c').Value,(f8 c').Get,(f8 c').Set⟩:MX)=f8 c';rw [key.1]
def Done (fr:Bool)(c:MY)(PL:List MX):Prop:=(∀p∈PL,db fr p=p)∧(c.Kind=2→(∀(n:Nat) y,c.More[n]? =some y→y=eO)∧db fr (f8 c)=f8 c)
theorem Done.flag {c:MY}{PL:List MX}(h:Done true c PL)(h2:c.Kind=2):ai .i64 c.Flags 32≠0:=fun e=>by
 have:=congrArg MX.Attrs (h.2 h2).2
 have e1:(db true (f8 c)).Attrs=dp true 1:=by
  show dp true (bif decide (ai .i64 c.Flags 32=0) then 1 else 0)=_;rw [Nf e];rfl
 have e2:(f8 c).Attrs=1:=by
  show (bif decide (ai .i64 c.Flags 32=0) then (1:Int) else 0)=_;rw [Nf e];rfl
 rw [e1,e2,(tV true).2.2.1] at this;exact absurd this (by decide)
structure HardInv (fr:Bool) (ks:List MM) (j:Nat) (c:MY) (PL:List MX):Prop where
 own: ∀x∈ks, ∃p,Owned c PL x p
 pk: ∀p∈PL,p.Key∈ks
 ek:c.Kind=2→ ∀(n:Nat) y,c.More[n]? =some y→y≠eO→nU n∈ks
 lk:c.Kind=2→kW∈ks
 dn: ∀p∈PL,p.Key∈ks.take j→db fr p=p
 de:c.Kind=2→ ∀(n:Nat) y,c.More[n]? =some y→y≠eO→nU n∉ks.take j
 dl:c.Kind=2→kW∈ks.take j→db fr (f8 c)=f8 c
section
variable {N i k:Nat} {w:MT} {c:MY} {PL:List MX} {K:List MM} (h:Stt N i k w c PL K) {fr:Bool} {ks:List MM} {j:Nat} {k':Nat} {w':MT} {c':MY} {PL':List MX} (h':Stt N i k' w' c' PL' K) (hI:HardInv fr ks j c PL) (hj:j<ks.length) {p:MX} (hpk:p.Key=ks[j]) (hpm:fV p.Attrs) (hkind:c'.Kind=c.Kind) (hr:HardR fr c PL ks[j] p c' PL')
include h h' hI hj hpk hpm hkind hr
theorem HardInv.step:HardInv fr ks (j+1) c' PL'∧ai .i64 c'.Flags 1=ai .i64 c.Flags 1:=by
 have hidem:db fr (db fr p)=db fr p:=by
  unfold db;rw [(r8 hpm fr).2.2]
 have htk: ∀x,x∈ks.take (j+1)→x∈ks.take j∨x=ks[j]:=fun x hx=>by
  rw [List.take_add_one,List.getElem?_eq_getElem hj,List.mem_append] at hx;rcases hx with hx|hx
  ·exact .inl hx
  exact .inr (List.mem_singleton.1 hx)
 have hks:ks[j]∈ks:=List.getElem_mem _;rcases hr with ⟨n,hn,rfl,hm,hf⟩|⟨h2,hl,rfl,hm,hf⟩|⟨h2,j0,x0,he,hx0,hh0,hm,rfl,hf⟩
 ·have hmem:=List.mem_of_getElem? hn;have hlen:f8 c'=f8 c:=zX hf (by rw [hm])
  have hkeys:(PL.set n (db fr p)).map (·.Key)=PL.map (·.Key):=by
   rw [List.map_set];exact na (by rw [List.getElem?_map,hn];rfl)
  have hin:db fr p∈PL.set n (db fr p):=List.mem_of_getElem? (List.getElem?_set_self (List.getElem?_eq_some_iff.1 hn).1);refine ⟨⟨fun x hx=> ?_,fun q hq=> ?_,fun e=>by rw [hm];exact hI.ek (hkind.symm.trans e),fun e=>hI.lk (hkind.symm.trans e),fun q hq hqk=> ?_,fun e n y hy hh hx=> ?_,fun e hx=> ?_⟩,by rw [hf]⟩
  ·obtain ⟨q,hq⟩:=hI.own x hx;rcases hq with ⟨q1,q2⟩|⟨q1,q2, -⟩|⟨q1,j1,y,q2,q3,q4, -⟩
   ·have:x∈(PL.set n (db fr p)).map (·.Key):=by rw [hkeys, ←q2];exact List.mem_map_of_mem q1
    obtain ⟨u,u1,u2⟩:=List.mem_map.1 this;exact ⟨u,.inl ⟨u1,u2⟩⟩
   ·exact ⟨_,.inr (.inl ⟨hkind.trans q1,q2,J⟩)⟩
   exact ⟨_,.inr (.inr ⟨hkind.trans q1,j1,y,q2,by rw [hm];exact q3,q4,rfl⟩)⟩
  ·have:q.Key∈PL.map (·.Key):=by rw [←hkeys];exact List.mem_map_of_mem hq
   obtain ⟨u,u1,u2⟩:=List.mem_map.1 this;rw [←u2];exact hI.pk u u1
  ·by_cases e:q.Key=p.Key
   ·have:q=db fr p:=h'.o.uniq hq hin e;rw [this,hidem]
   rcases List.mem_or_eq_of_mem_set hq with hq|rfl
   ·rcases htk _ hqk with hqk|hqk
    ·exact hI.dn q hq hqk
    exact absurd (hqk.trans hpk.symm) e
   exact absurd J e
  ·rw [hm] at hy;have e2:=hkind.symm.trans e;rcases htk _ hx with hx|hx
   ·exact hI.de e2 n y hy hh hx
   rw [←hpk] at hx;have:=h.hole e2 p hmem (by rw [←hx];rfl);rw [←hx] at this;have e3:c.More[((n:Int)).toNat]? =some eO:=this;rw [Int.toNat_natCast,hy] at e3;exact hh (Option.some.inj e3)
  have e2:=hkind.symm.trans e;rw [hlen];rcases htk _ hx with hx|hx
  ·exact hI.dl e2 hx
  exact absurd (hpk.trans hx.symm) (h.len e2 p hmem)
 ·obtain ⟨l1,l2⟩:=FU h.o.inv.obj.rc.fl hf;refine ⟨⟨fun x hx=> ?_,hI.pk,fun e=>by rw [hm];exact hI.ek h2,fun e=>hI.lk h2,fun q hq hqk=> ?_,fun e n y hy hh hx=> ?_,fun e hx=>l1⟩,l2⟩
  ·obtain ⟨q,hq⟩:=hI.own x hx;rcases hq with hq|⟨q1,q2, -⟩|⟨q1,j1,y,q2,q3,q4, -⟩
   ·exact ⟨q,.inl hq⟩
   ·exact ⟨_,.inr (.inl ⟨hkind.trans q1,q2,J⟩)⟩
   exact ⟨_,.inr (.inr ⟨hkind.trans q1,j1,y,q2,by rw [hm];exact q3,q4,rfl⟩)⟩
  ·rcases htk _ hqk with hqk|hqk
   ·exact hI.dn q hq hqk
   exact absurd (hqk.trans hl) (h.len h2 q hq)
  rw [hm] at hy;rcases htk _ hx with hx|hx
  ·exact hI.de h2 n y hy hh hx
  exact wg (hl.symm.trans hx.symm)
 have hlen:f8 c'=f8 c:=zX hf (by rw [hm,List.length_set]);have hlt:=(List.getElem?_eq_some_iff.1 hx0).1
 have hne: ∀(n:Nat) y,c'.More[n]? =some y→y≠eO→n≠j0∧c.More[n]? =some y:=fun n y hy hh=>by
  rw [hm] at hy;by_cases e:j0=n
  ·subst e;rw [List.getElem?_set_self hlt] at hy;exact absurd (Option.some.inj hy).symm hh
  rw [List.getElem?_set_ne e] at hy;exact ⟨Ne.symm e,hy⟩
 refine ⟨⟨fun x hx=> ?_,fun q hq=> ?_,fun e n y hy hh=>hI.ek h2 n y (hne n y hy hh).2 hh,fun e=>hI.lk h2,fun q hq hqk=> ?_,fun e n y hy hh hx=> ?_,fun e hx=> ?_⟩,by rw [hf]⟩
 ·obtain ⟨q,hq⟩:=hI.own x hx;rcases hq with ⟨q1,q2⟩|⟨q1,q2, -⟩|⟨q1,j1,y,q2,q3,q4, -⟩
  ·exact ⟨q,.inl ⟨List.mem_append_left _ q1,q2⟩⟩
  ·exact ⟨_,.inr (.inl ⟨hkind.trans q1,q2,J⟩)⟩
  by_cases e:j0=j1
  ·subst e;exact ⟨db fr p,.inl ⟨Nj _ (List.mem_singleton_self _),by rw [q2, ←he];exact hpk⟩⟩
  exact ⟨_,.inr (.inr ⟨hkind.trans q1,j1,y,q2,by rw [hm,List.getElem?_set_ne e];exact q3,q4,rfl⟩)⟩
 ·rcases List.mem_append.1 hq with hq|hq
  ·exact hI.pk q hq
  rw [List.mem_singleton] at hq;rw [hq,EL,hpk];exact hks
 ·rcases List.mem_append.1 hq with hq|hq
  ·rcases htk _ hqk with hqk|hqk
   ·exact hI.dn q hq hqk
   have e3:q.Key=nU j0:=hqk.trans he;have:=h.hole h2 q hq (by rw [e3];rfl);rw [e3] at this;have e4:c.More[((j0:Int)).toNat]? =some eO:=this;rw [Int.toNat_natCast,hx0] at e4;exact absurd (Option.some.inj e4) hh0
  rw [List.mem_singleton] at hq;rw [hq,hidem]
 ·obtain ⟨n1,n2⟩:=hne n y hy hh;rcases htk _ hx with hx|hx
  ·exact hI.de h2 n y n2 hh hx
  have:=congrArg MM.N (hx.trans he);have e3:(n:Int)=(j0:Int):=this;exact n1 O
 rw [hlen];rcases htk _ hx with hx|hx
 ·exact hI.dl h2 hx
 exact absurd (hx.trans he) wg
theorem HardR.same (hd:Done true c PL):c'.More=c.More∧PL'=PL∧c'.Flags=c.Flags:=by
 have:=And.intro h' (And.intro hI (And.intro hj (And.intro hpk (And.intro hpm hkind))));rcases hr with ⟨n,hn,rfl,hm,hf⟩|⟨h2,hl,rfl,hm,hf⟩|⟨h2,j0,x0,he,hx0,hh0,hm,rfl,hf⟩
 ·refine ⟨hm,?_,hf⟩;have hmem:=List.mem_of_getElem? hn;have e1:=hd.1 p hmem
  have e2:db fr p=p:=by
   have:=Do hpm (congrArg MX.Attrs e1) fr;unfold db;rw [this]
  rw [e2];exact na hn
 ·refine ⟨hm,J,?_⟩;have e:=hd.flag h2
  have e1:(db fr (f8 c)).Attrs=0:=by
   show dp fr (bif decide (ai .i64 c.Flags 32=0) then 1 else 0)=_;rw [Ng e];exact (tV fr).1
  rw [hf];unfold sK;rw [e1,(tV fr).2.2.2.1,Nf rfl];exact (Hx h.o.inv.obj.rc.fl).2.2.1 e
 exact absurd ((hd.2 h2).1 j0 x0 hx0) hh0
end
end
section
open Go.RowKit
theorem tM: ∀(m:List MQ) (j:Nat) (x:MM),x∈gv j m↔ ∃(n:Nat) (y:MQ),m[n]? =some y∧y≠eO∧x=nU ((j+n:Nat):Int)
 | [],j,x=>⟨fun h=>(by cases h),fun ⟨n,y,h,_⟩=>by cases h⟩
 | z::m,j,x=>by
  have ih:=tM m (j+1) x
  have hs:(∃(n:Nat) (y:MQ),(z::m)[n]? =some y∧y≠eO∧x=nU ((j+n:Nat):Int))↔((z≠eO∧x=nU ((j:Nat):Int))∨ ∃(n:Nat) (y:MQ),m[n]? =some y∧y≠eO∧x=nU ((j+1+n:Nat):Int)):=by
   constructor
   ·rintro ⟨n,y,h1,h2,h3⟩
    cases n with
    |zero=>exact .inl ⟨by rw [Option.some.inj h1];exact h2,h3⟩
    |succ n=>exact .inr ⟨n,y,h1,h2,by rw [h3,show j+(n+1)=j+1+n by omega]⟩
   rintro (⟨h1,h2⟩|⟨n,y,h1,h2,h3⟩)
   ·exact ⟨0,z,J,h1,h2⟩
   exact ⟨n+1,y,h1,h2,by rw [h3,show j+(n+1)=j+1+n by omega]⟩
  have hu:gv j (z::m)=bif decide (z=(⟨8,0,(⟨#[]⟩:ByteArray)⟩:MQ)) then gv (j+1) m else nU ((j:Nat):Int)::gv (j+1) m:=rfl;rw [hs, ←ih,hu];by_cases e:z=(⟨8,0,(⟨#[]⟩:ByteArray)⟩:MQ)
  ·rw [Nf e,ct];exact ⟨.inr,fun h=>h.resolve_left fun h=>h.1 e⟩
  rw [Ng e,cf,List.mem_cons];exact ⟨fun h=>h.imp (fun h=>⟨e,h⟩) id,fun h=>h.imp (fun h=>h.2) id⟩
def iu (c:MY)(PL:List MX):List MM:=bif decide (c.Kind=2) then (gv 0 c.More++ [kW])++PL.map (·.Key) else PL.map (·.Key)
theorem yc {c:MY}{PL:List MX}{x:MM}:x∈iu c PL↔ ∃p,Owned c PL x p:=by
 unfold iu;by_cases h2:c.Kind=2
 ·rw [Nf h2,ct,List.mem_append,List.mem_append,tM,List.mem_singleton];constructor
  ·rintro ((⟨n,y,h1,h3,h4⟩|h)|h)
   ·exact ⟨_,.inr (.inr ⟨h2,n,y,by rw [h4,Nat.zero_add],h1,h3,rfl⟩)⟩
   ·exact ⟨_,.inr (.inl ⟨h2,h,J⟩)⟩
   obtain ⟨p,hp,e⟩:=List.mem_map.1 h;exact ⟨p,.inl ⟨hp,e⟩⟩
  rintro ⟨p,⟨h1,h3⟩|⟨-,h, -⟩|⟨-,n,y,h1,h3,h4, -⟩⟩
  ·exact .inr (List.mem_map.2 ⟨p,h1,h3⟩)
  ·exact .inl (.inr h)
  exact .inl (.inl ⟨n,y,h3,h4,by rw [h1,Nat.zero_add]⟩)
 rw [Ng h2,cf];constructor
 ·intro h;obtain ⟨p,hp,e⟩:=List.mem_map.1 h;exact ⟨p,.inl ⟨hp,e⟩⟩
 rintro ⟨p,⟨h1,h3⟩|⟨e, -⟩|⟨e, -⟩⟩
 ·exact List.mem_map.2 ⟨p,h1,h3⟩
 ·exact absurd e h2
 exact absurd e h2
theorem Ld {fr:Bool}{ks:List MM}{c:MY}{PL:List MX}(h:ks.Perm (iu c PL)):HardInv fr ks 0 c PL:=by
 have hm: ∀x,x∈ks↔ ∃p,Owned c PL x p:=fun x=>h.mem_iff.trans yc
 have h0: ∀x,x∉ks.take 0:=fun x hx=>by rw [List.take_zero] at hx;cases hx
 exact ⟨fun x hx=>(hm x).1 hx,fun p hp=>(hm _).2 ⟨p,.inl ⟨hp,J⟩⟩,fun e n y hy hh=>(hm _).2 ⟨_,.inr (.inr ⟨e,n,y,J,hy,hh,J⟩)⟩,fun e=>(hm _).2 ⟨_,.inr (.inl ⟨e,J,J⟩)⟩,fun _ _ hx=>absurd hx (h0 _),fun _ _ _ _ _ hx=>absurd hx (h0 _),fun _ hx=>absurd hx (h0 _)⟩
theorem Done.of {fr:Bool}{ks:List MM}{c:MY}{PL:List MX}(h:HardInv fr ks ks.length c PL):Done fr c PL:=by
 have ht:ks.take ks.length=ks:=List.take_of_length_le (Nat.le_refl _);refine ⟨fun p hp=>h.dn p hp (by rw [ht];exact h.pk p hp),fun h2=>⟨fun n y hy=>Classical.byContradiction fun hh=>h.de h2 n y hy hh (by rw [ht];exact h.ek h2 n y hy hh),h.dl h2 (by rw [ht];exact h.lk h2)⟩⟩
theorem Done.move {fr:Bool}{c c':MY}{PL:List MX}(h:Done fr c PL)(h1:c'.Kind=c.Kind)(h2:c'.More=c.More)(h3:ai .i64 c'.Flags 32=ai .i64 c.Flags 32):Done fr c' PL:=by
 have hl:f8 c'=f8 c:=by
  unfold f8;rw [h2,h3]
 exact ⟨h.1,fun e=>⟨by rw [h2];exact (h.2 (h1.symm.trans e)).1,by rw [hl];exact (h.2 (h1.symm.trans e)).2⟩⟩
def JA (N:Nat)(v:MQ)(ks:List MM)(asks:MX→Option Na)(F:Nat→Bool→Int→MT→Option (Bool×MT)):Prop:= ∀(m:Nat) (j:Int) (w:MT),F (m+1) true j w=bif decide (j<(ks.length:Int)) then (bR ks j).bind fun x=>(bZ N w v x).bind fun y=>(asks y.1).bind fun d=>(cB N w v x d).bind fun r=>(bif true then some r.1 else some false).bind fun b=>dq (bQ (j+1)) (F m b (j+1) r.2.2) else some (true,w)
section
variable {N:Nat} (hN:20000≤N) {v:MQ} {i:Nat} (hv:v.Kind=7) (hvN:v.N=2*i+1) {K:List MM} (hK:K.length<1024) {k:Nat} (hk:k+100000000≤1000000000)
include hN hv hvN hK hk
def KM (N i k:Nat)(K:List MM)(fr:Bool)(c:MY)(PL:List MX)(r:Bool×MT):Prop:=r.1=true∧ ∃c' PL',Stt N i k r.2 c' PL' K∧c'.Kind=c.Kind∧ai .i64 c'.Flags 1=ai .i64 c.Flags 1∧Done fr c' PL'∧(Done true c PL→c'.More=c.More∧PL'=PL∧c'.Flags=c.Flags)
theorem zh {fr:Bool}{ks:List MM}(hks:ks.length≤6000){asks:MX→Option Na}{F:Nat→Bool→Int→MT→Option (Bool×MT)}(hF:JA N v ks asks F)(hasks: ∀p, ∃d,asks p=some d∧Hardens fr p d): ∀(m j:Nat) (w:MT) (c:MY) (PL:List MX),ks.length<m+j→j≤ks.length→Stt N i (k+4096*j) w c PL K→HardInv fr ks j c PL→Sat (F m true (j:Int) w) (KM N i (k+30000000) K fr c PL)
 |0,j,w,c,PL,h0,h1,_,_=>by omega
 | m+1,j,w,c,PL,h0,h1,h,hI=>by
  rw [hF];by_cases hj:j<ks.length
  ·rw [Nf O,ct,jv hj,bs];obtain ⟨p,hp⟩:=hI.own _ (List.getElem_mem hj);obtain ⟨d,hd1,hd2⟩:=hasks p;obtain ⟨-, -,o3,o4, -⟩:=h.owned hN hv hvN O hp;rw [zV hN hv hvN h O hp,bs];show Sat (Option.bind (asks p) _) _;rw [hd1,bs]
   refine (HE hN hv hvN h O hK hp hd2).bind fun r hr=> ?_
   obtain ⟨r1,c1,PL1,g1,g2,g3⟩:=hr;rw [r1,ct,bs];refine aQ (by constructor<;>omega) ?_;obtain ⟨s1,s2⟩:=hI.step h g1 hj o4 o3 g2 g3
   refine (zh hks hF hasks m (j+1) r.2.2 c1 PL1 O O (g1.more O fun _ hx=>hx) s1).mono fun q hq=> ?_
   obtain ⟨q1,c2,PL2,b1,b2,b3,b4,b5⟩:=hq;refine ⟨q1,c2,PL2,b1,b2.trans g2,b3.trans s2,b4,fun hd=> ?_⟩;obtain ⟨e1,e2,e3⟩:=HardR.same h g1 hI hj o4 o3 g2 g3 hd;subst e2;obtain ⟨f1,f2,f3⟩:=b5 (hd.move g2 e1 (by rw [e3]));exact ⟨f1.trans e1,f2,f3.trans e3⟩
  rw [Ng O,cf]
  have e:j=ks.length:=by omega
  subst e;exact ab ⟨J,c,PL,h.more O fun _ hx=>hx,J,J,Done.of hI,fun _=>⟨J,J,J⟩⟩
section
variable {w:MT} {c:MY} {PL:List MX} (h:Stt N i k w c PL K)
include h
theorem FX: ∃ks,dw N w v=some ks∧eA N (iu c PL)=some ks∧ks.Perm (iu c PL)∧ks.length≤6000:=by
 have hfew:=h.few;have hmo:=h.o.inv.obj.rc.more;have hel:=qm 0 c.More
 have hlen:(iu c PL).length≤6000:=by
  unfold iu;cases decide (c.Kind=2)
  ·rw [cf,List.length_map];omega
  rw [ct,List.length_append,List.length_append,List.length_map,List.length_singleton];omega
 obtain ⟨ks,h1,h2⟩:=Bm N hN (iu c PL) hlen fun x hx=>by
  obtain ⟨p,hp⟩:=yc.1 hx;exact (h.owned hN hv hvN O hp).2.2.2.2.1
 refine ⟨ks,?_,h1,h2,by rw [h2.length_eq];exact hlen⟩;rw [FS hN hv hvN O h.o.inv,List.map_map];exact h1
theorem Fn:ee N w v=some (qY w (w.heap_.m_.Young.set i (jU c)))∧Stt N i k (qY w (w.heap_.m_.Young.set i (jU c))) (jU c) PL K:=by
 have:=hK;obtain ⟨h1,h2⟩:=JE hN hv hvN h.o O;exact ⟨h1,h2,h.pk,h.hole,h.len,h.ek⟩
theorem Gh {fr:Bool}{f:MT→MQ→Option (Bool×MT)}(F:List MM→Nat→Bool→Int→MT→Option (Bool×MT))(asks:MX→Option Na)(hF: ∀ks,JA N v ks asks (F ks))(hasks: ∀p, ∃d,asks p=some d∧Hardens fr p d)(hf:f w v=(ga N w v).bind fun y=>bif !y then some (false,w) else (ee N w v).bind fun y18=>(dw N y18 v).bind fun ks=>F ks N true 0 y18):Sat (f w v) fun r=>KM N i (k+30000000) K fr (jU c) PL r∧(Done true c PL→Done true (jU c) PL):=by
 obtain ⟨h1,h2⟩:=Fn hN hv hvN hK hk h;obtain ⟨ks,k1, -,k2,k3⟩:=FX hN hv hvN hK hk h2;rw [hf,Lz hN hv hvN O h.o.inv,bs,nt,cf,h1,bs,k1,bs]
 refine (zh hN hv hvN hK hk k3 (hF ks) hasks N 0 _ (jU c) PL O O h2 (Ld k2)).mono fun r hr=>⟨hr,fun hd=>hd.move J J (J4 h.o.inv.obj.rc.fl)⟩
theorem F0 {fr:Bool}{r:Bool×MT}(hr:KM N i (k+30000000) K fr (jU c) PL r∧(Done true c PL→Done true (jU c) PL)):r.1=true∧ ∃c' PL',Stt N i (k+30000000) r.2 c' PL' K∧c'.Kind=c.Kind∧ai .i64 c'.Flags 1=0∧Done fr c' PL'∧(Done true c PL→ai .i64 c.Flags 1=0→c'.More=c.More∧PL'=PL∧c'.Flags=c.Flags):=by
 have:=And.intro hN (And.intro hv (And.intro hvN (And.intro hK hk)));obtain ⟨⟨r1,c',PL',g1,g2,g3,g4,g5⟩,g6⟩:=hr;have hf:=F9 h.o.inv.obj.rc.fl h.o.inv.obj.noP;refine ⟨r1,c',PL',g1,g2,g3.trans hf.2.2,g4,fun hd h1=> ?_⟩;obtain ⟨e1,e2,e3⟩:=g5 (g6 hd);exact ⟨e1,e2,e3.trans ((Hx h.o.inv.obj.rc.fl).2.2.2 h1)⟩
theorem BI:Sat (fO N w v) fun r=>r.1=true∧ ∃c' PL',Stt N i (k+30000000) r.2 c' PL' K∧c'.Kind=c.Kind∧ai .i64 c'.Flags 1=0∧Done true c' PL'∧(Done true c PL→ai .i64 c.Flags 1=0→c'.More=c.More∧PL'=PL∧c'.Flags=c.Flags):=by
 unfold fO
 refine (Gh hN hv hvN hK hk h (f:=fun w v=>iq N w v) (fun ks m b j w=>eY N ks v m b j w.spent_.steps_ w.spent_.made_ w.spent_.calls_ w.config_.Way w.config_.Steps w.config_.Calls w.config_.Made w.config_.Young w.config_.Full w.config_.Sites w.symbols_ w.epoch_ w.serial_ w.sleepers_ w.events_ w.out_ w.heap_.m_.Young w.heap_.m_.Old w.heap_.roots_ w.heap_.pending_ w.shapes_.shapes_ w.shapes_.next_ w.heap_.set_.at_) (fC N) (fun ks m j w=>J) (F5 N) J).bind fun r hr=>ab (F0 hN hv hvN hK hk h hr)
theorem JF:Sat (kN N w v) fun r=>r.1=true∧ ∃c' PL',Stt N i (k+30000000) r.2 c' PL' K∧c'.Kind=c.Kind∧ai .i64 c'.Flags 1=0∧Done false c' PL'∧(Done true c PL→ai .i64 c.Flags 1=0→c'.More=c.More∧PL'=PL∧c'.Flags=c.Flags):=by
 unfold kN
 refine (Gh hN hv hvN hK hk h (f:=fun w v=>i9 N w v) (fun ks m b j w=>fz N ks v m b j w.spent_.steps_ w.spent_.made_ w.spent_.calls_ w.config_.Way w.config_.Steps w.config_.Calls w.config_.Made w.config_.Young w.config_.Full w.config_.Sites w.symbols_ w.epoch_ w.serial_ w.sleepers_ w.events_ w.out_ w.heap_.m_.Young w.heap_.m_.Old w.heap_.roots_ w.heap_.pending_ w.shapes_.shapes_ w.shapes_.next_ w.heap_.set_.at_) (iZ N) (fun ks m j w=>J) (JG N) J).bind fun r hr=>ab (F0 hN hv hvN hK hk h hr)
end
end
end
section
open Go.RowKit
theorem Done.owned {fr:Bool}{c:MY}{PL:List MX}(h:Done fr c PL){key:MM}{p:MX}(ho:Owned c PL key p):db fr p=p:=by
 rcases ho with ⟨h1, -⟩|⟨h2, -,rfl⟩|⟨h2,j,x, -,hx,hh, -⟩
 ·exact h.1 p h1
 ·exact (h.2 h2).2
 exact absurd ((h.2 h2).1 j x hx) hh
theorem Owned.move {c c':MY}{PL:List MX}(h1:c'.Kind=c.Kind)(h2:c'.More=c.More)(h3:c'.Flags=c.Flags){key:MM}{p:MX}(h:Owned c PL key p):Owned c' PL key p:=by
 rcases h with h|⟨g1,g2,g3⟩|⟨g1,j,x,g2,g3,g4,g5⟩
 ·exact .inl h
 ·exact .inr (.inl ⟨h1.trans g1,g2,by rw [g3];exact (zX h3 (by rw [h2])).symm⟩)
 exact .inr (.inr ⟨h1.trans g1,j,x,g2,by rw [h2];exact g3,g4,g5⟩)
theorem E5 {c c':MY}{PL:List MX}(h1:c'.Kind=c.Kind)(h2:c'.More=c.More):iu c' PL=iu c PL:=by
 unfold iu;rw [h1,h2]
theorem pJ {p:MX}(hm:fV p.Attrs)(h:db true p=p):ai .i64 p.Attrs 5=0∧ai .i64 p.Attrs 4=0:=by
 have e:dp true p.Attrs=p.Attrs:=congrArg MX.Attrs h;exact ⟨(BF hm).2.1 e,(BF hm).1.1 (Do hm e false)⟩
section
variable {N:Nat} (hN:20000≤N) {v:MQ} {i:Nat} (hv:v.Kind=7) (hvN:v.N=2*i+1) {K:List MM} (hK:K.length<1024) {k:Nat} (hk:k+100000000≤1000000000) {w:MT} {c:MY} {PL:List MX} (h:Stt N i k w c PL K)
include hN hv hvN hK hk h
theorem By (key:MM):Sat (bZ N w v key) fun r=>(r.2=true∧Owned c PL key r.1)∨(r.2=false∧ ∀p, ¬Owned c PL key p):=by
 have hmo:=h.o.inv.obj.rc.more;have hKs:=hK
 have hobj:Sat (dP N w v key) fun r=>(r.2=true∧r.1∈PL∧r.1.Key=key)∨(r.2=false∧ ∀p∈PL,p.Key≠key):=(Cy hN hv hvN O h.o.inv h.o.obj key).mono fun r hr=>by
  rcases hr with ⟨h1, -,h3⟩|⟨h1,h2,h3⟩
  ·exact .inr ⟨h1,h3⟩
  exact .inl ⟨h1,h2,h3⟩
 unfold bZ;rw [D8 hN hv hvN O h.o.inv,bs];by_cases h2:c.Kind=2
 ·rw [Nf h2,ct];by_cases hl:key=kW
  ·subst hl;rw [uq hN hv hvN (h.arr h2) O,bs];exact ab (.inl ⟨J,.inr (.inl ⟨h2,J,J⟩)⟩)
  by_cases hR:keyR N key
  ·refine (C0 hN hv hvN (h.arr h2) O hl hR).bind fun r hr=>ab ?_
   rcases hr with ⟨x,h0,hx,hh,rfl, -⟩|⟨h3,h4,h5, -⟩|⟨h3, -,h4,h5⟩
   ·have hb:=(hR.b O h0).1;have e:=tT hR h0;exact .inl ⟨J,.inr (.inr ⟨h2,key.N.toNat,x,by rw [Int.toNat_of_nonneg hb];exact e,hx,hh,rfl⟩)⟩
   ·exact .inl ⟨h5,.inl ⟨h3,h4⟩⟩
   refine .inr ⟨h3,fun p hp=> ?_⟩;rcases hp with ⟨p1,p2⟩|⟨-,e, -⟩|⟨-,j,x,e,hx,hh, -⟩
   ·exact h4 p p1 p2
   ·exact hl e
   refine hh (h5 (by rw [e];rfl) x ?_);rw [e];show c.More[((j:Int)).toNat]? =_;rw [Int.toNat_natCast];exact hx
  have hno: ∀p, ¬Owned c PL key p:=fun p hp=>hR (h.owned hN hv hvN O hp).2.2.2.2.1
  have hb:co N key=some false:=by
   obtain ⟨b,hb, -⟩:=kK N O key;cases b
   ·exact hb
   exact absurd hb hR
  have e:bY N w v key=(dP N w v key).bind fun y=>some (y.1,y.2):=by
   unfold bY cu;rw [ns hN hv hvN O h.o.inv,bs,Nf h2,nt,cf,bs,Ng (show¬key=⟨1,0,⟨#[108,101,110,103,116,104]⟩⟩ from hl),cf,hb];cases decide (key.Kind=0)<;>rfl
  rw [e]
  refine Sat.bind (P:=fun r=>(r.2=true∧r.1∈PL∧r.1.Key=key)∨(r.2=false∧ ∀p∈PL,p.Key≠key)) (hobj.bind fun r hr=>ab hr) fun r hr=>ab ?_
  rcases hr with ⟨h1,h3,h4⟩|⟨h1, -⟩
  ·exact absurd (.inl ⟨h3,h4⟩) (hno r.1)
  exact .inr ⟨h1,hno⟩
 rw [Ng h2,cf]
 refine hobj.bind fun r hr=>ab ?_
 rcases hr with ⟨h1,h3,h4⟩|⟨h1,h3⟩
 ·exact .inl ⟨h1,.inl ⟨h3,h4⟩⟩
 refine .inr ⟨h1,fun p hp=> ?_⟩;rcases hp with ⟨p1,p2⟩|⟨e, -⟩|⟨e, -⟩
 ·exact h3 p p1 p2
 ·exact h2 e
 exact h2 e
theorem JZ (hd:Done true c PL)(key:MM):Sat (lu N w v key) fun r=>r.2=w∧ ∀o,bZ N w v key=some o→r.1=!o.2:=by
 obtain ⟨o,ho,hoo⟩:=By hN hv hvN hK hk h key
 have hgoal: ∀r:Bool×MT,r.2=w→r.1=!o.2→r.2=w∧ ∀o,bZ N w v key=some o→r.1=!o.2:=fun r h1 h2=>⟨h1,fun o' ho'=>by
  rw [ho] at ho'
  rw [←Option.some.inj ho'];exact h2⟩
 unfold lu;rw [Nf hv,nt,cf,D8 hN hv hvN O h.o.inv,bs];by_cases h2:c.Kind=2
 ·have e:bZ N w v key=bY N w v key:=by
   unfold bZ;rw [D8 hN hv hvN O h.o.inv,bs,Nf h2,ct];cases bY N w v key<;>rfl
  rw [e] at ho;rw [Nf h2,ct];unfold oO;rw [ns hN hv hvN O h.o.inv,bs,Nf h2,nt,cf,ho,bs];rcases hoo with ⟨h3,h4⟩|⟨h3, -⟩
  ·have hm:=(h.owned hN hv hvN O h4).2.2.1;rw [h3,nt,cf,Nf (pJ hm (hd.owned h4)).2];exact ab (hgoal (false,w) J (by rw [h3];rfl))
  rw [h3];exact ab (hgoal (true,w) J (by rw [h3];rfl))
 rw [Ng h2,cf]
 refine (uJ hN hv hvN h.o O key).bind fun r hr=>ab ?_
 rcases hr with ⟨rfl,hno⟩|⟨rfl,p,p1,p2, -⟩|⟨n,p,c', -,p1,p2,p3, -⟩
 ·refine hgoal _ J ?_;rcases hoo with ⟨-,h4⟩|⟨h3, -⟩
  ·rcases h4 with ⟨q1,q2⟩|⟨e, -⟩|⟨e, -⟩
   ·exact absurd q2 (hno _ q1)
   ·exact absurd e h2
   exact absurd e h2
  rw [h3];rfl
 ·refine hgoal _ J ?_;rcases hoo with ⟨h3, -⟩|⟨-,h4⟩
  ·rw [h3];rfl
  exact absurd (.inl ⟨p1,p2⟩) (h4 p)
 have hp:=List.mem_of_getElem? p1;exact absurd (pJ (h.o.key hp).2 (hd.1 p hp)).2 p3
theorem Jg {key:MM}{p:MX}(ho:Owned c PL key p):rl N w v key=p:=by
 have:=hK;unfold rl;rw [zV hN hv hvN h O ho];rfl
theorem zL: ∃ks,eA N (iu c PL)=some ks∧(∀x∈ks,Owned c PL x (rl N w v x))∧jh N w v=some (ks.map (rl N w v))∧dw N w v=some ks∧ks.length≤6000:=by
 obtain ⟨ks,k1,k2,k3,k4⟩:=FX hN hv hvN hK hk h;refine ⟨ks,k2,fun x hx=> ?_,Em hN hv hvN O h.o.inv ks k1 k4,k1,k4⟩;obtain ⟨p,hp⟩:=yc.1 (k3.mem_iff.1 hx);rw [Jg hN hv hvN hK hk h hp];exact hp
theorem F4 (hd:Done true c PL)(hx:ai .i64 c.Flags 1=0):fN N w v=some true∧gP N w v=some true:=by
 obtain ⟨ks, -,k2, -,k4,k5⟩:=zL hN hv hvN hK hk h
 have ha: ∀x∈ks,ai .i64 (rl N w v x).Attrs 5=0∧ai .i64 (rl N w v x).Attrs 4=0:=fun x hx=>pJ (h.owned hN hv hvN O (k2 x hx)).2.2.1 (hd.owned (k2 x hx))
 rw [CL hN hv hvN O h.o.inv ks k4 k5,Cr hN hv hvN O h.o.inv ks k4 k5,Nf hx,Bool.true_and,Bool.true_and];exact ⟨congrArg some (List.all_eq_true.2 fun x hx=>Nf (ha x hx).1),congrArg some (List.all_eq_true.2 fun x hx=>Nf (ha x hx).2)⟩
theorem JH {k':Nat}(hk':k'+100000000≤1000000000){w':MT}{c':MY}(h':Stt N i k' w' c' PL K)(e1:c'.Kind=c.Kind)(e2:c'.More=c.More)(e3:c'.Flags=c.Flags): ∃ps,jh N w v=some ps∧jh N w' v=some ps∧ps.length≤6000:=by
 obtain ⟨ks,k1,k2,k3, -,k5⟩:=zL hN hv hvN hK hk h;obtain ⟨ks',k1',k2',k3', -, -⟩:=zL hN hv hvN hK hk' h';rw [E5 e1 e2,k1] at k1';have:ks=ks':=Option.some.inj k1';subst this;refine ⟨_,k3,?_,by rw [List.length_map];exact k5⟩;rw [k3']
 congr 1
 refine List.map_congr_left fun x hx=> ?_
 exact Jg hN hv hvN hK hk' h' ((k2 x hx).move e1 e2 e3)
end
end
section
open Go.RowKit
def zS (x:Int):MQ:=⟨3,x,⟨#[]⟩⟩
def d1 (x:Int):Na:=⟨1,0,zS x,v0,v0⟩
theorem b1:ai .i64 1 12=0∧ai .i64 1 3=1∧ai .i64 1 2=0∧ai .i64 1 16=0∧ai .i64 1 32=0∧ai .i64 1 1=1∧ai .i64 1 4=0∧ai .i64 1 8=0:=by decide+kernel
theorem EI: ∀a:_root_.Fin 16,dp true (a.val:Int)=(a.val:Int)→ai .i64 (a.val:Int) 8=0→ai .i64 (a.val:Int) 1=0∧bf .i64 (aZ .i64 (bf .i64 (ai .i64 (a.val:Int) 1) (ai .i64 (a.val:Int) 6)) 0) (ai .i64 0 0)=(a.val:Int):=by decide+kernel
theorem Lc {a:Int}(h:fV a)(e:dp true a=a)(h8:ai .i64 a 8=0):ai .i64 a 1=0∧bf .i64 (aZ .i64 (bf .i64 (ai .i64 a 1) (ai .i64 a 6)) 0) (ai .i64 0 0)=a:=by
 have h0:=h.1;have h1:=h.2.1;have:=EI ⟨a.toNat,by omega⟩;simp only [Int.toNat_of_nonneg h0] at this;exact this e h8
theorem AP (N:Nat){p:MX}(hn:normal p)(hm:fV p.Attrs)(hh:db true p=p)(ext:Bool)(x:Int):Sat (br N p true ext p.Key (d1 x)) fun r=>r.2=false∨(r=(p,true)∧p.Value=zS x):=by
 obtain ⟨c1,c2,c3,c4,c5,c6,c7,c8⟩:=b1;have e:dp true p.Attrs=p.Attrs:=congrArg MX.Attrs hh;have h4:=(pJ hm hh).2;unfold br;rw [nt,cf,Nf h4,ct];by_cases h8:ai .i64 p.Attrs 8=0
 ·obtain ⟨h1,ha⟩:=Lc hm e h8
  have hb:eB N p (d1 x)=some (!decide (zS x=p.Value)):=by
   unfold eB bi jw;simp [d1,c1,c2,c3,c4,c5,c6,c7,c8,h8,h1];rfl
  rw [hb,bs,bs];by_cases hv:zS x=p.Value
  ·rw [Nf hv,nt,cf]
   have hc:cA N p p.Key (d1 x)=some p:=by
    obtain ⟨pk,pa,pv,pg,ps⟩:=p;obtain ⟨hg,hs⟩:=hn.1 h8;simp only at hg hs h8 ha hv;subst hg hs hv;unfold cA dk d8 dj di dh d7 eN eH eG d5 bi;simp [d1,zS,c1,c2,c3,c4,c5,c6,c7,c8,h8,ha];rfl
   rw [hc,bs];exact ab (.inr ⟨J,hv.symm⟩)
  rw [Ng hv,nf,ct];exact ab (.inl J)
 have hb:eB N p (d1 x)=some true:=by
  unfold eB bi jw;simp [d1,c1,c2,c3,c4,c5,c6,c7,c8,h8]
 rw [hb];exact ab (.inl J)
section
variable {N:Nat} (hN:20000≤N) {v:MQ} {i:Nat} (hv:v.Kind=7) (hvN:v.N=2*i+1)
include hN hv hvN
section
variable {k:Nat} {w:MT} {c:MY} {PL:List MX} (h:Obj N i k w c PL)
include h
def Jt (N i k:Nat)(c:MY)(PL:List MX)(key:MM)(x:Int)(r:Bool×MT):Prop:=(r.1=true→ ∃p∈PL,p.Key=key∧p.Value=zS x)∧ ∃c',Obj N i k r.2 c' PL∧c'.Kind=c.Kind∧c'.More=c.More∧c'.Flags=c.Flags
theorem yT (hk:k+1100≤1000000000)(hd: ∀p∈PL,db true p=p)(hx:ai .i64 c.Flags 1=0)(key:MM)(x:Int):Sat (dg N w v key (d1 x)) (Jt N i (k+1024) c PL key x):=by
 have hst:Jt N i (k+1024) c PL key x (false,w):=⟨(fun e=>by cases e),c,h.more O,rfl,rfl,rfl⟩;unfold dg;rw [oY hN hv hvN O h.inv,bs];show Sat (Option.bind (co N key) _) _
 refine (kK N O key).bind fun b _=>eK (fun _=>ab hst) fun _=> ?_
 show Sat (Option.bind (bn N ⟨c,w,v⟩ key) _) _
 refine (sS (v:=v) hN O h.inv h.obj key).bind fun y hy=> ?_
 rcases hy with ⟨e1, -, -⟩|⟨n,e1,e2,hn,hnk⟩
 ·rw [e1];show Sat (Option.bind (br N y.1 false (!decide (ai .i64 c.Flags 1=0)) key (d1 x)) _) _;rw [Nf hx];exact ab hst
 have hpm:=List.mem_of_getElem? hn;obtain ⟨o1,o2,o3,o4⟩:=h.obj.ok hN y.1 hpm;obtain ⟨hR,hM⟩:=h.key hpm;subst hnk;rw [e2];show Sat (Option.bind (br N y.1 true (!decide (ai .i64 c.Flags 1=0)) y.1.Key (d1 x)) _) _
 refine (AP N o2 hM (hd _ hpm) _ x).bind fun q hq=> ?_
 rcases hq with hq|⟨rfl,hval⟩
 ·rw [hq];exact ab hst
 show Sat (Option.bind (cP N ⟨c,w,v⟩ y.1) _) _
 refine (wD hN hv hvN h hk (uy (v:=v) hN h O hpm).1 o3 (fun h2 h0=>h.inv.obj.idx h2 _ (List.mem_map_of_mem (f:=mQ) hpm) h0) hR hM (.inl ⟨_,hpm,J⟩)).bind fun r hr=> ?_
 obtain ⟨r1,c',p',PL',⟨s1,s2,s3⟩,hput,hobj,f1,f2,f3⟩:=hr;have hp':p'=y.1:=(s3 o1).trans o4;subst hp';rcases hput with ⟨hno, -⟩|⟨m,q,q1,q2,rfl⟩
 ·exact absurd J (hno _ hpm)
 have hq:q=y.1:=h.uniq (List.mem_of_getElem? q1) hpm q2;rw [hq] at q1;rw [na q1] at hobj;exact ab ⟨fun _=>⟨_,hpm,J,hval⟩,c',hobj,f1,f2,f3⟩
end
section
variable {K:List MM} (hK:K.length<1024) {k:Nat} (hk:k+100000000≤1000000000) {w:MT} {c:MY} {PL:List MX} (h:Stt N i k w c PL K) (hd:Done true c PL) (hx:ai .i64 c.Flags 1=0) (key:MM) {x:Int} (hx0:0≤x) (hx1:x≤65535)
include hK hk h hd hx hx0 hx1
def sQ {β:Type}(N i k:Nat)(K:List MM)(c:MY)(PL:List MX)(key:MM)(x:Int)(r:Bool×β×MT):Prop:=(r.1=true→ ∃p,Owned c PL key p∧p.Value=zS x)∧ ∃c',Stt N i k r.2.2 c' PL K∧c'.Kind=c.Kind∧c'.More=c.More∧c'.Flags=c.Flags
theorem tt {k':Nat}{w':MT}{c':MY}(ho:Obj N i k' w' c' PL)(h1:c'.Kind=c.Kind)(h2:c'.More=c.More):Stt N i k' w' c' PL K:=by
 have:=And.intro hN (And.intro hv (And.intro hvN (And.intro hK (And.intro hk (And.intro hd (And.intro hx (And.intro hx0 hx1)))))));exact ⟨ho,h.pk,fun e=>by rw [h2];exact h.hole (h1.symm.trans e),fun e=>h.len (h1.symm.trans e),fun e=>by rw [h2];exact h.ek (h1.symm.trans e)⟩
theorem Fa (h2:c.Kind=2):Sat (gh N w v key (d1 x)) (sQ N i (k+1048576) K c PL key x):=by
 have ha:=h.arr h2
 have hst: ∀b:Bool,sQ N i (k+1048576) K c PL key x (false,b,w):=fun b=>⟨(fun e=>by cases e),c,h.more O fun _ hx=>hx,rfl,rfl,rfl⟩
 have hdv:descV N (d1 x):=⟨⟨⟨by show _≤x;omega,by show x≤_;omega⟩,wd N O O⟩,lz,lz⟩;unfold gh;rw [ns hN hv hvN O h.o.inv,bs,Nf h2,nt,cf]
 refine Sat.bind (P:=fun b=>b=false→keyR N key) ?_ fun b hb=> ?_
 ·obtain ⟨b,hb, -⟩:=kK N O key;rw [hb,bs]
  refine ab fun e=> ?_
  rw [Bool.not_eq_false'] at e;rw [e] at hb;exact hb
 refine bB (P:=fun b'=>b'=false→b=false) (fun _=>ab fun h=>(Bool.noConfusion h)) (fun e=>(zj N (d1 x)).bind fun _ _=>ab fun _=>e) fun b2 hb2=>aP (fun _=>ab (hst _)) fun e=> ?_
 have hR:=hb (hb2 e);show Sat (Option.bind (some kW) _) _;rw [bs]
 refine bh (fun hl=> ?_) fun hl=>bh (fun h0=> ?_) fun h0=> ?_
 ·refine (vb hN hv hvN ha O hdv 1048576 O (fun _=>Nat.le_refl _)).bind fun r hr=>ab ?_
  rcases hr with ⟨e1,e2, -⟩|⟨p,p1, -,c',PL',g1,g2, -, -,g5⟩
  ·show sQ N i (k+1048576) K c PL key x (r.1,r.2.1,r.2.2);rw [e1,e2];exact hst _
  have hlo:Owned c PL kW (f8 c):=.inr (.inl ⟨h2,rfl,rfl⟩);obtain ⟨-,o2,o3, -⟩:=h.owned hN hv hvN O hlo;obtain ⟨q,q1,q2⟩:=AP N o2 o3 (hd.owned hlo) true x;have q1':br N (f8 c) true true kW (d1 x)=some q:=q1;rw [p1] at q1';have hq:(p,true)=q:=Option.some.inj q1';subst hq;rcases q2 with q2|⟨q2,hval⟩
  ·cases q2
  have hp:p=f8 c:=congrArg Prod.fst q2;have hn:x=(c.More.length:Int):=(congrArg MQ.N hval).symm;obtain ⟨g6,g7⟩:=g5 (.inr hn);subst g7;have hfl:=hd.flag h2;refine ⟨fun _=>⟨f8 c,by rw [hl];exact hlo,hval⟩,c',tt hN hv hvN hK hk h hd hx hx0 hx1 g1.o (g1.kind.trans h2.symm) g6,g1.kind.trans h2.symm,g6,?_⟩;rw [g2,hp];unfold sK
  have e0:(f8 c).Attrs=0:=by
   show (bif decide (ai .i64 c.Flags 32=0) then (1:Int) else 0)=_;rw [Ng hfl];rfl
  rw [e0,(tV true).2.2.2.1,Nf rfl];exact (Hx h.o.inv.obj.rc.fl).2.2.1 hfl
 ·by_cases hin: ∃p∈PL,p.Key=key
  ·obtain ⟨p,hpm,hpk⟩:=hin;obtain ⟨o1,o2,o3,o4⟩:=h.o.obj.ok hN p hpm;obtain ⟨-,hM⟩:=h.o.key hpm;subst hpk;have hown:bY N w v p.Key=some (p,true):=GV hN hv hvN ha O hpm;have hlt:p.Key.N<c.More.length:=h.o.inv.obj.idx h2 _ (List.mem_map_of_mem (f:=mQ) hpm) h0
   have hlay:Layable N p.Key p:=⟨(uy (v:=v) hN h.o O hpm).1,o3,hM,by
    unfold pI
    rw [o4]⟩
   refine (D9 hN hv hvN ha O p.Key h0 hR (d1 x) p hlay fun y hy _=> ?_).bind fun r hr=>ab ?_
   ·rw [hown] at hy;obtain rfl:=am hy
    exact (AP N o2 hM (hd.1 p hpm) _ x).mono fun r hr=>hr.imp id fun hr=>⟨hr.1,fun _ e=>e⟩
   show sQ N i (k+1048576) K c PL p.Key x (r.1,r.2.1,r.2.2);rcases hr with ⟨e1,e2, -⟩|⟨-,⟨y,y1,y2⟩,m',g1,g2,g3,c',PL',g4,g5,g6⟩
   ·rw [e1,e2];exact hst _
   rw [hown] at y1;obtain rfl:=Option.some.inj y1;obtain ⟨q,q1,q2⟩:=AP N o2 hM (hd.1 p hpm) (!decide (ai .i64 c.Flags 1=0)) x;rw [y2] at q1;have hq:(p,true)=q:=Option.some.inj q1;subst hq;rcases q2 with q2|⟨-,hval⟩
   ·cases q2
   have hm:=g3 hlt;subst hm;rcases g6 with ⟨e7, -⟩|⟨-,g7,p',⟨s1,s2,s3⟩,hput⟩
   ·have:=(pJ hM (hd.1 p hpm)).2;rw [e7,b7.2.1] at this;exact absurd this (by decide)
   have hp':p'=p:=(s3 o1).trans o4;subst hp';rcases hput with ⟨hno, -⟩|⟨n,q,u1,u2,rfl⟩
   ·exact absurd J (hno _ hpm)
   have hq:q=p':=h.o.uniq (List.mem_of_getElem? u1) hpm u2;rw [hq] at u1;rw [na u1] at g4
   have hmo:c'.More=c.More:=by rw [g7];exact na (h.hole h2 _ hpm h0)
   exact ⟨fun _=>⟨_,.inl ⟨hpm,J⟩,hval⟩,c',tt hN hv hvN hK hk h hd hx hx0 hx1 (g4.o.more O) (g4.kind.trans h2.symm) hmo,g4.kind.trans h2.symm,hmo,g5⟩
  have hno: ∀y,Ce c PL key y→y.2=false:=fun y hy=>by
   rcases hy with ⟨z, -,hz,hh, -⟩|⟨y1,y2, -⟩|⟨y1, -⟩
   ·exact absurd ((hd.2 h2).1 _ z hz) hh
   ·exact absurd ⟨y.1,y1,y2⟩ hin
   exact y1
  have hap: ∀y,Ce c PL key y→ ∃q,br N y.1 y.2 (!decide (ai .i64 c.Flags 1=0)) key (d1 x)=some (q,false):=fun y hy=>by
   rw [hno y hy,Nf hx];exact ⟨_,J⟩
  refine (D9 hN hv hvN ha O key h0 hR (d1 x) ⟨key,0,v0,v0,v0⟩ ⟨⟨ux N,lz,lz⟩,fun _=>⟨by show¬(0:Int)=7;decide,by show¬(0:Int)=9;decide⟩,Ez,by
   unfold pI iP
   rw [Nf (show ai .i64 (⟨key,0,v0,v0,v0⟩:MX).Attrs 8=0 by show ai .i64 0 8=0;decide+kernel)];rfl⟩ fun y _ hy=> ?_).bind fun r hr=>ab ?_
  ·obtain ⟨q,hq⟩:=hap y hy;exact ⟨_,hq,.inl J⟩
  show sQ N i (k+1048576) K c PL key x (r.1,r.2.1,r.2.2);rcases hr with ⟨e1,e2, -⟩|⟨-,⟨y,y1,y2⟩, -⟩
  ·rw [e1,e2];exact hst _
  obtain ⟨y',y3,y4⟩:=C0 hN hv hvN ha O hl hR;rw [y3] at y1;obtain rfl:=Option.some.inj y1;obtain ⟨q,hq⟩:=hap _ y4;rw [hq] at y2;cases y2
 refine (yT hN hv hvN h.o O hd.1 hx key x).bind fun r hr=>ab ?_
 obtain ⟨r1,c',g1,g2,g3,g4⟩:=hr;exact ⟨fun e=>let ⟨p,p1,p2,p3⟩:=r1 e;⟨p,.inl ⟨p1,p2⟩,p3⟩,c',tt hN hv hvN hK hk h hd hx hx0 hx1 (g1.more O) g2 g3,g2,g3,g4⟩
theorem EC:Sat (cB N w v key (d1 x)) (sQ N i (k+1048576) K c PL key x):=by
 have hst: ∀b:Int,sQ N i (k+1048576) K c PL key x (false,b,w):=fun b=>⟨(fun e=>by cases e),c,h.more O fun _ hx=>hx,rfl,rfl,rfl⟩
 have hdv:descV N (d1 x):=⟨⟨⟨by show _≤x;omega,by show x≤_;omega⟩,wd N O O⟩,lz,lz⟩
 have htold: ∀(b:Bool) (w':MT),sQ N i (k+1048576) K c PL key x (b,(),w')→Sat ((fW N b).bind fun y=>some (y.1,y.2,w')) (sQ N i (k+1048576) K c PL key x):=fun b w' hw'=>by
  unfold fW;cases b
  ·exact ab ⟨(fun e=>by cases e),hw'.2⟩
  exact ab ⟨hw'.1,hw'.2⟩
 unfold cB;rw [Nf hv,nt,cf,D8 hN hv hvN O h.o.inv,bs]
 refine eK (fun e=> ?_) fun e=> ?_
 ·refine (tn hN hv hvN h.o.inv O key hdv).bind fun _ _=>eK (fun _=>ab (hst _)) fun _=> ?_
  refine (yT hN hv hvN h.o O hd.1 hx key x).bind fun r hr=>htold _ _ ?_
  obtain ⟨r1,c',g1,g2,g3,g4⟩:=hr;exact ⟨fun e=>let ⟨p,p1,p2,p3⟩:=r1 e;⟨p,.inl ⟨p1,p2⟩,p3⟩,c',tt hN hv hvN hK hk h hd hx hx0 hx1 (g1.more O) g2 g3,g2,g3,g4⟩
 have hj: ∀q,Sat (dQ N w v key (d1 x) q) (sQ N i (k+1048576) K c PL key x):=fun q=>by
  unfold dQ
  exact eK (fun _=>ab (hst _)) fun _=>(Fa hN hv hvN hK hk h hd hx key hx0 hx1 (of_decide_eq_true e)).bind fun r hr=>htold _ _ ⟨hr.1,hr.2⟩
 unfold eL;rw [bs]
 exact bh (fun _=>(vd hN hv hvN h.o.inv O hdv).bind fun q _=>hj q) fun _=>(tn hN hv hvN h.o.inv O key hdv).bind fun q _=>hj q
end
end
end
section
open Go.RowKit
theorem Fi (N:Nat){x:Int}(h0:0≤x)(h1:x≤255):Sat (oX N x 10) fun y=> -1≤y∧y≤1000:=by
 have e:IntKind.i64.wrap x=x:=IntWalk.i64_in _ ⟨by omega,by omega⟩
 have h12: ∀p:Int, -1≤p→p≤1000→Sat (lh N 10 p) fun y=> -1≤y∧y≤1000:=fun p h0 h1=>by
  unfold lh
  exact aP (fun _=>ab ⟨by omega,by omega⟩) fun _=>ab ⟨h0,h1⟩
 have h6: ∀p:Int, -1≤p→p≤1000→Sat (lS N x 10 p) fun y=> -1≤y∧y≤1000:=fun p g0 g1=>by
  unfold lS
  refine bB (P:=fun b=>b=true→65≤x) (fun e=>ab fun _=>of_decide_eq_true e) (fun _=>ab fun h=>by cases h) fun b hb=>aP (fun eb=> ?_) fun _=>h12 p g0 g1
  have:=hb eb;rw [e];exact aQ (by constructor<;>omega) (aQ (by constructor<;>omega) (h12 _ O O))
 have hj1: ∀p:Int, -1≤p→p≤1000→Sat (lT N x 10 p) fun y=> -1≤y∧y≤1000:=fun p g0 g1=>by
  unfold lT
  refine bB (P:=fun b=>b=true→97≤x) (fun e=>ab fun _=>of_decide_eq_true e) (fun _=>ab fun h=>by cases h) fun b hb=>aP (fun eb=> ?_) fun _=>h6 p g0 g1
  have:=hb eb;rw [e];exact aQ (by constructor<;>omega) (aQ (by constructor<;>omega) (h6 _ O O))
 unfold oX
 refine bB (P:=fun b=>b=true→48≤x) (fun e=>ab fun _=>of_decide_eq_true e) (fun _=>ab fun h=>by cases h) fun b hb=>aP (fun eb=> ?_) fun _=>hj1 _ O O
 have:=hb eb;rw [e];exact aQ (by constructor<;>omega) (hj1 _ O O)
theorem xM (N:Nat)(s:ByteArray)(hs:s.size≤10): ∀(m i:Nat) (p:Int),s.size<m+i→i≤s.size→ -1≤p→p≤9007199254740992→Sat (gy N s 10 m p (i:Int)) fun _=>True
 |0,i,p,h,h1,_,_=>by omega
 | m+1,i,p,h,h1,h2,h3=>by
  have h7:i<s.size→ ∀q:Int, -1≤q→q≤9007199254740992→Sat (lU N (gy N s 10 m) s 10 (i:Int) q) fun _=>True:=fun hi q g0 g1=>by
   unfold lU;exact aQ (by constructor<;>omega) (xM N s hs m (i+1) q O O g0 g1)
  have h12:i<s.size→ ∀q:Int, -1≤q→Sat (li N (gy N s 10 m) s 10 (i:Int) q) fun _=>True:=fun hi q g0=>by
   unfold li
   exact bh (fun _=>h7 hi _ O O) fun h=>h7 hi _ g0 O
  rw [gy.eq_2]
  refine bh (fun hi=>(r9 O hi).bind fun x hx=>(Fi N hx.1 hx.2).bind fun y hy=>bh (fun _=>ab trivial) fun hy0=>bh (fun hp=> ?_) fun hp=>h12 O p h2) fun _=>ab trivial
  exact aQ (by constructor<;>omega) (aQ (by constructor<;>omega) (h12 O _ O))
theorem CG (N:Nat)(hN:5000≤N)(s:ByteArray):Sat (oW N s) fun _=>True:=by
 unfold oW;by_cases h10:s.size≤10
 ·cases e:(s.toList==(⟨#[]⟩:ByteArray).toList) with
  |true=>exact ab trivial
  | false=>
   have hs:0<s.size:=by
    rcases Nat.eq_zero_or_pos s.size with h|h
    ·exfalso
     have:s=⟨#[]⟩:=by
      obtain ⟨d⟩:=s;have:d= #[]:=Array.eq_empty_of_size_eq_zero h;rw [this]
     rw [this] at e;rw [beq_self_eq_true] at e;cases e
    exact h
   show Sat (Option.bind (some (decide (10<(s.size:Int)))) _) _;rw [bs,Ng O];show Sat (Option.bind ((uQ s 0).bind _) _) _
   refine Sat.bind (P:=fun _=>True) ((r9 O O).bind fun x _=>bB (P:=fun _=>True) (fun _=>ab trivial) (fun _=>ab trivial) fun _ _=>ab trivial) fun b _=> ?_
   refine aP (fun _=>ab trivial) fun _=>Sat.bind (P:=fun _=>True) (xM N s h10 N 0 0 O O O O) fun y _=> ?_
   (repeat' first|exact ab trivial|refine Sat.bind (P:=fun _=>True) ?_ (fun _ _=> ?_)|refine aP (fun _=> ?_) (fun _=> ?_))
 have:(bif s.toList==(⟨#[]⟩:ByteArray).toList then (some true) else (some (decide (10<(s.size:Int)))))=some true:=by
  cases s.toList==(⟨#[]⟩:ByteArray).toList with
  |true=>rfl
  |false=>show some _=_;rw [Nf O]
 rw [this];exact ab trivial
theorem wM (N:Nat)(hN:5000≤N)(k:MM):Sat (nh N k) fun _=>True:=by
 unfold nh
 refine bh (fun _=>by (repeat' first|exact ab trivial|refine Sat.bind (P:=fun _=>True) ?_ (fun _ _=> ?_)|refine aP (fun _=> ?_) (fun _=> ?_))) fun _=>bh (fun _=>Sat.bind (P:=fun _=>True) (CG N hN k.S) fun _ _=>by (repeat' first|exact ab trivial|refine Sat.bind (P:=fun _=>True) ?_ (fun _ _=> ?_)|refine aP (fun _=> ?_) (fun _=> ?_))) fun _=>bh (fun _=>by (repeat' first|exact ab trivial|refine Sat.bind (P:=fun _=>True) ?_ (fun _ _=> ?_)|refine aP (fun _=> ?_) (fun _=> ?_))) fun _=>ab trivial
theorem Kz (N:Nat){a:Int}(h0:0≤a)(h1:a≤15){b:Int}(hb:1≤b):Sat (lM N a b) fun _=>True:=by
 unfold lM;refine aQ ⟨by omega,?_⟩ (ab trivial);rw [Int.tdiv_eq_ediv_of_nonneg h0];have:=Int.ediv_nonneg h0 (show 0≤b by omega);have:=Int.ediv_le_self b h0;constructor<;>omega
theorem Dp (N:Nat)(v:MQ)(b:Bool):Sat (oy N v b) fun _=>True:=by
 unfold oy
 (repeat' first|exact ab trivial|refine Sat.bind (P:=fun _=>True) ?_ (fun _ _=> ?_)|refine aP (fun _=> ?_) (fun _=> ?_))
theorem AO (N:Nat){a:Int}(h0:0≤a)(h1:a≤15){b:Int}(hb:1≤b):lM N a b=some (decide ((a.tdiv b).tmod 2=1)):=by
 obtain ⟨y,hy, -⟩:=Kz N h0 h1 hb;rw [hy];unfold lM at hy;exact (ay hy).2.symm
theorem IZ: ∀a:_root_.Fin 16,(¬((a.val:Int).tdiv 8).tmod 2=1∨ ¬((a.val:Int).tdiv 1).tmod 2=1)→ai .i64 (a.val:Int) 9≠9:=by decide+kernel
theorem Ek (N:Nat)(p:MX):Sat (ls N p) fun b=>b=true→fV p.Attrs:=by
 unfold ls
 refine bB (P:=fun b=>b=false→0≤p.Attrs∧p.Attrs≤15) (fun _=>ab fun h=>by cases h) (fun e=>ab fun h=> ?_) fun b hb=>aP (fun _=>ab fun h=>by cases h) fun e=> ?_
 ·have h1:=of_decide_eq_false e;have h2:=of_decide_eq_false h;omega
 obtain ⟨h0,h1⟩:=hb e
 have hm:(¬(p.Attrs.tdiv 8).tmod 2=1∨ ¬(p.Attrs.tdiv 1).tmod 2=1)→fV p.Attrs:=fun hh=>by
  have:=IZ ⟨p.Attrs.toNat,by omega⟩;simp only [Int.toNat_of_nonneg h0] at this;exact ⟨h0,h1,this hh⟩
 rw [AO N h0 h1 O,bs,AO N h0 h1 O,bs];by_cases e8:(p.Attrs.tdiv 8).tmod 2=1
 ·rw [Nf e8,ct];by_cases e1:(p.Attrs.tdiv 1).tmod 2=1
  ·rw [Nf e1]
   exact ab fun h=>by cases h
  refine Sat.mono (R:=fun _=>True) ?_ fun _ _ _=>hm (.inr e1)
  refine Sat.bind (P:=fun _=>True) (by repeat' first|exact ab trivial|refine Sat.bind (P:=fun _=>True) ?_ (fun _ _=> ?_)|refine aP (fun _=> ?_) (fun _=> ?_)) fun _ _=>Sat.bind (P:=fun _=>True) (aP (fun _=>(Dp N _ _).bind fun _ _=>ab trivial) fun _=>ab trivial) fun _ _=>Sat.bind (P:=fun _=>True) (aP (fun _=>(Dp N _ _).bind fun _ _=>ab trivial) fun _=>ab trivial) fun _ _=>ab trivial
 refine Sat.mono (R:=fun _=>True) ?_ fun _ _ _=>hm (.inl e8)
 rw [Ng e8,cf]
 (repeat' first|exact ab trivial|refine Sat.bind (P:=fun _=>True) ?_ (fun _ _=> ?_)|refine aP (fun _=> ?_) (fun _=> ?_))
structure inP (p:MX):Prop where
 vn:qu p.Value
 gn:qu p.Get
 sn:qu p.Set
 ks:p.Key.S.size≤140737488355328
 vs:p.Value.S.size≤140737488355328
def goodP (N:Nat)(p:MX):Prop:=fV p.Attrs∧propV N p∧(p.Value.Kind≠7∧p.Value.Kind≠8∧p.Value.Kind≠9)
theorem Bx (N:Nat){k:Int}(h:k=0∨k=1∨k=4):pp N ⟨k,0,⟨#[]⟩⟩:=by
 unfold pp;rcases h with h|h|h<;>subst h<;>rw [xm N _ 0 (by decide)]<;>rfl
theorem wL (N:Nat)(hN:20000≤N)(x:ML)(hx: ∀p∈x.Props,inP p)(hl:x.Props.length≤30): ∀(m j:Nat) (n:Int),x.Props.length<m+j→j≤x.Props.length→0≤n→n≤70000→(∀p∈x.Props.take j,goodP N p)→Sat (fU N x m n (j:Int)) fun b=>b=true→ ∀p∈x.Props,goodP N p
 |0,j,n,h,h1,_,_,_=>by omega
 | m+1,j,n,h,h1,h2,h3,h4=>by
  rw [fU.eq_2]
  refine bh (fun hj=> ?_) fun hj=>ab fun _=>by rw [List.take_of_length_le O] at h4;exact h4
  have hj':j<x.Props.length:=by omega
  rw [jv hj',bs];have hin:=hx _ (List.getElem_mem hj')
  have htk:x.Props.take (j+1)=x.Props.take j++ [x.Props[j]]:=by rw [List.take_add_one,List.getElem?_eq_getElem hj'];rfl
  generalize x.Props[j]=p at hin htk;have hks:=hin.ks;have hvs:=hin.vs;refine aQ (by constructor<;>omega) (aQ (by constructor<;>omega) ?_)
  refine bB (P:=fun b=>b=false→n+((p.Key.S.size:Int)+(p.Value.S.size:Int))≤70000) (fun _=>ab fun h=>by cases h) (fun e=>(wM N O p.Key).bind fun y _=>ab fun _=>by have:=of_decide_eq_false e;omega) fun b15 h15=> ?_
  refine bB (P:=fun b=>b=false→n+((p.Key.S.size:Int)+(p.Value.S.size:Int))≤70000∧fV p.Attrs) (fun _=>ab fun h=>by cases h) (fun e=>(Ek N p).bind fun y hy=>ab fun h=>⟨h15 e,hy (by cases y<;>first|rfl|cases h)⟩) fun b17 h17=> ?_
  refine bB (P:=fun b=>b=false→b17=false) (fun _=>ab fun h=>by cases h) (fun e=>ab fun _=>e) fun b19 h19=> ?_
  refine bB (P:=fun b=>b=false→b17=false) (fun _=>ab fun h=>by cases h) (fun e=>ab fun _=>h19 e) fun b20 h20=> ?_
  refine bB (P:=fun b=>b=false→b17=false) (fun _=>ab fun h=>by cases h) (fun e=>ab fun _=>h20 e) fun b21 h21=> ?_
  refine bB (P:=fun b=>b=false→b17=false) (fun _=>ab fun h=>by cases h) (fun e=>Sat.bind (P:=fun _=>True) (by repeat' first|exact ab trivial|refine Sat.bind (P:=fun _=>True) ?_ (fun _ _=> ?_)|refine aP (fun _=> ?_) (fun _=> ?_)) fun _ _=>ab fun _=>h21 e) fun b22 h22=> ?_
  refine aP (fun _=>ab fun h=>by cases h) fun e=> ?_
  obtain ⟨q1,q2⟩:=h17 (h22 e)
  have hrec:(p.Value.Kind≠7∧p.Value.Kind≠8∧p.Value.Kind≠9)→pp N p.Value→Sat (kD N (fU N x m) (j:Int) x (n+((p.Key.S.size:Int)+(p.Value.S.size:Int)))) fun b=>b=true→ ∀p∈x.Props,goodP N p:=fun hkk hm=>by
   unfold kD;refine aQ (by constructor<;>omega) ?_
   refine wL N hN x hx hl m (j+1) _ O O O q1 fun z hz=> ?_
   rw [htk] at hz;rcases List.mem_append.1 hz with hz|hz
   ·exact h4 z hz
   rw [List.mem_singleton] at hz;subst hz;exact ⟨q2,⟨⟨hin.vn,hm⟩,hin.gn,hin.sn⟩,hkk⟩
  have h25: ∀b:Bool,(b=true→p.Value.Kind=0∨p.Value.Kind=1∨p.Value.Kind=4)→Sat (jH N (fU N x m) n p (j:Int) x b) fun b=>b=true→ ∀p∈x.Props,goodP N p:=fun b hb=>by
   unfold jH
   refine aP (fun eb=>eK (fun _=>ab fun h=>by cases h) fun ev=>hrec (by have:=hb eb;omega) ?_) fun _=>bh (fun h3k=> ?_) fun _=>bh (fun h5k=> ?_) fun _=>ab fun h=>by cases h
   ·have e3:=of_decide_eq_true ev;rw [e3];exact Bx N (hb eb)
   ·refine bB (P:=fun b=>b=false→p.Value.S.toList==(⟨#[]⟩:ByteArray).toList∧ -9007199254740992≤p.Value.N) (fun _=>ab fun h=>by cases h) (fun e=>ab fun h=>⟨by cases hh:(p.Value.S.toList==(⟨#[]⟩:ByteArray).toList)<;>first|rfl|(rw [hh] at e;cases e),by have:=of_decide_eq_false h;omega⟩) fun E6 h32=> ?_
    refine bB (P:=fun b=>b=false→(p.Value.S.toList==(⟨#[]⟩:ByteArray).toList∧ -9007199254740992≤p.Value.N)∧p.Value.N≤9007199254740992) (fun _=>ab fun h=>by cases h) (fun e=>ab fun h=>⟨h32 e,by have:=of_decide_eq_false h;omega⟩) fun b33 h33=> ?_
    refine aP (fun _=>ab fun h=>by cases h) fun e=>hrec O ?_
    obtain ⟨⟨g1,g2⟩,g3⟩:=h33 e;unfold pp iJ;rw [Ng (show¬p.Value.Kind=5 by omega),cf,g1,nt,cf,Ng (show¬p.Value.Kind=2 by omega),cf,Nf h3k,ct,Nf g2,ct,Nf g3];rfl
   refine bB (P:=fun b=>b=false→p.Value.N=0∧(p.Value.S.size:Int)≤65536) (fun _=>ab fun h=>by cases h) (fun e=>ab fun h=>⟨by rw [Bool.not_eq_false'] at e;exact of_decide_eq_true e,by have:=of_decide_eq_false h;omega⟩) fun b36 h36=> ?_
   refine aP (fun _=>ab fun h=>by cases h) fun e=>hrec O ?_
   obtain ⟨g1,g2⟩:=h36 e;unfold pp iJ;rw [Nf h5k,ct,Nf g1,ct,Nf g2];rfl
  exact bh (fun hk=>h25 _ fun _=> .inl hk) fun _=>bh (fun hk=>h25 _ fun _=> .inr (.inl hk)) fun _=>h25 _ fun hk=> .inr (.inr (of_decide_eq_true hk))
theorem Ct (N:Nat)(hN:20000≤N)(x:ML)(hx: ∀p∈x.Props,inP p):Sat (mT N x) fun b=>b=true→x.Props.length≤30∧ ∀p∈x.Props,goodP N p:=by
 unfold mT
 refine bh (fun _=>ab fun h=>by cases h) fun h=> ?_
 exact (wL N hN x hx O N 0 0 O O O O (by simp)).mono fun b hb hb2=>⟨by omega,hb hb2⟩
set_option maxRecDepth 20000
theorem FL: ∀a:_root_.Fin 16,ai .i64 (a.val:Int) 9≠9→(((a.val:Int).tdiv 8).tmod 2=1↔ai .i64 (a.val:Int) 8≠0)∧(ai .i64 (a.val:Int) 8=0→ai .i64 (a.val:Int) 7=(a.val:Int))∧(ai .i64 (a.val:Int) 8≠0→ai .i64 (a.val:Int) 6=(a.val:Int) - 8):=by decide+kernel
theorem Lx (N:Nat){p:MX}(hm:fV p.Attrs):tC N p=some (yq p):=by
 have h0:=hm.1;have h1:=hm.2.1;have:=FL ⟨p.Attrs.toNat,by omega⟩;simp only [Int.toNat_of_nonneg h0] at this;obtain ⟨f1,f2,f3⟩:=this hm.2.2;unfold tC yq;rw [AO N h0 h1 O,bs];by_cases h8:ai .i64 p.Attrs 8=0
 ·rw [Ng (fun e=>f1.1 e h8),cf,Nf h8,ct,f2 h8];rfl
 rw [Nf (f1.2 h8),ct,Ng h8,cf,f3 h8,iN (by constructor<;>omega)];rfl
theorem goodP.right {N:Nat}{p:MX}(h:goodP N p):rightP N p:=⟨h.2.1,h.1,h.2.2⟩
def idx16:List MM:=(List.range 16).map fun (j:Nat)=>nU (j:Int)
theorem EF {j:Nat}(h:j<16):nU (j:Int)∈idx16:=List.mem_map.2 ⟨j,List.mem_range.2 h,rfl⟩
theorem EG:idx16.length=16:=by
 unfold idx16;rw [List.length_map,List.length_range]
def BC (x:ML):List MM:=x.Props.map (·.Key)++idx16
section
variable {N:Nat} (hN:20000≤N)
theorem Stt.fresh {i k:Nat}{w:MT}{c:MY}{K:List MM}(h:InvC N i k w c [])(he:c.Kind=2→ ∀(j:Nat) x,c.More[j]? =some x→x≠eO→nU j∈K∧xr x.Kind):Stt N i k w c [] K:=by
 have hn:c.Slots.length=1:=h.obj.num
 have hno: ∀(n:Nat) x,c.Slots[n+1]? ≠some x:=fun n x e=>by
  have:=(List.getElem?_eq_some_iff.1 e).1;omega
 exact ⟨⟨h,⟨hn,fun n p hp=>(by cases hp),fun n m x _ h1=>absurd h1 (hno n x),fun n x h1=>absurd h1 (hno n x)⟩⟩,fun p hp=>(by cases hp),fun _ p hp=>(by cases hp),fun _ p hp=>(by cases hp),he⟩
include hN
def G7 (N:Nat)(r:MQ×Bool×MT):Prop:=r.2.1=true∧ ∃i c PL K,r.1.Kind=7∧r.1.N=2*(i:Nat)+1∧K.length<1024∧Stt N i 50000000 r.2.2 c PL K
theorem FV (x:ML)(hx:x.Props.length≤30)(hg: ∀p∈x.Props,goodP N p){v:MQ}{i:Nat}(hv:v.Kind=7)(hvN:v.N=2*i+1){k:Nat}(hk:k≤1000): ∀(m j:Nat) (w:MT) (c:MY) (PL:List MX),x.Props.length<m+j→j≤x.Props.length→Stt N i (k+1048576*j) w c PL (BC x)→Sat (nO N x v.Kind v.N v.S m (j:Int) w.spent_.steps_ w.spent_.made_ w.spent_.calls_ w.config_.Way w.config_.Steps w.config_.Calls w.config_.Made w.config_.Young w.config_.Full w.config_.Sites w.symbols_ w.epoch_ w.serial_ w.sleepers_ w.events_ w.out_ w.heap_.m_.Young w.heap_.m_.Old w.heap_.roots_ w.heap_.pending_ w.shapes_.shapes_ w.shapes_.next_ w.heap_.set_.at_) (G7 N)
 |0,j,w,c,PL,h0,h1,_=>by omega
 | m+1,j,w,c,PL,h0,h1,h=>by
  have hK:(BC x).length<1024:=by
   unfold BC;rw [List.length_append,List.length_map,EG];omega
  rw [nO.eq_2]
  refine bh (fun hj=> ?_) fun hj=> ?_
  ·have hj':j<x.Props.length:=by omega
   have hp:=hg _ (List.getElem_mem hj');rw [jv hj',bs,bs,Lx N hp.1,bs]
   refine (ED hN hv hvN h O x.Props[j].Key hp.right).bind fun r hr=> ?_
   obtain ⟨c',PL',g1, -⟩:=hr;refine aQ (by constructor<;>omega) (FV x hx hg hv hvN hk m (j+1) r.2.2 c' PL' O O (g1.more O fun y hy=> ?_));rcases List.mem_cons.1 hy with rfl|hy
   ·exact List.mem_append_left _ (List.mem_map_of_mem (List.getElem_mem hj'))
   exact hy
  unfold qT nP
  refine aP (fun _=> ?_) fun _=>ab ⟨J,i,c,PL,BC x,hv,hvN,hK,h.more O fun _ hy=>hy⟩
  obtain ⟨s1,s2⟩:=Fn hN hv hvN hK O h
  refine Sat.bind ⟨_,s1,J⟩ fun w' hw'=> ?_
  have e:qY w (w.heap_.m_.Young.set i (jU c))=w':=hw';subst e;exact ab ⟨J,i,jU c,PL,BC x,hv,hvN,hK,s2.more O fun _ hy=>hy⟩
theorem KG {w:MT}{k:Nat}(hk:k≤1000)(hm:Mem w k)(hti:TI N w.shapes_)(htb:w.shapes_.shapes_.length≤k)(hrow:Row w.shapes_ 0 [])(hmade:0≤w.spent_.made_∧w.spent_.made_<w.config_.Made∧w.config_.Made≤1000000){p:MQ}(hp:eS N w 2=some p)(hpk:p.Kind=7)(hpv:vH N p)(q:List MQ)(hq:q.length≤100)(hqv: ∀x∈q,vH N x):Sat (np N w q) fun r=>r.2.1=true∧r.1.Kind=7∧ ∃i:Nat,r.1.N=2*i+1∧InvC N i (k+1) r.2.2 ⟨2,0,1,0,[p],q⟩ []:=by
 have hrc:RC N ⟨2,0,1,0,[p],q⟩:=⟨.inr rfl,by show (0:Int)≤0;decide,⟨by show (0:Int)≤1;decide,by show (1:Int)≤63;decide⟩,.inl rfl,fun x hx=>by rw [List.mem_singleton.1 hx];exact hpv.2,fun x hx=>(hqv x hx).2,by show 1≤1025;decide,⟨p,rfl,.inr hpk⟩,by show q.length≤4096;omega,fun e=>by exact absurd e (by show¬(2:Int)=1;decide)⟩;have hgc:goodC ⟨2,0,1,0,[p],q⟩:=⟨by show 1≤5000;decide,by show q.length≤5000;omega,fun x hx=>by rw [List.mem_singleton.1 hx];exact hpv.1,fun x hx=>(hqv x hx).1⟩;have hlen:=hm.len;unfold np jr gJ;rw [hp,bs,Ng O,cf,show ce N w.heap_=some false from rfl,bs,cf,hrc.right hN,bs,nt,cf,t8 N hgc,bs];rw [iN (by unfold gQ;rw [List.length_singleton];omega),iN (by rw [List.length_append,List.length_singleton];constructor<;>omega),iN (by rw [List.length_append,List.length_singleton];constructor<;>omega),bs];show Sat (Option.bind (dq _ _) _) _;rw [iN (by constructor<;>omega),bs];refine ab ⟨J,J,w.heap_.m_.Young.length,?_,⟨⟨hm.old,fun x hx=> ?_,?_⟩,hti,by show w.shapes_.shapes_.length≤k+1;omega,?_,hrc,hrow,rfl,by simp,by show ai .i64 1 16=0;decide+kernel,fun _ x hx=>by cases hx⟩⟩
 ·show 2*((((w.heap_.m_.Young++ [_]).length:Nat)):Int) - 1=_;rw [List.length_append,List.length_singleton];omega
 ·rcases List.mem_append.1 hx with hx|hx
  ·exact hm.good x hx
  rw [List.mem_singleton] at hx;subst hx;exact hgc
 ·show (w.heap_.m_.Young++ [_]).length≤k+1;rw [List.length_append,List.length_singleton];omega
 show (w.heap_.m_.Young++ [_])[w.heap_.m_.Young.length]? =_;simp
theorem Lm (a:Int):0≤ai .i64 a 15∧ai .i64 a 15≤15:=by
 have:=hN
 have h:(BitVec.ofInt IntKind.i64.bits a&&&BitVec.ofInt IntKind.i64.bits 15).toNat≤15:=by
  rw [BitVec.toNat_and];exact Nat.and_le_right
 unfold ai;rw [IntWalk.i64_in _ ⟨by omega,by omega⟩];omega
theorem GY (a:Int):0≤ai .i64 a 65535∧ai .i64 a 65535≤65535:=by
 have:=hN
 have h:(BitVec.ofInt IntKind.i64.bits a&&&BitVec.ofInt IntKind.i64.bits 65535).toNat≤65535:=by
  rw [BitVec.toNat_and];exact Nat.and_le_right
 unfold ai;rw [IntWalk.i64_in _ ⟨by omega,by omega⟩];omega
theorem yX (x:ML)(hx:x.Props.length≤30)(hg: ∀p∈x.Props,goodP N p)(y:MQ×Bool×MT){k:Nat}(hk:k≤900)(hm:Mem y.2.2 k)(hti:TI N y.2.2.shapes_)(htb:y.2.2.shapes_.shapes_.length≤k)(hrow:Row y.2.2.shapes_ 0 [])(hmade:0≤y.2.2.spent_.made_∧y.2.2.spent_.made_<y.2.2.config_.Made∧y.2.2.config_.Made≤1000000){p:MQ}(hp:eS N y.2.2 2=some p)(hpk:p.Kind=7)(hpv:vH N p): ∀(m j:Nat) (q:List MQ),20<m+j→j≤15→q.length=j→(∀x∈q,vH N x∧xr x.Kind)→Sat (oR N y x m q (j:Int)) (G7 N)
 |0,j,q,h0,h1,_,_=>by omega
 | m+1,j,q,h0,h1,h2,h3=>by
  have h15:=Lm hN x.Elements;rw [oR.eq_2]
  refine bh (fun hj=> ?_) fun hj=> ?_
  ·unfold jI;rw [bs];refine aQ (by unfold gQ;rw [List.length_singleton];omega) (aQ (by constructor<;>omega) ?_)
   refine yX x hx hg y hk hm hti htb hrow hmade hp hpk hpv m (j+1) _ O O (by rw [List.length_append,List.length_singleton];omega) fun z hz=> ?_
   rcases List.mem_append.1 hz with hz|hz
   ·exact h3 z hz
   rw [List.mem_singleton] at hz;subst hz;exact ⟨⟨⟨by show _≤(j:Int);omega,by show (j:Int)≤_;omega⟩,wd N O O⟩,by show¬(3:Int)=7;decide,by show¬(3:Int)=9;decide⟩
  unfold qU
  refine (KG hN O hm hti htb hrow hmade hp hpk hpv q O fun z hz=>(h3 z hz).1).bind fun r hr=> ?_
  obtain ⟨r1,r2,i,r3,r4⟩:=hr;unfold mV;rw [r1,nt,cf];refine FV hN x hx hg r2 r3 (k:=k+1) O N 0 r.2.2 _ [] O O (Stt.fresh r4 fun _ j z hz _=>⟨Nj _ (EF ?_),(h3 z (List.mem_of_getElem? hz)).2⟩);have:=(List.getElem?_eq_some_iff.1 hz).1;have e:q.length=((⟨2,0,1,0,[p],q⟩:MY).More).length:=rfl;omega
structure Fresh (N:Nat) (w0 w1:MT) (v:MQ) (c:MY) (p:MQ):Prop where
 made:jJ N=some w0
 new:nQ N w0 ⟨1,0,⟨#[]⟩⟩ 1=some (v,true,w1)
 vk:v.Kind=7
 vn:v.N=2*(20:Nat)+1
 ck:c.Kind=1
 inv:InvC N 20 100 w1 c []
 row:Row w1.shapes_ 0 []
 bud:0≤w1.spent_.made_∧w1.spent_.made_<w1.config_.Made∧w1.config_.Made≤1000000
 prt:eS N w1 2=some p
 pk:p.Kind=7
 pv:vH N p
theorem FW {w0 w1:MT}{v:MQ}{c:MY}{p:MQ}(hf:Fresh N w0 w1 v c p)(x:ML)(hx:x.Props.length≤30)(hg: ∀p∈x.Props,goodP N p):Sat (rS N w0 x) (G7 N):=by
 unfold rS;rw [hf.new,bs]
 refine aP (fun _=> ?_) fun _=> ?_
 ·exact yX hN x hx hg (v,true,w1) (k:=100) O hf.inv.mem hf.inv.ti hf.inv.tb hf.row hf.bud hf.prt hf.pk hf.pv N 0 [] O O J (by simp)
 unfold mV;show Sat (bif !true then _ else _) _;rw [nt,cf];exact FV hN x hx hg hf.vk hf.vn (k:=100) O N 0 w1 c [] O O (Stt.fresh hf.inv fun e=>absurd (hf.ck.symm.trans e) (by decide))
end
end
section
open Go.RowKit
set_option maxRecDepth 20000
theorem Hj {N:Nat}(hN:20000≤N){w0 w1:MT}{v:MQ}{c:MY}{p:MQ}(hf:Fresh N w0 w1 v c p)(hlv:mU N=some true)(x:ML)(hx: ∀p∈x.Props,inP p)(key:MM)(n:Int):iv N x key n=some true:=by
 refine Sat.eq ?_;unfold iv;rw [hf.made,bs];show Sat (Option.bind (mT N x) _) _
 refine (Ct N hN x hx).bind fun b hb=> ?_
 refine bB (P:=fun b'=>b'=false→b=true) (fun _=>ab fun h=>by cases h) (fun e=>ab fun _=>by cases b<;>first|rfl|cases e) fun b20 h20=> ?_
 refine bB (P:=fun b'=>b'=false→b20=false) (fun _=>ab fun h=>by cases h) (fun e=>(wM N O key).bind fun _ _=>ab fun _=>e) fun b21 h21=>aP (fun _=> ?_) fun e=> ?_
 ·rw [hlv,bs];exact ab J
 obtain ⟨h1,h2⟩:=hb (h20 (h21 e))
 refine (FW hN hf x h1 h2).bind fun r hr=> ?_
 obtain ⟨r1,i,c,PL,K,hv,hvN,hK,hS⟩:=hr;rw [r1,nt,cf]
 refine (BI hN hv hvN hK (k:=50000000) O hS).bind fun q hq=> ?_
 obtain ⟨q1,c1,PL1,hS1, -,hx1,hd1, -⟩:=hq;rw [q1,nt,cf];obtain ⟨o,ho,hoo⟩:=By hN hv hvN hK (k:=80000000) O hS1 key;obtain ⟨d,hdel,hd2,hd3⟩:=JZ hN hv hvN hK (k:=80000000) O hS1 hd1 key;obtain ⟨a0,a1⟩:=GY hN n;obtain ⟨t,ht,ht1,c2,hS2,k2,m2,f2⟩:=EC hN hv hvN hK (k:=80000000) O hS1 hd1 hx1 key a0 a1;obtain ⟨f,hfr,g1,c3,PL3,hS3,k3, -,hd3',s3⟩:=BI hN hv hvN hK (k:=80000000+1048576) O hS2;have hd12:Done true c2 PL1:=hd1.move k2 m2 (by rw [f2]);obtain ⟨m3,e3,f3⟩:=s3 hd12 (by rw [f2];exact hx1);subst e3;have hd13:Done true c3 PL3:=hd12.move k3 m3 (by rw [f3]);obtain ⟨u,hu,u1,c4,PL4,hS4,k4, -, -,s4⟩:=JF hN hv hvN hK (k:=80000000+1048576+30000000) O hS3;obtain ⟨m4,e4,f4⟩:=s4 hd13 (by rw [f3,f2];exact hx1);subst e4;have hd14:Done true c4 PL4:=hd13.move k4 m4 (by rw [f4]);obtain ⟨z1,z2⟩:=F4 hN hv hvN hK (k:=80000000+1048576+30000000+30000000) O hS4 hd14 (by rw [f4,f3,f2];exact hx1);obtain ⟨ps,p1,p2,p3⟩:=JH hN hv hvN hK (k:=80000000) O hS1 (k':=80000000+1048576+30000000+30000000) O hS4 (k4.trans (k3.trans k2)) (m4.trans (m3.trans m2)) (f4.trans (f3.trans f2));rw [p1,bs,ho,bs,hdel,bs,hd3 o ho,show ((!o.2)==o.2)=false by cases o.2<;>rfl,cf];unfold jI;rw [bs,hd2];show Sat (Option.bind (cB N q.2 r.1 key (d1 (ai .i64 n 65535))) _) _;rw [ht,bs]
 have hb78: ∀m:Option Bool,m=some (!decide (o.1.Value=zS (ai .i64 n 65535)))→((bif t.1 then ((bif !o.2 then (some true) else m).bind fun b79=>some b79) else (some false)):Option Bool)=some false:=fun m hm=>by
  cases e:t.1
  ·rfl
  obtain ⟨p,hp1,hp2⟩:=ht1 e;have:=zV hN hv hvN hS1 O hp1;rw [ho] at this;have ho2:=Option.some.inj this;rw [ct,hm,ho2,nt,cf,Nf hp2];rfl
 refine Sat.bind ⟨_,hb78 ((some (zS (ai .i64 n 65535))).bind fun y80=>some (!decide (o.1.Value=y80))) J,J⟩ fun b78 hb=> ?_
 rw [←hb,cf,hfr,bs,g1,ct,hu,bs,u1,ct,z1,bs,bs,ct,z2,bs,bs,ct,p2,bs,Fq N ps ps O O,bs,bs,Nf rfl,ct,hlv,bs,bs];exact ab J
set_option maxRecDepth 20000
theorem FT:mU 20000=some true:=by kernel_rfl
def KY:MT:=match jJ 20000 with
 |some w=>w
 |_=>default
def w35b:MT:=match nQ 20000 KY ⟨1,0,⟨#[]⟩⟩ 1 with
 |some (_,_,w)=>w
 |_=>default
def CI (c:MY):Bool:=Nat.ble c.Slots.length 5000&&Nat.ble c.More.length 5000&&c.Slots.all (fun x=>decide (-9223372036854775808≤x.N)&&decide (x.N≤9223372036854775807))&&c.More.all (fun x=>decide (-9223372036854775808≤x.N)&&decide (x.N≤9223372036854775807))
theorem EP {c:MY}(h:CI c=true):goodC c:=by
 unfold CI at h;simp only [Bool.and_eq_true,List.all_eq_true,decide_eq_true_eq] at h;exact ⟨Nat.le_of_ble_eq_true h.1.1.1,Nat.le_of_ble_eq_true h.1.1.2,h.1.2,h.2⟩
theorem He:(w35b.heap_.m_.Young.all CI)=true:=by kernel_rfl
theorem Hd:w35b.heap_.m_.Young.length=21:=by kernel_rfl
theorem C5:w35b.shapes_=⟨[⟨-1,⟨0,0,⟨#[]⟩⟩,0,0⟩],[]⟩:=by kernel_rfl
theorem Md (N:Nat):TI N ⟨[⟨-1,⟨0,0,⟨#[]⟩⟩,0,0⟩],[]⟩:=by
 refine ⟨fun i s h=> ?_,fun k j h=>by cases h⟩;have hlt:=h.lt
 have:i=0:=by
  have h1:i<((1:Nat):Int):=hlt.2;have:=hlt.1;omega
 subst this;have:s=⟨-1,⟨0,0,⟨#[]⟩⟩,0,0⟩:=(Option.some.inj h.2).symm;subst this;exact ⟨by decide,by decide,fun h=>by exact absurd h (by decide)⟩
theorem HJ:Fresh 20000 KY w35b ⟨7,41,⟨#[]⟩⟩ ⟨1,0,1,0,[⟨1,0,⟨#[]⟩⟩],[]⟩ ⟨7,5,⟨#[]⟩⟩ where
 made:=by kernel_rfl
 new:=by kernel_rfl
 vk:=rfl
 vn:=rfl
 ck:=rfl
 inv:=by
  have hrow:Row w35b.shapes_ 0 []:=by rw [C5];exact .nil (s:=⟨-1,⟨0,0,⟨#[]⟩⟩,0,0⟩) ⟨by decide,rfl⟩ J
  refine ⟨⟨by kernel_rfl,fun x hx=>EP (List.all_eq_true.1 He x hx),by rw [Hd];decide⟩,by rw [C5];exact Md _,by rw [C5];decide,by kernel_rfl,?_⟩;refine ⟨⟨.inl J,by decide,⟨by decide,by decide⟩,.inl rfl,fun x hx=> ?_,(fun x hx=>by cases hx),by show 1≤1025;decide,⟨_,rfl,.inl rfl⟩,by show 0≤4096;decide,fun _=>rfl⟩,hrow,J,by simp,by show ai .i64 1 16=0;decide+kernel,fun e=>by exact absurd e (by show¬(1:Int)=2;decide)⟩;rw [List.mem_singleton.1 hx];exact Bx 20000 (.inr (.inl J))
 row:=by rw [C5];exact .nil (s:=⟨-1,⟨0,0,⟨#[]⟩⟩,0,0⟩) ⟨by decide,rfl⟩ J
 bud:=by
  have h1:w35b.spent_.made_=1:=by kernel_rfl
  have h2:w35b.config_.Made=1000:=by kernel_rfl
  rw [h1,h2];decide
 prt:=by kernel_rfl
 pk:=rfl
 pv:=⟨⟨by decide,by decide⟩,by unfold pp;kernel_rfl⟩
theorem Bc (x:ML)(hx: ∀p∈x.Props,inP p)(key:MM)(n:Int):iv 20000 x key n=some true:=Hj (by decide) HJ FT x hx key n
theorem J2 {p:MX}(h:wB p):inP p:=by
 have hr:reachBytes≤140737488355328:=by decide
 obtain ⟨⟨-, -,h1⟩, -,⟨-,h2,h3⟩,⟨-,h4, -⟩,⟨-,h5, -⟩⟩:=h;exact ⟨h2,h4,h5,Nat.le_trans h1 hr,Nat.le_trans h3 hr⟩
theorem HG {x:ML}(h:uw x): ∀p∈x.Props,inP p:=fun p hp=>J2 (h.2.2.1.2 p hp)
open Go.ChangeShapes Go.WideShapes Go.ChangeAt Go.RowKit Go.Deep
theorem gHole:Tryz.prog.globalNamed "pantomime/array.hole" =some 0:=by kernel_rfl
theorem tHole:(Tryz.prog.globals[0]?).map (·.type)=some 30:=by kernel_rfl
set_option maxRecDepth 100000 in
theorem EH {W:World}(h:laidMetH Tryz.prog [("pantomime/array.hole",Rows.laid_pantomime_array_hole)] W):(aT 0 30 [.int .i64 8,.int .i64 0,.string ⟨#[]⟩]).ok (fun _=>False) (fun q=>q<W.heap.size) W:=by
 rw [MakeChecks.laidMetH_plain _ _ _ V] at h;obtain ⟨ps,⟨g0,t0,cs0,f0,p0,q0,hg0,ht0,hv0,hd0, -⟩, -, -⟩:=h;obtain rfl:=Option.some.inj (gHole.symm.trans hg0);obtain rfl:=Option.some.inj (tHole.symm.trans ht0);obtain ⟨xs,m,rfl,hx,hl,hn,hf⟩:=DataW.trod_struct MH hd0
 have hc:Tryz.prog.cellsOf 30=3:=by kernel_rfl
 have z3:Tryz.prog.cellsOf 3=1:=by kernel_rfl
 have z9:Tryz.prog.cellsOf 9=1:=by kernel_rfl
 rw [hc] at hl;obtain ⟨l⟩:=cs0;have hn':xs.length=3:=hn
 match l,xs,hl,hn',hf,hv0,hx with
 | [c0,c1,c2],[x0,x1,x2],_,_,hf,hv0,hx=>
  have k0:DataW.trod (fun _=>()) Tryz.prog W 0 (fun _=>true) false m 3 (List.take (Tryz.prog.cellsOf 3) (List.drop 0 [c0,c1,c2]))=[x0,x1,x2][0]? :=hf 0 _ rfl;have k1:DataW.trod (fun _=>()) Tryz.prog W 0 (fun _=>true) false m 3 (List.take (Tryz.prog.cellsOf 3) (List.drop 1 [c0,c1,c2]))=[x0,x1,x2][1]? :=hf 1 _ rfl;have k2:DataW.trod (fun _=>()) Tryz.prog W 0 (fun _=>true) false m 9 (List.take (Tryz.prog.cellsOf 9) (List.drop 2 [c0,c1,c2]))=[x0,x1,x2][2]? :=hf 2 _ rfl;simp only [z3,z9,List.drop_succ_cons,List.drop_zero,List.take_succ_cons,List.take_zero,List.getElem?_cons_zero,List.getElem?_cons_succ] at k0 k1 k2;obtain ⟨n0,e0,d0, -⟩:=DataW.trod_int hJ k0;obtain ⟨n1,e1,d1, -⟩:=DataW.trod_int hJ k1;obtain ⟨s2,e2,d2, -⟩:=DataW.trod_string hH k2
  have hx':[(DataW.lit (.int .i64 8):DataW Unit),.lit (.int .i64 0),.lit (.string [])]=[x0.1,x1.1,x2.1]:=by
   have:=congrArg Prod.fst hx;exact DataW.agg.inj this
  rw [d0,d1,d2] at hx';simp only [List.cons.injEq,DataW.lit.injEq,Lit.int.injEq,Lit.string.injEq,and_true,true_and] at hx';obtain ⟨rfl,rfl,hs⟩:=hx';obtain rfl:=(List.cons.inj e0).1;obtain rfl:=(List.cons.inj e1).1;obtain rfl:=(List.cons.inj e2).1
  have hs2:s2=⟨#[]⟩:=by
   obtain ⟨⟨a⟩⟩:=s2;simp only at hs;rw [←hs]
  subst hs2;simp only [World.var?,gHole,Option.bind_some] at hv0;split at hv0
  ·rename_i cs t p hh
   obtain rfl:=am hv0;have hr:RBlk W 0 #[.int .i64 8,.int .i64 0,.string ⟨#[]⟩]:=⟨t,p,hh⟩;exact ⟨hr.lt,hr⟩
  cases hv0
end
end Go.Proofs.YtanojiedimeegaaGreatDoor