/- Merged texts: part 12. No conditions of their own. -/
import Derived.Test.YtanojiedimeegaaGreatDoorG11
import Derived.KernelRfl
import Derived.Test.YtanojiedimeegaaGreatDoorG1
import Derived.Test.YtanojiedimeegaaGreatDoorG2
import Derived.Test.YtanojiedimeegaaGreatDoorRows
import Derived.ProofKit
import Derived.LaidMore
import Derived.OpenShut
import Derived.Stop.Joined
namespace Go.Proofs.YtanojiedimeegaaGreatDoor
section
open Go.RowKit
theorem Ik {f:Int}(h:0≤f∧f≤63)(h2:aL .i64 f 16=0):(0≤cn .i64 f 32∧cn .i64 f 32≤63)∧aL .i64 (cn .i64 f 32) 16=0:=by
 have:=DI ⟨f.toNat,by omega⟩;simp only [Int.toNat_of_nonneg h.1] at this;exact this h2
section
variable {N:Nat} (hN:20000≤N) {v:JS} {i:Nat} (hv:v.Kind=7) (hvN:v.N=2*i+1)
include hN hv hvN
section
variable (n stop:Int) (y:List JQ) (l0:List (JW×Int)) (hy:y.map (fun x=>(x.Key,x.Attrs))=l0) (hnd:(l0.map (·.1)).Nodup) (hl0:l0.length≤1024) (p26:List JS) (y16:JU×Bool) (h26:p26.length≤4096) (h26v: ∀x∈p26,sW N x) (hs0:0≤stop) (hs1:stop.toNat≤p26.length) (hloose: ∀x∈l0,x.1.Kind=0→stop≤x.1.N→aL .i64 x.2 4≠0) {k:Nat} (hk:k+2000000≤1000000000)
include hy hnd hl0 h26 h26v hs0 hs1 hloose hk
theorem xP: ∀(m j:Nat) (w:JL) (c:JU) (l:List (JW×Int)),y.length<m+j→j≤y.length→InvC N i (k+1024*j) w c l→c.Kind=2→(∀x∈l,x∈l0)→(∀x∈l,x.1.Kind=0→stop≤x.1.N→x∈l0.drop j)→Sat (fU N n stop y v y16 p26 m (j:Int) w.spent_.steps_ w.spent_.made_ w.spent_.calls_ w.config_.Way w.config_.Steps w.config_.Calls w.config_.Made w.config_.Young w.config_.Full w.config_.Sites w.symbols_ w.epoch_ w.serial_ w.sleepers_ w.events_ w.out_ w.heap_.m_.Young w.heap_.m_.Old w.heap_.roots_ w.heap_.pending_ w.shapes_.shapes_ w.shapes_.next_ w.heap_.set_.at_) fun r=> ∃c' l',InvC N i (k+1048576) r.2 c' l'∧c'.Kind=2
 |0,j,w,c,l,h0,h1,_,_,_,_=>by have:=hnd;omega
 | m +1,j,w,c,l,h0,h1,h,hc2,hsub,hbad=>by
  have hyl:y.length=l0.length:=by rw [←hy,List.length_map]
  rw [fU.eq_2]
  refine bf (fun h3=> ?_) fun h3=> ?_
  ·have hj:j<y.length:=by omega
   have hj0:j<l0.length:=by omega
   have hxe:l0[j]=(y[j].Key,y[j].Attrs):=by
    have:(y.map (fun x=>(x.Key,x.Attrs)))[j]'(by rw [List.length_map];exact hj)=(y[j].Key,y[j].Attrs):=List.getElem_map ..;rw [←this];congr 1;exact hy.symm
   have hdrop:l0.drop j=l0[j]::l0.drop (j+1):=List.drop_eq_getElem_cons hj0;rw [jc hj,bs]
   refine bu (P:=fun b=>(b=true→y[j].Key.Kind=0∧stop≤y[j].Key.N)∧(b=false→ ¬(y[j].Key.Kind=0∧stop≤y[j].Key.N))) (fun e=>ab ⟨fun h=>⟨of_decide_eq_true e,of_decide_eq_true h⟩,fun h h2=>of_decide_eq_false h h2.2⟩) (fun e=>ab ⟨fun h=>(Bool.noConfusion h),fun _ h2=>of_decide_eq_false e h2.1⟩) fun b hb=>aT (fun e=> ?_) fun e=> ?_
   ·obtain ⟨hb1,hb2⟩:=hb.1 e
    refine (Ba hN hv hvN h O y[j].Key).bind fun r hr=> ?_
    obtain ⟨c',l',g1,g2,g3,g4⟩:=hr;unfold gF;refine aP (by constructor<;>omega) ?_;have hl0m:l0[j]∈l0:=List.getElem_mem _;refine xP m (j+1) r.2 c' l' O O (by rw [Nat.mul_add, ←Nat.add_assoc];exact g1) (g2.trans hc2) ?_ ?_
    ·rcases g4 with ⟨rfl, -⟩|⟨q,a, -,rfl⟩
     ·exact hsub
     exact fun x hx=>hsub x (List.mem_of_mem_eraseIdx hx)
    intro x hx hx0 hxs
    have hxl:x∈l:=by
     rcases g4 with ⟨rfl, -⟩|⟨q,a, -,rfl⟩
     ·exact hx
     exact List.mem_of_mem_eraseIdx hx
    have hne:x.1≠y[j].Key:=by
     rcases g4 with ⟨rfl,g5|⟨a,g5,g6⟩⟩|⟨q,a,g5,rfl⟩
     ·exact g5 x hx
     ·exfalso;exact hloose _ (hsub _ g5) hb1 hb2 g6
     intro e2;have hnl:=h.obj.nd;have:x.1∈(l.eraseIdx q).map (·.1):=List.mem_map_of_mem hx
     have e3:(l.eraseIdx q).map (·.1)=(l.map (·.1)).eraseIdx q:=by
      rw [List.eraseIdx_eq_take_drop_succ,List.map_append,List.map_take,List.map_drop, ←List.eraseIdx_eq_take_drop_succ]
     rw [e3] at this;have:=(pB hnl (show (l.map (·.1))[q]? =some y[j].Key by rw [List.getElem?_map,g5];rfl) x.1).1 this;exact this.2 e2
    have:=hbad x hxl hx0 hxs;rw [hdrop] at this;rcases List.mem_cons.1 this with e2|this
    ·exact absurd (by rw [e2,hxe]) hne
    exact this
   have hnb:=hb.2 e;unfold gF;refine aP (by constructor<;>omega) ?_
   refine xP m (j+1) w c l O O (h.more O) hc2 hsub fun x hxl hx0 hxs=> ?_
   have:=hbad x hxl hx0 hxs;rw [hdrop] at this;rcases List.mem_cons.1 this with e2|this
   ·rw [hxe] at e2;rw [e2] at hx0 hxs;exact absurd ⟨hx0,hxs⟩ hnb
   exact this
  unfold lQ;show Sat (Option.bind (dw N w v) _) _;rw [pK hN hv hvN O h,bs];refine aP ⟨hs0,hs1⟩ ?_
  obtain ⟨w',g1,g2⟩:=Af hN hv hvN h O hc2 (p26.take stop.toNat) (by rw [List.length_take];omega) (fun x hx=>h26v x (List.mem_of_mem_take hx)) (fun x hx hx0=>by
   rw [List.length_take,Nat.min_eq_left hs1];apply Int.lt_of_not_ge;intro hge;have:=hbad x hx hx0 O;rw [List.drop_of_length_le O] at this
   cases this) c.Flags ⟨h.obj.rc.fl,h.obj.noP⟩
  show Sat (Option.bind (bz N w v ⟨c.Kind,c.Shape,c.Flags,c.Age,c.Slots,p26.take stop.toNat⟩) _) _;rw [g1,bs];exact ab ⟨_,_,g2.more O,hc2⟩
end
variable {k:Nat} {w:JL} {c:JU} {l:List (JW×Int)} (h:InvC N i k w c l)
include h
theorem xQ (hk:k+2000000≤1000000000)(hc2:c.Kind=2)(n:Int)(y:List JQ)(hy:y.map (fun x=>(x.Key,x.Attrs))=l)(y16:JU×Bool)(p26:List JS)(h26:p26.length≤4096)(h26v: ∀x∈p26,sW N x)(hmp:c.More.length≤p26.length): ∀(m j:Nat) (stop:Int),y.length<m+j→j≤y.length→0≤stop→stop≤p26.length→(∀x∈l.take j,x.1.Kind=0→aL .i64 x.2 4=0→x.1.N<stop)→Sat (fV N n y w v y16 p26 m stop (j:Int)) fun r=> ∃c' l',InvC N i (k+1048576) r.2 c' l'∧c'.Kind=2
 |0,j,stop,h0,h1,_,_,_=>by omega
 | m +1,j,stop,h0,h1,h2,h3,h4=>by
  have hyl:y.length=l.length:=by rw [←hy,List.length_map]
  have hle:=h.obj.row.le h.ti;rw [fV.eq_2]
  refine bf (fun h5=> ?_) fun h5=> ?_
  ·have hj:j<y.length:=by omega
   have hj0:j<l.length:=by omega
   have hx:l[j]=(y[j].Key,y[j].Attrs):=by
    have:(y.map (fun x=>(x.Key,x.Attrs)))[j]'(by rw [List.length_map];exact hj)=(y[j].Key,y[j].Attrs):=List.getElem_map ..;rw [←this];congr 1;exact hy.symm
   have hmem:(y[j].Key,y[j].Attrs)∈l:=by rw [←hx];exact List.getElem_mem _
   have htk:l.take (j+1)=l.take j++ [(y[j].Key,y[j].Attrs)]:=by rw [List.take_add_one,List.getElem?_eq_getElem hj0,hx];rfl
   rw [jc hj,bs]
   refine bu (P:=fun b=>(b=true→y[j].Key.Kind=0)∧(b=false→ ¬(y[j].Key.Kind=0∧aL .i64 y[j].Attrs 4=0))) (fun e=>ab ⟨fun _=>of_decide_eq_true e,fun h h2=>of_decide_eq_false h h2.2⟩) (fun e=>ab ⟨fun h=>(Bool.noConfusion h),fun _ h2=>of_decide_eq_false e h2.1⟩) fun b hb=>aT (fun e=> ?_) fun e=> ?_
   ·have hb1:=hb.1 e;have h6:=h.obj.idx hc2 _ hmem hb1;have h7:=(h.obj.row.ok h.ti _ hmem).1.b O hb1;simp only at h6 h7;unfold ii;refine aP (by constructor<;>omega) (aP (by constructor<;>omega) ?_)
    refine xQ hk hc2 n y hy y16 p26 h26 h26v hmp m (j+1) _ O O O O fun x hx0=> ?_
    rw [htk] at hx0;rcases List.mem_append.1 hx0 with hx0|hx0
    ·intro g1 g2;have:=h4 x hx0 g1 g2;omega
    rw [List.mem_singleton] at hx0;subst hx0;intro _ _;show y[j].Key.N<_;omega
   have hnb:=hb.2 e;unfold ii;refine aP (by constructor<;>omega) ?_
   refine xQ hk hc2 n y hy y16 p26 h26 h26v hmp m (j+1) _ O O h2 h3 fun x hx0=> ?_
   rw [htk] at hx0;rcases List.mem_append.1 hx0 with hx0|hx0
   ·exact h4 x hx0
   rw [List.mem_singleton] at hx0;subst hx0;intro g1 g2;exact absurd ⟨g1,g2⟩ hnb
  unfold lR
  refine (tg hN hv hvN O h).bind fun z hz=> ?_
  rw [List.take_of_length_le O] at h4
  have hzl:z.length=l.length:=by rw [←hz,List.length_map]
  exact xP hN hv hvN n stop z l hz h.obj.nd hle p26 y16 h26 h26v h2 O (fun x hx g1 g2 g3=>by have:=h4 x hx g1 g3;omega) hk N 0 w c l O O (h.more O) hc2 (fun _ hx=>hx) fun x hx _ _=>hx
theorem Bd (hk:k+2000000≤1000000000)(hc2:c.Kind=2)(n:Int)(hn0:0≤n)(hn:n≤4096)(y16:JU×Bool): ∀(m:Nat) (p:List JS),4097<m+p.length→p.length≤4096→c.More.length≤p.length→(∀x∈p,sW N x)→Sat (jT N n w v y16 m p) fun r=> ∃c' l',InvC N i (k+1048576) r.2 c' l'∧c'.Kind=2
 |0,p,h0,h1,_,_=>by omega
 | m+1,p,h0,h1,h2,h3=>by
  rw [jT.eq_2]
  refine bf (fun h4=>aP (by unfold fA;rw [List.length_singleton];omega) ?_) fun h4=> ?_
  ·refine Bd hk hc2 n hn0 hn y16 m _ (by rw [List.length_append,List.length_singleton];omega) (by rw [List.length_append,List.length_singleton];omega) (by rw [List.length_append,List.length_singleton];omega) fun x hx=> ?_
   rcases List.mem_append.1 hx with hx|hx
   ·exact h3 x hx
   rw [List.mem_singleton] at hx;subst hx;exact ut N
  unfold lS;have hle:=h.obj.row.le h.ti
  refine (tg hN hv hvN O h).bind fun z hz=> ?_
  have hzl:z.length=l.length:=by rw [←hz,List.length_map]
  exact xQ hN hv hvN h hk hc2 n z hz y16 p h1 h3 h2 N 0 n O O hn0 O (by simp)
theorem GW (hk:k+2000000≤1000000000)(n:Int):Sat (lw N w v n) fun r=>After N i (k+1048576) c r.2:=by
 have hst:After N i (k+1048576) c w:=⟨c,l,h.more O,rfl⟩;have hmo:=h.obj.rc.more;unfold lw;rw [pK hN hv hvN O h,bs]
 refine bu (P:=fun b=>b=false→c.Kind=2∧0≤n) (fun _=>ab fun h=>(Bool.noConfusion h)) (fun e=>ab fun h=> ?_) fun b20 h20=> ?_
 ·have:=of_decide_eq_false h;refine ⟨?_,by omega⟩;have e2:(!decide (c.Kind=2))=false:=e;rw [Bool.not_eq_false'] at e2;exact of_decide_eq_true e2
 refine bu (P:=fun b=>b=false→c.Kind=2∧0≤n∧n≤4096) (fun _=>ab fun h=>(Bool.noConfusion h)) (fun e=>ab fun h=> ?_) fun b21 h21=> ?_
 ·have:=of_decide_eq_false h;exact ⟨(h20 e).1,(h20 e).2,by omega⟩
 refine bu (P:=fun b=>b=false→c.Kind=2∧0≤n∧n≤4096) (fun _=>ab fun h=>(Bool.noConfusion h)) (fun e=>bu (P:=fun _=>True) (fun _=>ab trivial) (fun _=>ab trivial) fun _ _=>ab fun _=>h21 e) fun b22 h22=> ?_
 refine aT (fun _=>ab hst) fun e=> ?_
 obtain ⟨h5,h6,h7⟩:=h22 e
 refine (Bd hN hv hvN h hk h5 n h6 h7 _ N c.More O hmo (Nat.le_refl _) (Ai hN hv hvN h)).mono fun r hr=> ?_
 obtain ⟨c',l',g1,g2⟩:=hr;exact ⟨c',l',g1,by omega⟩
theorem GK (hk:k≤1000000000)(hc2:c.Kind=2): ∃w',bz N w v ⟨c.Kind,c.Shape,cn .i64 c.Flags 32,c.Age,c.Slots,c.More⟩=some w'∧After N i k c w':=by
 obtain ⟨w',h1,h2⟩:=Af hN hv hvN h hk hc2 c.More h.obj.rc.more (Ai hN hv hvN h) (h.obj.idx hc2) _ (Ik h.obj.rc.fl h.obj.noP);exact ⟨w',h1,_,_,h2,J⟩
theorem Gr (hk:k+2000000≤1000000000)(hc2:c.Kind=2){d:JM}(hd:descV N d)(K:Nat)(hK1:4096≤K)(hK2:aL .i64 d.Has 1≠0→1048576≤K):Sat (jo N w v c d) fun r=>After N i (k+K) c r.2.2:=by
 have hst:After N i (k+K) c w:=⟨c,l,h.more O,rfl⟩;unfold jo
 refine bu (P:=fun _=>True) (fun _=>by (repeat' first|exact ab trivial|refine Sat.bind (P:=fun _=>True) ?_ (fun _ _=> ?_)|refine aT (fun _=> ?_) (fun _=> ?_))) (fun _=>ab trivial) fun b _=>aT (fun _=>ab hst) fun _=> ?_
 refine (Ca N c h.obj.rc.more).bind fun y hy=> ?_
 show Sat (Option.bind (some _) _) _;rw [bs]
 refine (qE N hy.1 true true _ hd).bind fun p hp=>ew (fun _=>ab hst) fun _=> ?_
 refine ew (fun _=>bf (fun _=> ?_) fun _=>ab hst) fun _=> ?_
 ·rw [pK hN hv hvN O h,bs];obtain ⟨w',h1,h2⟩:=GK hN hv hvN h O hc2;show Sat (Option.bind (bz N w v ⟨c.Kind,c.Shape,cn .i64 c.Flags 32,c.Age,c.Slots,c.More⟩) _) _;rw [h1,bs];exact ab (h2.more O)
 rename_i e
 have hK:=hK2 (fun e2=>by rw [JZ e2] at e;exact Bool.noConfusion e)
 refine (GW hN hv hvN h hk d.Value.N).bind fun r hr=>bf (fun _=> ?_) fun _=>ab (hr.more O)
 obtain ⟨c',l',g1,g2⟩:=hr;rw [pK hN hv hvN O g1,bs];obtain ⟨w',h1,h2⟩:=GK hN hv hvN g1 O (g2.trans hc2);show Sat (Option.bind (bz N r.2 v ⟨c'.Kind,c'.Shape,cn .i64 c'.Flags 32,c'.Age,c'.Slots,c'.More⟩) _) _;rw [h1,bs];obtain ⟨c2,l2,q1,q2⟩:=h2;exact ab ⟨c2,l2,q1.more O,q2.trans g2⟩
theorem Gs (hk:k+2000000≤1000000000)(key:JW){d:JM}(hd:descV N d)(K:Nat)(hK1:4096≤K)(hK2:aL .i64 d.Has 1≠0→1048576≤K):Sat (ly N w v key d) fun r=>After N i (k+K) c r.2.2:=by
 have hst:After N i (k+K) c w:=⟨c,l,h.more O,rfl⟩;unfold ly;rw [pK hN hv hvN O h,bs]
 refine bu (P:=fun b=>b=false→c.Kind=2∧DB key) (fun _=>ab fun h=>(Bool.noConfusion h)) (fun e=>(lL N O key).bind fun y hy=>ab fun h=> ?_) fun b hb=> ?_
 ·have e2:(!decide (c.Kind=2))=false:=e;rw [Bool.not_eq_false'] at e2 h;exact ⟨of_decide_eq_true e2,hy h⟩
 refine bu (P:=fun b=>b=false→c.Kind=2∧DB key) (fun _=>ab fun h=>(Bool.noConfusion h)) (fun e=>(CO N d).bind fun _ _=>ab fun _=>hb e) fun b2 hb2=>aT (fun _=>ab hst) fun e=> ?_
 obtain ⟨h5,h6⟩:=hb2 e;show Sat (Option.bind (some _) _) _;rw [bs]
 refine bf (fun _=>(Gr hN hv hvN h hk h5 hd K hK1 hK2).bind fun r hr=>ab hr) fun _=>bf (fun h7=> ?_) fun h7=> ?_
 ·exact (Jf hN hv hvN h O h5 key (h6 h7).1 hd).bind fun r hr=>ab (hr.more O)
 exact (xM hN hv hvN h O key hd (fun _ g=>absurd g h7)).bind fun r hr=>ab (hr.a O)
theorem yL (hk:k≤1000000000)(key:JW){d:JM}(hd:descV N d):Sat (jB N w v key d) fun _=>True:=by
 unfold jB
 refine (Hb hN hv hvN hk h key).bind fun y hy=> ?_
 rw [Du hN hv hvN hk h,bs]
 refine (qE N hy.1 _ _ key hd).bind fun p hp=>Sat.bind (P:=fun _=>True) (by repeat' first|exact ab trivial|refine Sat.bind (P:=fun _=>True) ?_ (fun _ _=> ?_)|refine aT (fun _=> ?_) (fun _=> ?_)) fun _ _=>aT (fun _=>ab trivial) fun _=>aT (fun _=>ab trivial) fun _=> ?_
 refine (tg hN hv hvN hk h).bind fun z hz=> ?_
 rw [HP hN hv hvN hk h,bs]
 refine Sat.bind (P:=fun _=>True) (by repeat' first|exact ab trivial|refine Sat.bind (P:=fun _=>True) ?_ (fun _ _=> ?_)|refine aT (fun _=> ?_) (fun _=> ?_)) fun _ _=>aT (fun _=>by (repeat' first|exact ab trivial|refine Sat.bind (P:=fun _=>True) ?_ (fun _ _=> ?_)|refine aT (fun _=> ?_) (fun _=> ?_))) fun _=> ?_
 unfold i9 eE;rw [bs]
 refine Sat.bind (P:=fun _=>True) ?_ fun _ _=>ab trivial
 refine (Gq hN hv hvN hk h _).bind fun s hs=>(EX hN hv hvN hk h key).bind fun q hq=>aT (fun _=>ab trivial) fun _=> ?_
 refine Sat.bind (P:=fun _=>True) ?_ fun _ _=>by (repeat' first|exact ab trivial|refine Sat.bind (P:=fun _=>True) ?_ (fun _ _=> ?_)|refine aT (fun _=> ?_) (fun _=> ?_))
 unfold ov;rw [pK hN hv hvN hk h,bs]
 (repeat' first|exact ab trivial|refine Sat.bind (P:=fun _=>True) ?_ (fun _ _=> ?_)|refine aT (fun _=> ?_) (fun _=> ?_))
theorem yM (hk:k≤1000000000){d:JM}(hd:descV N d):Sat (gA N w v d) fun _=>True:=by
 unfold gA eE
 refine Sat.bind (P:=fun _=>True) (by repeat' first|exact ab trivial|refine Sat.bind (P:=fun _=>True) ?_ (fun _ _=> ?_)|refine aT (fun _=> ?_) (fun _=> ?_)) fun _ _=>aT (fun _=>ab trivial) fun _=> ?_
 rw [bs]
 refine (Gq hN hv hvN hk h _).bind fun s hs=> ?_
 rw [bs]
 exact (qE N hs.1 _ _ _ hd).bind fun _ _=>by (repeat' first|exact ab trivial|refine Sat.bind (P:=fun _=>True) ?_ (fun _ _=> ?_)|refine aT (fun _=> ?_) (fun _=> ?_))
theorem E4 (hk:k+2000000≤1000000000)(key:JW){d:JM}(hd:descV N d)(K:Nat)(hK1:4096≤K)(hK2:aL .i64 d.Has 1≠0→1048576≤K):Sat (iL N w v key d) fun r=>After N i (k+K) c r.2.2:=by
 have hst:After N i (k+K) c w:=⟨c,l,h.more O,rfl⟩
 have htold: ∀(b:Bool) (w':JL),After N i (k+K) c w'→Sat ((kl N b).bind fun y=>some (y.1,y.2,w')) fun r=>After N i (k+K) c r.2.2:=fun b w' hw'=>by
  unfold kl
  exact Sat.bind (P:=fun _=>True) (by repeat' first|exact ab trivial|refine Sat.bind (P:=fun _=>True) ?_ (fun _ _=> ?_)|refine aT (fun _=> ?_) (fun _=> ?_)) fun _ _=>ab hw'
 have hj: ∀p,Sat (gB N w v key d p) fun r=>After N i (k+K) c r.2.2:=fun p=>by
  unfold gB
  exact ew (fun _=>ab hst) fun _=>(Gs hN hv hvN h hk key hd K hK1 hK2).bind fun r hr=>htold _ _ hr
 unfold iL;rw [JZ hv,nt,cf,HP hN hv hvN O h,bs]
 refine ew (fun e=> ?_) fun e=> ?_
 ·refine (yL hN hv hvN h O key hd).bind fun _ _=>ew (fun _=>ab hst) fun _=> ?_
  exact (xM hN hv hvN h O key hd (fun g=>absurd g (of_decide_eq_false e))).bind fun r hr=>htold _ _ (hr.a O)
 unfold eE;rw [bs]
 exact bf (fun _=>(yM hN hv hvN h O hd).bind fun p _=>hj p) fun _=>(yL hN hv hvN h O key hd).bind fun p _=>hj p
end
end
section
open Go.RowKit
def jE:Nat→List JS→List JW
 |_,[]=> []
 |j,x::m=>bif decide (x=(⟨8,0,(⟨#[]⟩:ByteArray)⟩:JS)) then jE (j+1) m else ⟨0,(j:Int),⟨#[]⟩⟩::jE (j+1) m
theorem sB: ∀(j:Nat) (m:List JS),(jE j m).length≤m.length
 |_,[]=>Nat.le_refl _
 |j,x::m=>by
  unfold jE;have:=sB (j+1) m;cases decide (x=(⟨8,0,(⟨#[]⟩:ByteArray)⟩:JS))
  ·rw [cf,List.length_cons,List.length_cons];omega
  rw [ct,List.length_cons];omega
theorem tv (N:Nat)(c:JU)(hc:c.More.length≤4096)(w':JL)(v':JS): ∀(m j:Nat) (l:List JW),c.More.length<m+j→j≤c.More.length→l.length≤j→Sat (dF N (iM (fun x st=>dh N w' v' x st)) c m (j:Int) (none,l)) fun r=>r=(none,l++jE j (c.More.drop j))
 |0,j,l,h1,h2,_=>by omega
 | m +1,j,l,h1,h2,h3=>by
  rw [dF.eq_2];by_cases h4:j<c.More.length
  ·rw [JZ O,ct,jc h4,bs,List.drop_eq_getElem_cons h4];unfold jE
   cases e:decide (c.More[j]=(⟨8,0,(⟨#[]⟩:ByteArray)⟩:JS)) with
   |true=>
    rw [nt,cf,ct];exact aP (by constructor<;>omega) (tv N c hc w' v' m (j+1) _ O O O)
   | false=>
    have e:iM (fun x st=>dh N w' v' x st) ((j:Int),c.More[j]) (none,l)=some (true,(none,l++([(⟨0,(j:Int),⟨#[]⟩⟩:JW)]:List JW))):=by
     show Option.map _ (dh N w' v' ((j:Int),c.More[j]) l)=_;unfold dh;simp only;rw [io (by unfold fA;rw [List.length_singleton];omega)];rfl
    rw [nf,ct,e,bs,nt,cf,cf];refine aP (by constructor<;>omega) ((tv N c hc w' v' m (j+1) _ O O (by rw [List.length_append,List.length_singleton];omega)).mono fun r hr=> ?_);rw [hr,J2];rfl
  rw [J0 O,cf];exact ab (by rw [List.drop_of_length_le O,show jE j []=[] from rfl,List.append_nil])
theorem xp (N:Nat)(w:JL)(y:List JQ)(hy:y.length≤1024): ∀(m j:Nat) (l:List JW),y.length<m+j→j≤y.length→l.length≤4097+j→jH N y w m (j:Int) l=eG N (l++(y.drop j).map (·.Key))
 |0,j,l,h1,h2,_=>by omega
 | m+1,j,l,h1,h2,h3=>by
  rw [jH.eq_2];by_cases h4:j<y.length
  ·rw [JZ O,ct,jc h4,bs,io (by unfold fA;rw [List.length_singleton];omega),io (by constructor<;>omega),List.drop_eq_getElem_cons h4];have:=xp N w y hy m (j+1) (l++ [y[j].Key]) O O (by rw [List.length_append,List.length_singleton];omega);simp only [Int.natCast_add,Int.cast_ofNat_Int] at this;rw [this,J2];rfl
  rw [J0 O,cf,List.drop_of_length_le O,List.map_nil,List.append_nil];unfold lx;cases eG N l<;>rfl
def fv (c:JU):JU:=⟨c.Kind,c.Shape,bH .i64 c.Flags 1,c.Age,c.Slots,c.More⟩
theorem DJ {f:Int}(h:0≤f∧f≤63)(h2:aL .i64 f 16=0):(0≤bH .i64 f 1∧bH .i64 f 1≤63)∧aL .i64 (bH .i64 f 1) 16=0∧aL .i64 (bH .i64 f 1) 1=0:=by
 have:=CH ⟨f.toNat,by omega⟩;simp only [Int.toNat_of_nonneg h.1] at this;exact this h2
theorem CG: ∀f:_root_.Fin 64,aL .i64 (bH .i64 (f.val:Int) 1) 32=aL .i64 (f.val:Int) 32:=by decide+kernel
theorem Hh {f:Int}(h:0≤f∧f≤63):aL .i64 (bH .i64 f 1) 32=aL .i64 f 32:=by
 have:=CG ⟨f.toNat,by omega⟩;simp only [Int.toNat_of_nonneg h.1] at this;exact this
def pc (N:Nat)(w:JL)(v:JS)(key:JW):JQ:=((dt N w v key).getD default).1
section
variable {N:Nat} (hN:20000≤N) {v:JS} {i:Nat} (hv:v.Kind=7) (hvN:v.N=2*i+1) {k:Nat} (hk:k≤1000000000) {w:JL} {c:JU} {l:List (JW×Int)} (h:InvC N i k w c l)
include hN hv hvN hk h
theorem Dr:i1 N w v=eG N (l.map (·.1)):=by
 unfold i1;rw [pA hN hv hvN hk h,bs];show Option.bind (dE N w.shapes_ c.Shape) _=_;rw [xR N O h.ti h.obj.row,bs];cases eG N (l.map (·.1))<;>rfl
theorem Ei (hc2:c.Kind=2):jU N w v=eG N ((jE 0 c.More++ [(⟨1,0,(⟨#[108,101,110,103,116,104]⟩:ByteArray)⟩:JW)])++l.map (·.1)):=by
 have hle:=h.obj.row.le h.ti;have hmo:=h.obj.rc.more;have hel:=sB 0 c.More;unfold jU jR cY;rw [pK hN hv hvN hk h,bs,JZ hc2,nt,cf,bs];have he:=(tv N c hmo w v N 0 [] O O (by simp)).eq;obtain ⟨q,hq,hq2⟩:=tg hN hv hvN hk h
 have e:q.length=l.length:=by rw [←hq2,List.length_map]
 show Option.bind (dF N (iM (fun x st=>dh N w v x st)) c N ((0:Nat):Int) (none,[])) _=_;rw [he,bs,Bz,bs,List.drop_zero,List.nil_append,io (by show (jE 0 c.More).length+1≤1099511627776;omega),hq,bs];have:=xp N w q O N 0 (jE 0 c.More++ [(⟨1,0,(⟨#[108,101,110,103,116,104]⟩:ByteArray)⟩:JW)]) O O (by rw [List.length_append,List.length_singleton];omega);rw [List.drop_zero] at this;rw [show q.map (·.Key)=l.map (·.1) by rw [←hq2,List.map_map];rfl] at this;exact this
theorem zp:cX N w v=eG N (bif decide (c.Kind=2) then (jE 0 c.More++ [(⟨1,0,(⟨#[108,101,110,103,116,104]⟩:ByteArray)⟩:JW)])++l.map (·.1) else l.map (·.1)):=by
 unfold cX;rw [HP hN hv hvN hk h,bs];by_cases e:c.Kind=2
 ·rw [JZ e,ct,ct,Ei hN hv hvN hk h e];cases eG N _<;>rfl
 rw [J0 e,cf,cf,Dr hN hv hvN hk h];cases eG N _<;>rfl
theorem AV:fQ N w v=some (oA w (w.heap_.m_.Young.set i (fv c)))∧InvC N i k (oA w (w.heap_.m_.Young.set i (fv c))) (fv c) l:=by
 have hg:=h.good;have hrc:=h.obj.rc;have hf:=DJ hrc.fl h.obj.noP;have hlt:=h.lt;have hgc:goodC (fv c):=⟨hg.sl,hg.ml,hg.sv,hg.mv⟩;have hoc:ObjC N w.shapes_ (fv c) l:=⟨⟨hrc.kind,hrc.sh,hf.1,hrc.age,hrc.sv,hrc.mv,hrc.sl,hrc.proto,hrc.more,hrc.plain⟩,h.obj.row,h.obj.num,h.obj.nd,hf.2.1,h.obj.idx⟩;obtain ⟨w',h1,h2, -⟩:=store hN hv hvN hk h.mem h.ti h.tb h.at_ (c':=fv c) (l':=l) rfl hgc hoc;have h3:=Dh N h.mem.good hv hvN O h.at_ hgc (hoc.rc.right hN);rw [h1] at h3;have e:w'=oA w (w.heap_.m_.Young.set i (fv c)):=Option.some.inj h3;rw [e] at h1 h2;refine ⟨?_,h2⟩;unfold fQ nF;rw [pA hN hv hvN hk h,bs];unfold db;show Option.bind (Option.bind (Option.bind (fD N w v (fv c)) _) _) _=_;rw [AY,h1];rfl
theorem vj (key:JW): ∃b,dt N w v key=some (pc N w v key,b):=by
 obtain ⟨r,h1, -⟩:=Hb hN hv hvN hk h key;exact ⟨r.2,by unfold pc;rw [h1];rfl⟩
theorem ET (key:JW):pe (pc N w v key).Attrs:=by
 obtain ⟨r,h1,h2⟩:=Hb hN hv hvN hk h key;unfold pc;rw [h1];exact h2.2
theorem wT (ks:List JW)(hks:cX N w v=some ks)(hl:ks.length≤6000):js N w v=some (ks.map (pc N w v)):=by
 have key: ∀(m j:Nat) (p:List JQ),ks.length<m+j→j≤ks.length→p.length=j→lT N ks w v m p (j:Int)=some (p++(ks.drop j).map (pc N w v)):=by
  intro m
  induction m with
  |zero=>intro j p h1 h2;omega
  | succ m ih=>
   intro j p h1 h2 h3;rw [lT.eq_2];by_cases h4:j<ks.length
   ·obtain ⟨b,hb⟩:=vj hN hv hvN hk h ks[j];rw [JZ O,ct,jc h4,bs,hb,bs,io (by rw [List.length_singleton];omega),io (by constructor<;>omega),List.drop_eq_getElem_cons h4];have:=ih (j+1) (p++ [pc N w v ks[j]]) O O (by rw [List.length_append,List.length_singleton];omega);simp only [Int.natCast_add,Int.cast_ofNat_Int] at this;rw [this,J2];rfl
   rw [J0 O,cf,List.drop_of_length_le O,List.map_nil,List.append_nil];rfl
 unfold js;rw [hks,bs];exact key N 0 [] O O J
theorem Aa (ks:List JW)(hks:cX N w v=some ks)(hl:ks.length≤6000):iD N w v=some (decide (aL .i64 c.Flags 1=0)&&ks.all fun key=>decide (aL .i64 (pc N w v key).Attrs 4=0)):=by
 have key:=zo (du N ks w v) ks (fun key=>decide (aL .i64 (pc N w v key).Attrs 4=0)) (fun m j hj=>by
  obtain ⟨b,hb⟩:=vj hN hv hvN hk h ks[j];rw [du.eq_2,JZ O,ct,jc hj,bs,hb,bs];unfold ja;rw [bs,io (by constructor<;>omega)]
  cases decide (aL .i64 (pc N w v ks[j]).Attrs 4=0)<;>rfl) (fun m=>by
  rw [du.eq_2,J0 O,cf];rfl) N O
 unfold iD gi;rw [I2 hN hv hvN hk h,bs,nt,cf,Du hN hv hvN hk h,bs,hks];cases decide (aL .i64 c.Flags 1=0)
 ·rfl
 show Option.bind (du N ks w v N 0) _=_;rw [key];rfl
theorem Ar (ks:List JW)(hks:cX N w v=some ks)(hl:ks.length≤6000):fX N w v=some (decide (aL .i64 c.Flags 1=0)&&ks.all fun key=>decide (aL .i64 (pc N w v key).Attrs 5=0)):=by
 have key:=zo (dv N ks w v) ks (fun key=>decide (aL .i64 (pc N w v key).Attrs 5=0)) (fun m j hj=>by
  obtain ⟨b,hb⟩:=vj hN hv hvN hk h ks[j];rw [dv.eq_2,JZ O,ct,jc hj,bs,hb,bs];unfold jb;rw [bs,io (by constructor<;>omega)]
  cases decide (aL .i64 (pc N w v ks[j]).Attrs 5=0)<;>rfl) (fun m=>by
  rw [dv.eq_2,J0 O,cf];rfl) N O
 unfold fX gj;rw [I2 hN hv hvN hk h,bs,nt,cf,Du hN hv hvN hk h,bs,hks];cases decide (aL .i64 c.Flags 1=0)
 ·rfl
 show Option.bind (dv N ks w v N 0) _=_;rw [key];rfl
theorem wY: ∃ks,cX N w v=some ks∧ks.length≤6000:=by
 obtain ⟨ks,h1,h2⟩:=Ih hN hv hvN hk h;exact ⟨ks,h1,h2⟩
end
theorem Da (N:Nat)(a b:List JQ)(hl:a.length<N)(hl2:a.length≤100000):o9 N a b=some (decide (a=b)):=by
 unfold o9;by_cases e:a.length=b.length
 ·rw [JZ O,nt,cf]
  rw [Dx (nY N a b) a b (some false) (some true) e (fun m j h1 h2=>by
   rw [nY.eq_2,JZ O,ct,jc h1,bs,jc h2,bs,io (by constructor<;>omega)]
   cases decide (a[j]=b[j])<;>rfl) (fun m=>by rw [nY.eq_2,J0 O,cf];rfl) N hl]
  cases decide (a=b)<;>rfl
 rw [J0 O,nf,ct,J0 fun h=>e (by rw [h])]
def Ij (fr:Bool)(a:Int):Int:=bif fr&&decide (aL .i64 (bH .i64 a 4) 8=0) then bH .i64 (bH .i64 a 4) 1 else bH .i64 a 4
def I3 (fr:Bool)(p:JQ):JQ:=⟨p.Key,Ij fr p.Attrs,p.Value,p.Get,p.Set⟩
end
section
open Go.RowKit
theorem By (N:Nat)(w:JL){x:JS}(hl: ¬(x.Kind=7∨x.Kind=9)):bG N w x=some ⟨0,0,0,0,[],[]⟩:=by
 unfold bG;rw [oV,bs,J0 fun h=>hl (.inl h),J0 fun h=>hl (.inr h)];rfl
section
variable {N:Nat} (hN:20000≤N) {v:JS} {i:Nat} (hv:v.Kind=7) (hvN:v.N=2*i+1) {k:Nat} (hk:k≤1000000000) {w:JL} {c:JU} {l:List (JW×Int)} (h:InvC N i k w c l)
 (h':InvC N i k (oA w (w.heap_.m_.Young.set i (fv c))) (fv c) l)
include hN hv hvN hk h h'
omit hN hv hvN in
theorem Im {x:JS}(hx:np x): ∃q q',bG N w x=some q∧bG N (oA w (w.heap_.m_.Young.set i (fv c))) x=some q'∧q'.Slots=q.Slots:=by
 have hi:=h.at_;have hlt:=(List.getElem?_eq_some_iff.1 hi).1;have hlen:=h.mem.len;have hsl:(w.heap_.m_.Young.set i (fv c)).length=w.heap_.m_.Young.length:=List.length_set ..;by_cases hl:x.Kind=7∨x.Kind=9
 ·by_cases hj: ∃j:Nat,x.N=2*j+1∧j<w.heap_.m_.Young.length
  ·obtain ⟨j,j1,j2⟩:=hj;by_cases e:j=i
   ·subst e;exact ⟨c,fv c,qV N h.mem.good hl j1 O hi,qV N h'.mem.good hl j1 O h'.at_,J⟩
   refine ⟨_,_,qV N h.mem.good hl j1 O (List.getElem?_eq_getElem j2),qV N h'.mem.good hl j1 O (c:=w.heap_.m_.Young[j]) ?_,J⟩;show (w.heap_.m_.Young.set i (fv c))[j]? =_;rw [List.getElem?_set_ne (Ne.symm e),List.getElem?_eq_getElem j2]
  obtain ⟨q,q1, -,q3⟩:=sI N h.mem hk hx;obtain ⟨q',q1', -,q3'⟩:=sI N h'.mem hk hx
  have e1:q=⟨0,0,0,0,[],[]⟩:=by
   rcases q3 with e|⟨j,j1,j2⟩
   ·exact e
   exact absurd ⟨j,j1,(List.getElem?_eq_some_iff.1 j2).1⟩ hj
  have e2:q'=⟨0,0,0,0,[],[]⟩:=by
   rcases q3' with e|⟨j,j1,j2⟩
   ·exact e
   refine absurd ⟨j,j1,?_⟩ hj;have:=(List.getElem?_eq_some_iff.1 j2).1;change j<(w.heap_.m_.Young.set i (fv c)).length at this;omega
  exact ⟨q,q',q1,q1',by rw [e1,e2]⟩
 exact ⟨_,_,By N w hl,By N _ hl,J⟩
omit hN hv hvN in
theorem C4 (place:Int)(key:JW)(a:Int):di N ⟨fv c,oA w (w.heap_.m_.Young.set i (fv c)),v⟩ place key a=di N ⟨c,w,v⟩ place key a:=by
 unfold di;show cN _ (bif decide ((c.Slots.length:Int)≤place+1) then _ else cN _ (Option.bind (bT c.Slots (place+1)) _))=cN _ (bif decide ((c.Slots.length:Int)≤place+1) then _ else cN _ (Option.bind (bT c.Slots (place+1)) _))
 cases hg:bT c.Slots (place+1) with
 |none=>rfl
 |some x=>
  have hx:x∈c.Slots:=List.mem_of_getElem? (aH hg).2.2;obtain ⟨q,q',h1,h2,h3⟩:=Im hk h h' (h.good.sv x hx);rw [bs,bs];show cN _ (bif _ then _ else cN _ (bif _ then _ else Option.bind (bG N (oA w (w.heap_.m_.Young.set i (fv c))) x) _))=cN _ (bif _ then _ else cN _ (bif _ then _ else Option.bind (bG N w x) _));rw [h1,h2,bs,bs,h3]
theorem E2 (key:JW):dt N (oA w (w.heap_.m_.Young.set i (fv c))) v key=dt N w v key:=by
 have hown:bN N ⟨fv c,oA w (w.heap_.m_.Young.set i (fv c)),v⟩ key=bN N ⟨c,w,v⟩ key:=by
  unfold bN;show Option.bind (some ()) (fun _=>Option.bind (df N w.shapes_ c.Shape key) _)=Option.bind (some ()) (fun _=>Option.bind (df N w.shapes_ c.Shape key) _);simp only [C4 hk h h']
 have hoo:fa N (oA w (w.heap_.m_.Young.set i (fv c))) v key=fa N w v key:=by
  unfold fa;rw [pA hN hv hvN hk h,pA hN hv hvN hk h',bs,bs];show Option.bind (bN N ⟨fv c,oA w (w.heap_.m_.Young.set i (fv c)),v⟩ key) _=Option.bind (bN N ⟨c,w,v⟩ key) _;rw [hown]
 have hlen:fm N (fv c)=fm N c:=by
  unfold fm;rw [show (fv c).Flags=bH .i64 c.Flags 1 from rfl,Hh h.obj.rc.fl];rfl
 unfold dt;rw [HP hN hv hvN hk h,HP hN hv hvN hk h',hoo];show Option.bind (some (decide (c.Kind=2))) _=Option.bind (some (decide (c.Kind=2))) _;rw [bs,bs]
 have ha:fP N (oA w (w.heap_.m_.Young.set i (fv c))) v key=fP N w v key:=by
  unfold fP;rw [pK hN hv hvN hk h,pK hN hv hvN hk h',hoo];rw [bs,bs];simp only [hlen];rfl
 rw [ha]
theorem Dj: ∃p:List JQ,js N w v=some p∧js N (oA w (w.heap_.m_.Young.set i (fv c))) v=some p∧p.length≤6000:=by
 obtain ⟨ks,h1,h2⟩:=wY hN hv hvN hk h;refine ⟨_,wT hN hv hvN hk h ks h1 h2,?_,by rw [List.length_map];exact h2⟩
 have e:cX N (oA w (w.heap_.m_.Young.set i (fv c))) v=some ks:=by
  rw [←h1,zp hN hv hvN hk h,zp hN hv hvN hk h'];rfl
 rw [wT hN hv hvN hk h' ks e h2]
 congr 2
 funext key;unfold pc;rw [E2 hN hv hvN hk h h' key]
end
theorem Is: ∀a:_root_.Fin 16,aL .i64 (a.val:Int) 5=0→aL .i64 (a.val:Int) 4=0:=by decide+kernel
theorem vl {N:Nat}(hN:20000≤N)(hlv:il N=some true)(y:JS×Bool×JL){i:Nat}(hv:y.1.Kind=7)(hvN:y.1.N=2*i+1){k:Nat}(hk:k≤1000000000): ∀(m:Nat) (j:Int) (w:JL) (c:JU) (l:List (JW×Int)),(2 - j).toNat<m→0≤j→InvC N i k w c l→Sat (fI N y m j w.spent_.steps_ w.spent_.made_ w.spent_.calls_ w.config_.Way w.config_.Steps w.config_.Calls w.config_.Made w.config_.Young w.config_.Full w.config_.Sites w.symbols_ w.epoch_ w.serial_ w.sleepers_ w.events_ w.out_ w.heap_.m_.Young w.heap_.m_.Old w.heap_.roots_ w.heap_.pending_ w.shapes_.shapes_ w.shapes_.next_ w.heap_.set_.at_) (· =true)
 |0,j,w,c,l,h0,_,_=>by omega
 | m+1,j,w,c,l,h0,h1,h=>by
  rw [fI.eq_2]
  refine bf (fun hj=> ?_) fun _=> ?_
  ·obtain ⟨ks,hk1,hk2⟩:=wY hN hv hvN hk h;obtain ⟨hs1,hs2⟩:=AV hN hv hvN hk h;obtain ⟨p,hp1,hp2,hp3⟩:=Dj hN hv hvN hk h hs2
   have hsub: ∀key,aL .i64 (pc N w y.1 key).Attrs 5=0→aL .i64 (pc N w y.1 key).Attrs 4=0:=fun key hh=>by
    have hm:=ET hN hv hvN hk h key;have h0:=hm.1;have h1:=hm.2.1;have:=Is ⟨(pc N w y.1 key).Attrs.toNat,by omega⟩;simp only [Int.toNat_of_nonneg h0] at this;exact this hh
   have hfs: ∀E F S:Bool,(F=true→S=true)→((E&&F)=true→(E&&S)=true):=fun E F S hh=>by cases E<;>cases F<;>cases S<;>simp_all
   have hall:(ks.all fun key=>decide (aL .i64 (pc N w y.1 key).Attrs 5=0))=true→(ks.all fun key=>decide (aL .i64 (pc N w y.1 key).Attrs 4=0))=true:=fun hh=>by
    rw [List.all_eq_true] at hh⊢
    exact fun x hx=>JZ (hsub x (of_decide_eq_true (hh x hx)))
   refine Sat.bind ⟨_,Ar hN hv hvN hk h ks hk1 hk2,J⟩ fun F hF=>Sat.bind ⟨_,Aa hN hv hvN hk h ks hk1 hk2,J⟩ fun S hS=> ?_
   have hFS:F=true→S=true:=by
    rw [←hF, ←hS];exact hfs _ _ _ hall
   refine bu (P:=(· =false)) (fun e=>ab (by rw [hFS e];rfl)) (fun _=>ab J) fun b65 hb65=> ?_
   rw [hb65]
   refine Sat.bind (P:=(· =false)) ?_ fun b66 hb66=> ?_
   ·rw [cf]
    refine bu (P:=(· =false)) (fun e=> ?_) (fun _=>ab J) fun z hz=>ab hz
    refine Sat.bind ⟨_,Du hN hv hvN hk h,J⟩ fun x hx=>ab ?_
    rw [←hx];rw [←hS,Bool.and_eq_true] at e;rw [e.1];rfl
   rw [hb66,cf]
   refine Sat.bind ⟨_,hp1,J⟩ fun p' hp'=> ?_
   refine Sat.bind ⟨_,hs1,J⟩ fun w' hw'=> ?_
   have hw2:oA w (w.heap_.m_.Young.set i (fv c))=w':=hw';subst hw2
   refine Sat.bind ⟨_,Du hN hv hvN hk hs2,J⟩ fun x hx=> ?_
   have hx2:x=false:=by
    rw [←hx,JZ (show aL .i64 (fv c).Flags 1=0 from (DJ h.obj.rc.fl h.obj.noP).2.2)];rfl
   rw [hx2]
   refine Sat.bind (P:=(· =false)) ?_ fun b84 hb84=> ?_
   ·rw [cf]
    refine Sat.bind ⟨_,hp2,J⟩ fun p2 hp2'=> ?_
    have e1:p'=p:=hp'.symm;have e2:p2=p:=hp2'.symm;rw [e1,e2,Da N p p O O,bs,JZ rfl];exact ab J
   rw [hb84,cf];refine aP (by constructor<;>omega) ?_;exact vl hN hlv y hv hvN hk m (j+1) _ (fv c) l O O hs2
  unfold ir;rw [hlv,bs];exact ab J
section
variable {N:Nat} (hN:20000≤N) {v:JS} {i:Nat} (hv:v.Kind=7) (hvN:v.N=2*i+1) {k:Nat} (hk:k+100000000≤1000000000)
include hN hv hvN hk
end
end
section
open Go.RowKit
theorem C1 (N:Nat){x:Int}(h0:0≤x)(h1:x≤255):Sat (ob N x 10) fun y=> -1≤y∧y≤1000:=by
 have e:IntKind.i64.wrap x=x:=IntWalk.i64_in _ ⟨by omega,by omega⟩
 have h12: ∀p:Int, -1≤p→p≤1000→Sat (ki N 10 p) fun y=> -1≤y∧y≤1000:=fun p h0 h1=>by
  unfold ki
  exact aT (fun _=>ab ⟨by omega,by omega⟩) fun _=>ab ⟨h0,h1⟩
 have h6: ∀p:Int, -1≤p→p≤1000→Sat (kV N x 10 p) fun y=> -1≤y∧y≤1000:=fun p g0 g1=>by
  unfold kV
  refine bu (P:=fun b=>b=true→65≤x) (fun e=>ab fun _=>of_decide_eq_true e) (fun _=>ab fun h=>by cases h) fun b hb=>aT (fun eb=> ?_) fun _=>h12 p g0 g1
  have:=hb eb;rw [e];exact aP (by constructor<;>omega) (aP (by constructor<;>omega) (h12 _ O O))
 have hj1: ∀p:Int, -1≤p→p≤1000→Sat (kW N x 10 p) fun y=> -1≤y∧y≤1000:=fun p g0 g1=>by
  unfold kW
  refine bu (P:=fun b=>b=true→97≤x) (fun e=>ab fun _=>of_decide_eq_true e) (fun _=>ab fun h=>by cases h) fun b hb=>aT (fun eb=> ?_) fun _=>h6 p g0 g1
  have:=hb eb;rw [e];exact aP (by constructor<;>omega) (aP (by constructor<;>omega) (h6 _ O O))
 unfold ob
 refine bu (P:=fun b=>b=true→48≤x) (fun e=>ab fun _=>of_decide_eq_true e) (fun _=>ab fun h=>by cases h) fun b hb=>aT (fun eb=> ?_) fun _=>hj1 _ O O
 have:=hb eb;rw [e];exact aP (by constructor<;>omega) (hj1 _ O O)
theorem vW (N:Nat)(s:ByteArray)(hs:s.size≤10): ∀(m i:Nat) (p:Int),s.size<m+i→i≤s.size→ -1≤p→p≤9007199254740992→Sat (fJ N s 10 m p (i:Int)) fun _=>True
 |0,i,p,h,h1,_,_=>by omega
 | m+1,i,p,h,h1,h2,h3=>by
  have h7:i<s.size→ ∀q:Int, -1≤q→q≤9007199254740992→Sat (kX N (fJ N s 10 m) s 10 (i:Int) q) fun _=>True:=fun hi q g0 g1=>by
   unfold kX;exact aP (by constructor<;>omega) (vW N s hs m (i+1) q O O g0 g1)
  have h12:i<s.size→ ∀q:Int, -1≤q→Sat (kj N (fJ N s 10 m) s 10 (i:Int) q) fun _=>True:=fun hi q g0=>by
   unfold kj
   exact bf (fun _=>h7 hi _ O O) fun h=>h7 hi _ g0 O
  rw [fJ.eq_2]
  refine bf (fun hi=>(qT O hi).bind fun x hx=>(C1 N hx.1 hx.2).bind fun y hy=>bf (fun _=>ab trivial) fun hy0=>bf (fun hp=> ?_) fun hp=>h12 O p h2) fun _=>ab trivial
  exact aP (by constructor<;>omega) (aP (by constructor<;>omega) (h12 O _ O))
theorem Am (N:Nat)(hN:5000≤N)(s:ByteArray):Sat (oa N s) fun _=>True:=by
 unfold oa;by_cases h10:s.size≤10
 ·cases e:(s.toList==(⟨#[]⟩:ByteArray).toList) with
  |true=>exact ab trivial
  | false=>
   have hs:0<s.size:=by
    rcases Nat.eq_zero_or_pos s.size with h|h
    ·exfalso
     have:s=⟨#[]⟩:=by
      obtain ⟨d⟩:=s;have:d= #[]:=Array.eq_empty_of_size_eq_zero h;rw [this]
     rw [this] at e;rw [beq_self_eq_true] at e;cases e
    exact h
   show Sat (Option.bind (some (decide (10<(s.size:Int)))) _) _;rw [bs,J0 O];show Sat (Option.bind ((ud s 0).bind _) _) _
   refine Sat.bind (P:=fun _=>True) ((qT O O).bind fun x _=>bu (P:=fun _=>True) (fun _=>ab trivial) (fun _=>ab trivial) fun _ _=>ab trivial) fun b _=> ?_
   refine aT (fun _=>ab trivial) fun _=>Sat.bind (P:=fun _=>True) (vW N s h10 N 0 0 O O O O) fun y _=> ?_
   (repeat' first|exact ab trivial|refine Sat.bind (P:=fun _=>True) ?_ (fun _ _=> ?_)|refine aT (fun _=> ?_) (fun _=> ?_))
 have:(bif s.toList==(⟨#[]⟩:ByteArray).toList then (some true) else (some (decide (10<(s.size:Int)))))=some true:=by
  cases s.toList==(⟨#[]⟩:ByteArray).toList with
  |true=>rfl
  |false=>show some _=_;rw [JZ O]
 rw [this];exact ab trivial
theorem Ad (N:Nat)(hN:5000≤N)(k:JW):Sat (nZ N k) fun _=>True:=by
 unfold nZ
 refine bf (fun _=>by (repeat' first|exact ab trivial|refine Sat.bind (P:=fun _=>True) ?_ (fun _ _=> ?_)|refine aT (fun _=> ?_) (fun _=> ?_))) fun _=>bf (fun _=>Sat.bind (P:=fun _=>True) (Am N hN k.S) fun _ _=>by (repeat' first|exact ab trivial|refine Sat.bind (P:=fun _=>True) ?_ (fun _ _=> ?_)|refine aT (fun _=> ?_) (fun _=> ?_))) fun _=>bf (fun _=>by (repeat' first|exact ab trivial|refine Sat.bind (P:=fun _=>True) ?_ (fun _ _=> ?_)|refine aT (fun _=> ?_) (fun _=> ?_))) fun _=>ab trivial
theorem AC (N:Nat){a:Int}(h0:0≤a)(h1:a≤15){b:Int}(hb:1≤b):Sat (nh N a b) fun _=>True:=by
 unfold nh;refine aP ⟨by omega,?_⟩ (ab trivial);rw [Int.tdiv_eq_ediv_of_nonneg h0];have:=Int.ediv_nonneg h0 (show 0≤b by omega);have:=Int.ediv_le_self b h0;constructor<;>omega
theorem Bk (N:Nat)(v:JS)(b:Bool):Sat (nC N v b) fun _=>True:=by
 unfold nC
 (repeat' first|exact ab trivial|refine Sat.bind (P:=fun _=>True) ?_ (fun _ _=> ?_)|refine aT (fun _=> ?_) (fun _=> ?_))
theorem Cl (N:Nat)(p:JQ):Sat (kw N p) fun b=>b=true→0≤p.Attrs∧p.Attrs≤15:=by
 unfold kw
 refine bu (P:=fun b=>b=false→0≤p.Attrs∧p.Attrs≤15) (fun _=>ab fun h=>by cases h) (fun e=>ab fun h=> ?_) fun b hb=>aT (fun _=>ab fun h=>by cases h) fun e=> ?_
 ·have h1:=of_decide_eq_false e;have h2:=of_decide_eq_false h;omega
 obtain ⟨h0,h1⟩:=hb e
 refine Sat.mono (R:=fun _=>True) ?_ fun _ _ _=>⟨h0,h1⟩
 refine (AC N h0 h1 O).bind fun y _=>aT (fun _=> ?_) fun _=>by (repeat' first|exact ab trivial|refine Sat.bind (P:=fun _=>True) ?_ (fun _ _=> ?_)|refine aT (fun _=> ?_) (fun _=> ?_))
 refine (AC N h0 h1 O).bind fun z _=>Sat.bind (P:=fun _=>True) (by repeat' first|exact ab trivial|refine Sat.bind (P:=fun _=>True) ?_ (fun _ _=> ?_)|refine aT (fun _=> ?_) (fun _=> ?_)) fun _ _=>Sat.bind (P:=fun _=>True) (aT (fun _=>(Bk N _ _).bind fun _ _=>ab trivial) fun _=>ab trivial) fun _ _=>Sat.bind (P:=fun _=>True) (aT (fun _=>(Bk N _ _).bind fun _ _=>ab trivial) fun _=>ab trivial) fun _ _=>ab trivial
structure inP (p:JQ):Prop where
 vn:np p.Value
 gn:np p.Get
 sn:np p.Set
 ks:p.Key.S.size≤140737488355328
 vs:p.Value.S.size≤140737488355328
def rz (N:Nat)(p:JQ):Prop:=(0≤p.Attrs∧p.Attrs≤15)∧propV N p
theorem zn (N:Nat){k:Int}(h:k=0∨k=1∨k=4):oR N ⟨k,0,⟨#[]⟩⟩:=by
 unfold oR;rcases h with h|h|h<;>subst h<;>rw [vz N _ 0 (by decide)]<;>rfl
theorem uU (N:Nat)(hN:20000≤N)(x:JV)(hx: ∀p∈x.Props,inP p)(hl:x.Props.length≤30): ∀(m j:Nat) (n:Int),x.Props.length<m+j→j≤x.Props.length→0≤n→n≤70000→(∀p∈x.Props.take j,rz N p)→Sat (eZ N x m n (j:Int)) fun b=>b=true→ ∀p∈x.Props,rz N p
 |0,j,n,h,h1,_,_,_=>by omega
 | m+1,j,n,h,h1,h2,h3,h4=>by
  rw [eZ.eq_2]
  refine bf (fun hj=> ?_) fun hj=>ab fun _=>by rw [List.take_of_length_le O] at h4;exact h4
  have hj':j<x.Props.length:=by omega
  rw [jc hj',bs];have hin:=hx _ (List.getElem_mem hj')
  have htk:x.Props.take (j+1)=x.Props.take j++ [x.Props[j]]:=by rw [List.take_add_one,List.getElem?_eq_getElem hj'];rfl
  generalize x.Props[j]=p at hin htk;have hks:=hin.ks;have hvs:=hin.vs;refine aP (by constructor<;>omega) (aP (by constructor<;>omega) ?_)
  refine bu (P:=fun b=>b=false→n+((p.Key.S.size:Int)+(p.Value.S.size:Int))≤70000) (fun _=>ab fun h=>by cases h) (fun e=>(Ad N O p.Key).bind fun y _=>ab fun _=>by have:=of_decide_eq_false e;omega) fun b15 h15=> ?_
  refine bu (P:=fun b=>b=false→n+((p.Key.S.size:Int)+(p.Value.S.size:Int))≤70000∧0≤p.Attrs∧p.Attrs≤15) (fun _=>ab fun h=>by cases h) (fun e=>(Cl N p).bind fun y hy=>ab fun h=>⟨h15 e,hy (by cases y<;>first|rfl|cases h)⟩) fun b17 h17=> ?_
  refine bu (P:=fun b=>b=false→b17=false) (fun _=>ab fun h=>by cases h) (fun e=>ab fun _=>e) fun b19 h19=> ?_
  refine bu (P:=fun b=>b=false→b17=false) (fun _=>ab fun h=>by cases h) (fun e=>ab fun _=>h19 e) fun b20 h20=> ?_
  refine bu (P:=fun b=>b=false→b17=false) (fun _=>ab fun h=>by cases h) (fun e=>ab fun _=>h20 e) fun b21 h21=> ?_
  refine bu (P:=fun b=>b=false→b17=false) (fun _=>ab fun h=>by cases h) (fun e=>Sat.bind (P:=fun _=>True) (by repeat' first|exact ab trivial|refine Sat.bind (P:=fun _=>True) ?_ (fun _ _=> ?_)|refine aT (fun _=> ?_) (fun _=> ?_)) fun _ _=>ab fun _=>h21 e) fun b22 h22=> ?_
  refine aT (fun _=>ab fun h=>by cases h) fun e=> ?_
  obtain ⟨q1,q2,q3⟩:=h17 (h22 e)
  have hrec:oR N p.Value→Sat (jI N (eZ N x m) (j:Int) x (n+((p.Key.S.size:Int)+(p.Value.S.size:Int)))) fun b=>b=true→ ∀p∈x.Props,rz N p:=fun hm=>by
   unfold jI;refine aP (by constructor<;>omega) ?_
   refine uU N hN x hx hl m (j+1) _ O O O q1 fun z hz=> ?_
   rw [htk] at hz;rcases List.mem_append.1 hz with hz|hz
   ·exact h4 z hz
   rw [List.mem_singleton] at hz;subst hz;exact ⟨⟨q2,q3⟩,⟨hin.vn,hm⟩,hin.gn,hin.sn⟩
  have h25: ∀b:Bool,(b=true→p.Value.Kind=0∨p.Value.Kind=1∨p.Value.Kind=4)→Sat (iX N (eZ N x m) n p (j:Int) x b) fun b=>b=true→ ∀p∈x.Props,rz N p:=fun b hb=>by
   unfold iX
   refine aT (fun eb=>ew (fun _=>ab fun h=>by cases h) fun ev=>hrec ?_) fun _=>bf (fun h3k=> ?_) fun _=>bf (fun h5k=> ?_) fun _=>ab fun h=>by cases h
   ·have e3:=of_decide_eq_true ev;rw [e3];exact zn N (hb eb)
   ·refine bu (P:=fun b=>b=false→p.Value.S.toList==(⟨#[]⟩:ByteArray).toList∧ -9007199254740992≤p.Value.N) (fun _=>ab fun h=>by cases h) (fun e=>ab fun h=>⟨by cases hh:(p.Value.S.toList==(⟨#[]⟩:ByteArray).toList)<;>first|rfl|(rw [hh] at e;cases e),by have:=of_decide_eq_false h;omega⟩) fun b32 h32=> ?_
    refine bu (P:=fun b=>b=false→(p.Value.S.toList==(⟨#[]⟩:ByteArray).toList∧ -9007199254740992≤p.Value.N)∧p.Value.N≤9007199254740992) (fun _=>ab fun h=>by cases h) (fun e=>ab fun h=>⟨h32 e,by have:=of_decide_eq_false h;omega⟩) fun b33 h33=> ?_
    refine aT (fun _=>ab fun h=>by cases h) fun e=>hrec ?_
    obtain ⟨⟨g1,g2⟩,g3⟩:=h33 e;unfold oR gH;rw [J0 (show¬p.Value.Kind=5 by omega),cf,g1,nt,cf,J0 (show¬p.Value.Kind=2 by omega),cf,JZ h3k,ct,JZ g2,ct,JZ g3];rfl
   refine bu (P:=fun b=>b=false→p.Value.N=0∧(p.Value.S.size:Int)≤65536) (fun _=>ab fun h=>by cases h) (fun e=>ab fun h=>⟨by rw [Bool.not_eq_false'] at e;exact of_decide_eq_true e,by have:=of_decide_eq_false h;omega⟩) fun b36 h36=> ?_
   refine aT (fun _=>ab fun h=>by cases h) fun e=>hrec ?_
   obtain ⟨g1,g2⟩:=h36 e;unfold oR gH;rw [JZ h5k,ct,JZ g1,ct,JZ g2];rfl
  exact bf (fun hk=>h25 _ fun _=> .inl hk) fun _=>bf (fun hk=>h25 _ fun _=> .inr (.inl hk)) fun _=>h25 _ fun hk=> .inr (.inr (of_decide_eq_true hk))
theorem Ac (N:Nat)(hN:20000≤N)(x:JV)(hx: ∀p∈x.Props,inP p):Sat (mc N x) fun b=>b=true→x.Props.length≤30∧ ∀p∈x.Props,rz N p:=by
 unfold mc
 refine bf (fun _=>ab fun h=>by cases h) fun h=> ?_
 exact (uU N hN x hx O N 0 0 O O O O (by simp)).mono fun b hb hb2=>⟨by omega,hb hb2⟩
theorem If (N:Nat){p:JQ}(h:rz N p):Sat (sb N p) (descV N):=by
 obtain ⟨⟨h0,h1⟩,hp⟩:=h;unfold sb
 refine (AC N h0 h1 O).bind fun y _=>aT (fun _=>aP (by constructor<;>omega) (ab ⟨xv N,hp.g,hp.s⟩)) fun _=>ab ⟨hp.v,pW,pW⟩
set_option maxRecDepth 20000
section
variable {N:Nat} (hN:20000≤N)
include hN
theorem wW (x:JV)(hx:x.Props.length≤30)(hg: ∀p∈x.Props,rz N p){v:JS}{i:Nat}(hv:v.Kind=7)(hvN:v.N=2*i+1){k:Nat}(hk:k≤1000): ∀(m j:Nat) (w:JL) (c:JU) (l:List (JW×Int)),x.Props.length<m+j→j≤x.Props.length→InvC N i (k+1048576*j) w c l→Sat (kS N x v.Kind v.N v.S m (j:Int) w.spent_.steps_ w.spent_.made_ w.spent_.calls_ w.config_.Way w.config_.Steps w.config_.Calls w.config_.Made w.config_.Young w.config_.Full w.config_.Sites w.symbols_ w.epoch_ w.serial_ w.sleepers_ w.events_ w.out_ w.heap_.m_.Young w.heap_.m_.Old w.heap_.roots_ w.heap_.pending_ w.shapes_.shapes_ w.shapes_.next_ w.heap_.set_.at_) fun r=>r.1=v∧r.2.1=true∧ ∃c' l',InvC N i (k+40000000) r.2.2 c' l'
 |0,j,w,c,l,h0,h1,_=>by omega
 | m+1,j,w,c,l,h0,h1,h=>by
  rw [kS.eq_2]
  refine bf (fun hj=> ?_) fun hj=> ?_
  ·have hj':j<x.Props.length:=by omega
   have hp:=hg _ (List.getElem_mem hj');rw [jc hj',bs,bs]
   refine (If N hp).bind fun d hd=> ?_
   refine (E4 hN hv hvN h O x.Props[j].Key hd 1048576 O (fun _=>Nat.le_refl _)).bind fun r hr=> ?_
   obtain ⟨c',l',g1,g2⟩:=hr;exact aP (by constructor<;>omega) (wW x hx hg hv hvN hk m (j+1) r.2.2 c' l' O O (by rw [Nat.mul_add, ←Nat.add_assoc];exact g1))
  unfold pT mS
  refine aT (fun _=> ?_) fun _=>ab ⟨J,J,c,l,h.more O⟩
  obtain ⟨s1,s2⟩:=AV hN hv hvN O h
  refine Sat.bind ⟨_,s1,J⟩ fun w' hw'=> ?_
  have e:oA w (w.heap_.m_.Young.set i (fv c))=w':=hw';subst e;exact ab ⟨J,J,fv c,l,s2.more O⟩
theorem IJ {w:JL}{k:Nat}(hk:k≤1000)(hm:Mem w k)(hti:TI N w.shapes_)(htb:w.shapes_.shapes_.length≤k)(hrow:Row w.shapes_ 0 [])(hmade:0≤w.spent_.made_∧w.spent_.made_<w.config_.Made∧w.config_.Made≤1000000){p:JS}(hp:ec N w 2=some p)(hpk:p.Kind=7)(hpv:sW N p)(q:List JS)(hq:q.length≤100)(hqv: ∀x∈q,sW N x):Sat (mt N w q) fun r=>r.2.1=true∧r.1.Kind=7∧ ∃i c,r.1.N=2*(i:Nat)+1∧InvC N i (k+1) r.2.2 c []:=by
 have hrc:RC N ⟨2,0,1,0,[p],q⟩:=⟨.inr rfl,by show (0:Int)≤0;decide,⟨by show (0:Int)≤1;decide,by show (1:Int)≤63;decide⟩,.inl rfl,fun x hx=>by rw [List.mem_singleton.1 hx];exact hpv.2,fun x hx=>(hqv x hx).2,by show 1≤1025;decide,⟨p,rfl,.inr hpk⟩,by show q.length≤4096;omega,fun e=>by exact absurd e (by show¬(2:Int)=1;decide)⟩;have hgc:goodC ⟨2,0,1,0,[p],q⟩:=⟨by show 1≤5000;decide,by show q.length≤5000;omega,fun x hx=>by rw [List.mem_singleton.1 hx];exact hpv.1,fun x hx=>(hqv x hx).1⟩;have hlen:=hm.len;unfold mt iA fR;rw [hp,bs,J0 O,cf,show cg N w.heap_=some false from rfl,bs,cf,hrc.right hN,bs,nt,cf,sE N hgc,bs];rw [io (by unfold fA;rw [List.length_singleton];omega),io (by rw [List.length_append,List.length_singleton];constructor<;>omega),io (by rw [List.length_append,List.length_singleton];constructor<;>omega),bs];show Sat (Option.bind (cN _ _) _) _;rw [io (by constructor<;>omega),bs];refine ab ⟨J,J,w.heap_.m_.Young.length,⟨2,0,1,0,[p],q⟩,?_,⟨⟨hm.old,fun x hx=> ?_,?_⟩,hti,by show w.shapes_.shapes_.length≤k+1;omega,?_,hrc,hrow,rfl,by simp,by show aL .i64 1 16=0;decide+kernel,fun _ x hx=>by cases hx⟩⟩
 ·show 2*((((w.heap_.m_.Young++ [_]).length:Nat)):Int) - 1=_;rw [List.length_append,List.length_singleton];omega
 ·rcases List.mem_append.1 hx with hx|hx
  ·exact hm.good x hx
  rw [List.mem_singleton] at hx;subst hx;exact hgc
 ·show (w.heap_.m_.Young++ [_]).length≤k+1;rw [List.length_append,List.length_singleton];omega
 show (w.heap_.m_.Young++ [_])[w.heap_.m_.Young.length]? =_;simp
theorem It (a:Int):0≤aL .i64 a 15∧aL .i64 a 15≤15:=by
 have:=hN;have h:(BitVec.ofInt IntKind.i64.bits a&&&BitVec.ofInt IntKind.i64.bits 15).toNat≤15:=by
  rw [BitVec.toNat_and];exact Nat.and_le_right
 unfold aL;rw [IntWalk.i64_in _ ⟨by omega,by omega⟩];omega
def Ep (N:Nat)(r:JS×Bool×JL):Prop:=r.2.1=true∧ ∃i c l,r.1.Kind=7∧r.1.N=2*(i:Nat)+1∧InvC N i 50000000 r.2.2 c l
theorem Bf (x:JV)(hx:x.Props.length≤30)(hg: ∀p∈x.Props,rz N p){v:JS}{i:Nat}(hv:v.Kind=7)(hvN:v.N=2*i+1){k:Nat}(hk:k≤1000){w:JL}{c:JU}{l:List (JW×Int)}(h:InvC N i k w c l):Sat (kS N x v.Kind v.N v.S N 0 w.spent_.steps_ w.spent_.made_ w.spent_.calls_ w.config_.Way w.config_.Steps w.config_.Calls w.config_.Made w.config_.Young w.config_.Full w.config_.Sites w.symbols_ w.epoch_ w.serial_ w.sleepers_ w.events_ w.out_ w.heap_.m_.Young w.heap_.m_.Old w.heap_.roots_ w.heap_.pending_ w.shapes_.shapes_ w.shapes_.next_ w.heap_.set_.at_) (Ep N):=
 (wW hN x hx hg hv hvN hk N 0 w c l O O h).mono fun r hr=>by
  obtain ⟨h1,h2,c',l',h3⟩:=hr;exact ⟨h2,i,c',l',by rw [h1];exact hv,by rw [h1];exact hvN,h3.more O⟩
theorem Bg (x:JV)(hx:x.Props.length≤30)(hg: ∀p∈x.Props,rz N p)(y:JS×Bool×JL){k:Nat}(hk:k≤900)(hm:Mem y.2.2 k)(hti:TI N y.2.2.shapes_)(htb:y.2.2.shapes_.shapes_.length≤k)(hrow:Row y.2.2.shapes_ 0 [])(hmade:0≤y.2.2.spent_.made_∧y.2.2.spent_.made_<y.2.2.config_.Made∧y.2.2.config_.Made≤1000000){p:JS}(hp:ec N y.2.2 2=some p)(hpk:p.Kind=7)(hpv:sW N p): ∀(m j:Nat) (q:List JS),20<m+j→j≤15→q.length=j→(∀x∈q,sW N x)→Sat (nU N y x m q (j:Int)) (Ep N)
 |0,j,q,h0,h1,_,_=>by omega
 | m+1,j,q,h0,h1,h2,h3=>by
  have h15:=It hN x.Elements;rw [nU.eq_2]
  refine bf (fun hj=> ?_) fun hj=> ?_
  ·unfold lF;rw [bs];refine aP (by unfold fA;rw [List.length_singleton];omega) (aP (by constructor<;>omega) ?_)
   refine Bg x hx hg y hk hm hti htb hrow hmade hp hpk hpv m (j+1) _ O O (by rw [List.length_append,List.length_singleton];omega) fun z hz=> ?_
   rcases List.mem_append.1 hz with hz|hz
   ·exact h3 z hz
   rw [List.mem_singleton] at hz;subst hz;exact ⟨⟨by show _≤(j:Int);omega,by show (j:Int)≤_;omega⟩,Bb N O O⟩
  unfold pU
  refine (IJ hN O hm hti htb hrow hmade hp hpk hpv q O h3).bind fun r hr=> ?_
  obtain ⟨r1,r2,i,c,r3,r4⟩:=hr;unfold md;rw [r1,nt,cf];exact Bf hN x hx hg r2 r3 O r4
structure Fresh (N:Nat) (w0 w1:JL) (v:JS) (c:JU) (p:JS):Prop where
 made:nn N=some (.inr w0)
 new:mU N w0 ⟨1,0,⟨#[]⟩⟩ 1=some (v,true,w1)
 vk:v.Kind=7
 vn:v.N=2*(20:Nat)+1
 inv:InvC N 20 100 w1 c []
 row:Row w1.shapes_ 0 []
 bud:0≤w1.spent_.made_∧w1.spent_.made_<w1.config_.Made∧w1.config_.Made≤1000000
 prt:ec N w1 2=some p
 pk:p.Kind=7
 pv:sW N p
theorem DA {w0 w1:JL}{v:JS}{c:JU}{p:JS}(hf:Fresh N w0 w1 v c p)(x:JV)(hx:x.Props.length≤30)(hg: ∀p∈x.Props,rz N p):Sat (qK N w0 x) (Ep N):=by
 unfold qK;rw [hf.new,bs]
 refine aT (fun _=> ?_) fun _=> ?_
 ·exact Bg hN x hx hg (v,true,w1) (k:=100) O hf.inv.mem hf.inv.ti hf.inv.tb hf.row hf.bud hf.prt hf.pk hf.pv N 0 [] O O J (by simp)
 unfold md;show Sat (bif !true then _ else _) _;rw [nt,cf];exact Bf hN x hx hg hf.vk hf.vn O hf.inv
theorem EU {w0 w1:JL}{v:JS}{c:JU}{p:JS}(hf:Fresh N w0 w1 v c p)(hlv:il N=some true)(x:JV)(hx: ∀p∈x.Props,inP p):gm N x=some true:=by
 refine Sat.eq ?_;unfold gm;rw [hf.made,bs];show Sat (Option.bind (mc N x) _) _
 refine (Ac N hN x hx).bind fun b hb=>ew (fun _=> ?_) fun e=> ?_
 ·rw [hlv,bs];exact ab J
 obtain ⟨h1,h2⟩:=hb e
 refine (DA hN hf x h1 h2).bind fun r hr=> ?_
 obtain ⟨r1,i,c,l,r2,r3,r4⟩:=hr;rw [r1,nt,cf];exact vl hN hlv r r2 r3 O N 0 r.2.2 c l O O r4
end
end
section
open Go.RowKit
set_option maxRecDepth 20000
theorem Dz:il 20000=some true:=by kernel_rfl
def H3:JL:=match nn 20000 with
 |some (.inr w)=>w
 |_=>default
def w35b:JL:=match mU 20000 H3 ⟨1,0,⟨#[]⟩⟩ 1 with
 |some (_,_,w)=>w
 |_=>default
def Ao (c:JU):Bool:=Nat.ble c.Slots.length 5000&&Nat.ble c.More.length 5000&&c.Slots.all (fun x=>decide (-9223372036854775808≤x.N)&&decide (x.N≤9223372036854775807))&&c.More.all (fun x=>decide (-9223372036854775808≤x.N)&&decide (x.N≤9223372036854775807))
theorem CC {c:JU}(h:Ao c=true):goodC c:=by
 unfold Ao at h;simp only [Bool.and_eq_true,List.all_eq_true,decide_eq_true_eq] at h;exact ⟨Nat.le_of_ble_eq_true h.1.1.1,Nat.le_of_ble_eq_true h.1.1.2,h.1.2,h.2⟩
theorem Ez:(w35b.heap_.m_.Young.all Ao)=true:=by kernel_rfl
theorem Ey:w35b.heap_.m_.Young.length=21:=by kernel_rfl
theorem AJ:w35b.shapes_=⟨[⟨-1,⟨0,0,⟨#[]⟩⟩,0,0⟩],[]⟩:=by kernel_rfl
theorem Ja (N:Nat):TI N ⟨[⟨-1,⟨0,0,⟨#[]⟩⟩,0,0⟩],[]⟩:=by
 refine ⟨fun i s h=> ?_,fun k j h=>by cases h⟩;have hlt:=h.lt
 have:i=0:=by
  have h1:i<((1:Nat):Int):=hlt.2;have:=hlt.1;omega
 subst this;have:s=⟨-1,⟨0,0,⟨#[]⟩⟩,0,0⟩:=(Option.some.inj h.2).symm;subst this;exact ⟨by decide,by decide,fun h=>by exact absurd h (by decide)⟩
theorem E8:Fresh 20000 H3 w35b ⟨7,41,⟨#[]⟩⟩ ⟨1,0,1,0,[⟨1,0,⟨#[]⟩⟩],[]⟩ ⟨7,5,⟨#[]⟩⟩ where
 made:=by kernel_rfl
 new:=by kernel_rfl
 vk:=rfl
 vn:=rfl
 inv:=by
  have hrow:Row w35b.shapes_ 0 []:=by rw [AJ];exact .nil (s:=⟨-1,⟨0,0,⟨#[]⟩⟩,0,0⟩) ⟨by decide,rfl⟩ J
  refine ⟨⟨by kernel_rfl,fun x hx=>CC (List.all_eq_true.1 Ez x hx),by rw [Ey];decide⟩,by rw [AJ];exact Ja _,by rw [AJ];decide,by kernel_rfl,?_⟩;refine ⟨⟨.inl J,by decide,⟨by decide,by decide⟩,.inl rfl,fun x hx=> ?_,(fun x hx=>by cases hx),by show 1≤1025;decide,⟨_,rfl,.inl rfl⟩,by show 0≤4096;decide,fun _=>rfl⟩,hrow,J,by simp,by show aL .i64 1 16=0;decide+kernel,fun e=>by exact absurd e (by show¬(1:Int)=2;decide)⟩;rw [List.mem_singleton.1 hx];exact zn 20000 (.inr (.inl J))
 row:=by rw [AJ];exact .nil (s:=⟨-1,⟨0,0,⟨#[]⟩⟩,0,0⟩) ⟨by decide,rfl⟩ J
 bud:=by
  have h1:w35b.spent_.made_=1:=by kernel_rfl
  have h2:w35b.config_.Made=1000:=by kernel_rfl
  rw [h1,h2];decide
 prt:=by kernel_rfl
 pk:=rfl
 pv:=⟨⟨by decide,by decide⟩,by unfold oR;kernel_rfl⟩
theorem zg (x:JV)(hx: ∀p∈x.Props,inP p):gm 20000 x=some true:=EU (by decide) E8 Dz x hx
theorem Hf {p:JQ}(h:uL p):inP p:=by
 have hr:reachBytes≤140737488355328:=by decide
 obtain ⟨⟨-, -,h1⟩, -,⟨-,h2,h3⟩,⟨-,h4, -⟩,⟨-,h5, -⟩⟩:=h;exact ⟨h2,h4,h5,Nat.le_trans h1 hr,Nat.le_trans h3 hr⟩
theorem E6 {x:JV}(h:sZ x): ∀p∈x.Props,inP p:=fun p hp=>Hf (h.2.2.1.2 p hp)
open Go.ChangeShapes Go.WideShapes Go.ChangeAt Go.RowKit Go.Deep
theorem gHole:Tryz.prog.globalNamed "pantomime/array.hole" =some 0:=by kernel_rfl
theorem tHole:(Tryz.prog.globals[0]?).map (·.type)=some 30:=by kernel_rfl
set_option maxRecDepth 100000 in
theorem Cz {W:World}(h:laidMetH Tryz.prog [("pantomime/array.hole",Rows.laid_pantomime_array_hole)] W):(aU 0 30 [.int .i64 8,.int .i64 0,.string ⟨#[]⟩]).ok (fun _=>False) (fun q=>q<W.heap.size) W:=by
 rw [MakeChecks.laidMetH_plain _ _ _ V] at h;obtain ⟨ps,⟨g0,t0,cs0,f0,p0,q0,hg0,ht0,hv0,hd0, -⟩, -, -⟩:=h;obtain rfl:=Option.some.inj (gHole.symm.trans hg0);obtain rfl:=Option.some.inj (tHole.symm.trans ht0);obtain ⟨xs,m,rfl,hx,hl,hn,hf⟩:=DataW.trod_struct JD hd0
 have hc:Tryz.prog.cellsOf 30=3:=by kernel_rfl
 have z3:Tryz.prog.cellsOf 3=1:=by kernel_rfl
 have z9:Tryz.prog.cellsOf 9=1:=by kernel_rfl
 rw [hc] at hl;obtain ⟨l⟩:=cs0;have hn':xs.length=3:=hn
 match l,xs,hl,hn',hf,hv0,hx with
 | [c0,c1,c2],[x0,x1,x2],_,_,hf,hv0,hx=>
  have k0:DataW.trod (fun _=>()) Tryz.prog W 0 (fun _=>true) false m 3 (List.take (Tryz.prog.cellsOf 3) (List.drop 0 [c0,c1,c2]))=[x0,x1,x2][0]? :=hf 0 _ rfl;have k1:DataW.trod (fun _=>()) Tryz.prog W 0 (fun _=>true) false m 3 (List.take (Tryz.prog.cellsOf 3) (List.drop 1 [c0,c1,c2]))=[x0,x1,x2][1]? :=hf 1 _ rfl;have k2:DataW.trod (fun _=>()) Tryz.prog W 0 (fun _=>true) false m 9 (List.take (Tryz.prog.cellsOf 9) (List.drop 2 [c0,c1,c2]))=[x0,x1,x2][2]? :=hf 2 _ rfl;simp only [z3,z9,List.drop_succ_cons,List.drop_zero,List.take_succ_cons,List.take_zero,List.getElem?_cons_zero,List.getElem?_cons_succ] at k0 k1 k2;obtain ⟨n0,e0,d0, -⟩:=DataW.trod_int hJ k0;obtain ⟨n1,e1,d1, -⟩:=DataW.trod_int hJ k1;obtain ⟨s2,e2,d2, -⟩:=DataW.trod_string hH k2
  have hx':[(DataW.lit (.int .i64 8):DataW Unit),.lit (.int .i64 0),.lit (.string [])]=[x0.1,x1.1,x2.1]:=by
   have:=congrArg Prod.fst hx;exact DataW.agg.inj this
  rw [d0,d1,d2] at hx';simp only [List.cons.injEq,DataW.lit.injEq,Lit.int.injEq,Lit.string.injEq,and_true,true_and] at hx';obtain ⟨rfl,rfl,hs⟩:=hx';obtain rfl:=(List.cons.inj e0).1;obtain rfl:=(List.cons.inj e1).1;obtain rfl:=(List.cons.inj e2).1
  have hs2:s2=⟨#[]⟩:=by
   obtain ⟨⟨a⟩⟩:=s2;simp only at hs;rw [←hs]
  subst hs2;simp only [World.var?,gHole,Option.bind_some] at hv0;split at hv0
  ·rename_i cs t p hh
   obtain rfl:=ao hv0;have hr:RBlk W 0 #[.int .i64 8,.int .i64 0,.string ⟨#[]⟩]:=⟨t,p,hh⟩;exact ⟨hr.lt,hr⟩
  cases hv0
end
end Go.Proofs.YtanojiedimeegaaGreatDoor