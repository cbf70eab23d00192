/- Merged texts: part 11. No conditions of their own. -/
import Derived.Test.YtjmonlcchlkdhaaGreatG10
import Derived.KernelRfl
import Derived.Test.YtjmonlcchlkdhaaGreatG9
namespace Go.Proofs.YtjmonlcchlkdhaaGreat
section
open Go.RowKit
set_option maxRecDepth 20000
theorem Nn {a:Int}(h:1<=a):lf ⟨7,a,⟨#[]⟩⟩=true:=by
 have e:dp 0 ⟨7,a,⟨#[]⟩⟩=some (decide (1<=a)):=by
  unfold dp;kernel_rfl
 unfold lf;rw [e,TP h];rfl
theorem Ll {s:ByteArray}(h:s.size<=1000):lf ⟨5,0,s⟩=true:=by
 have e:dp 0 ⟨5,0,s⟩=some (decide ((s.size:Int)<=65536)):=by
  unfold dp;kernel_rfl
 unfold lf;rw [e,TP (p:=(s.size:Int)<=65536) V];rfl
def Bk (r:Int)(s:ByteArray):TB:=⟨1,1,9,0,[⟨7,r,⟨#[]⟩⟩,⟨5,0,s⟩],[]⟩
theorem Kk {r:Int}{s:ByteArray}(h1:1<=r)(h2:s.size<=1000):bx (Bk r s)=true:=by
 unfold Bk bx;simp only [List.all_nil,List.all_cons,Nn h1,Ll h2,Bool.and_true,Bool.true_and];rfl
def PJ (w:TC)(ev:List TG):TC:=⟨w.UA,w.Us,(),w.Uk,w.Un,w.UF,w.UO,w.UP,w.UQ,ev,w.UG⟩
theorem MP {N n:Nat}(hN:6500<N){A:Ab}{w:TC}(h:WA n A w)(hn:n<60)(why:Int)(ev:List TG)(hev:ev.length<=n+1){j:Nat}(hj:j<18):
  (A.cM<=A.made/\ ∃w',cD N why (PJ w ev) (j:Int)=some (⟨6,2,⟨0,0,⟨#[]⟩⟩⟩,w')/\WA (n+1) {A with log:=ev} w')\/
  (A.made<A.cM/\ ∃a w',cD N why (PJ w ev) (j:Int)=some (⟨1,0,⟨7,a,⟨#[]⟩⟩⟩,w')/\WA (n+1) {A with log:=ev,made:=A.made+1} w'/\ ∃r,aI N w' ⟨7,a,⟨#[]⟩⟩=some (Bk r (sG why))):=by
 have f:=h.fg.up;have hmd:=h.fg.md;obtain ⟨r,hr,hrh⟩:=h.wh.intr j hj;obtain ⟨w1,w2⟩:=zh N why;have hpos:=qb hrh;have hok:=Kk (r:=r) (s:=sG why) V w2;have hroot:bi N w.Uk (j:Int)=some ⟨7,r,⟨#[]⟩⟩:=xp N hr
 have hnx:cO N w.Un 0 (⟨1,0,(⟨#[109,101,115,115,97,103,101]⟩:ByteArray)⟩:TE) 5=some (1,0,Kw):=by
  rcases h.sh with e|e
  ·rw [e];exact KC hN
  rw [e];exact KB hN
 have h64r:in64 r:=h.wh.pl.hb.r64 _ (TT _ (List.mem_of_getElem? hr))
 have hv: ∀v∈(Bk r (sG why)).Uo++(Bk r (sG why)).Um,in64 v.N/\(bm v=true->aJ w.Uk.m_ v.N=true):=fun v hv=>by
  have hv':v∈[(⟨7,r,⟨#[]⟩⟩:Ty),⟨5,0,sG why⟩]:=by simpa [Bk] using hv
  simp only [List.mem_cons,List.not_mem_nil,or_false] at hv';rcases hv' with rfl|rfl
  ·exact ⟨h64r,fun _=>hrh⟩
  exact ⟨by show in64 0;decide,fun hb=>by cases hb⟩
 have hk:(Bk r (sG why)).Ui≠8/\(Bk r (sG why)).Ui≠10:=⟨by show¬(1:Int)=8;omega,by show¬(1:Int)=10;omega⟩;have hadd:=h.wh.add hn hok hk ⟨by show 2<=2;omega,by show 0<=40;omega⟩ hv;have em:=Ln hN h.wh.young (c:=Bk r (sG why)) ⟨by show 2<=600;omega,by show 0<=600;omega⟩ hok rfl
 have base:cD N why (PJ w ev) (j:Int)=(du N (⟨w.UA,w.Us,(),w.Uk,Kw,w.UF,w.UO,w.UP,w.UQ,ev,w.UG⟩:TC) (Bk r (sG why))).bind fun a6=>lz N a6.1.Ui a6.1.N a6.1.S a6.2.1 a6.2.2.UA.UV a6.2.2.UA.UT a6.2.2.UA.UU a6.2.2.Us.UD a6.2.2.Us.Uu a6.2.2.Us.Uq a6.2.2.Us.Ut a6.2.2.Us.Uj a6.2.2.Us.UC a6.2.2.Us.UE a6.2.2.UF a6.2.2.UO a6.2.2.UP a6.2.2.UQ a6.2.2.UH a6.2.2.UG a6.2.2.Uk.m_.Uj a6.2.2.Uk.m_.Ul a6.2.2.Uk.Ur a6.2.2.Uk.Uz a6.2.2.Un.Un a6.2.2.Un.UB a6.2.2.Uk.Uy.at_:=by
  unfold cD;have hnx':cO N (PJ w ev).Un 0 (⟨1,0,(⟨#[109,101,115,115,97,103,101]⟩:ByteArray)⟩:TE) 5=some (1,0,Kw):=hnx;have hroot':bi N (PJ w ev).Uk (j:Int)=some ⟨7,r,⟨#[]⟩⟩:=hroot;rw [hnx',bs];show (bif !decide ((0:Int)=0) then _ else _)=_;rw [TP (p:=(0:Int)=0) rfl,nt,cf,w1,bs,hroot',bs];rfl
 rw [base];unfold du;have hM:(⟨w.UA,w.Us,(),w.Uk,Kw,w.UF,w.UO,w.UP,w.UQ,ev,w.UG⟩:TC).Us.Ut=A.cM:=h.cM;have hm:(⟨w.UA,w.Us,(),w.Uk,Kw,w.UF,w.UO,w.UP,w.UQ,ev,w.UG⟩:TC).UA.UT=A.made:=h.md;rw [hM,hm];by_cases hc:A.cM<=A.made
 ·rw [TP hc,ct,bs];refine .inl ⟨hc,_,J,?_⟩;exact {h.up hn with sh:=.inr J,ev:=J,fg:=⟨f.st,f.md,f.cl,f.ep,f.se,f.sy,f.ou,hev⟩}
 rw [TQ hc,cf];show (A.cM<=A.made/\ ∃w',Option.bind (Option.bind (eF N w.Uk _) _) _=_/\_)\/(A.made<A.cM/\ ∃a w',Option.bind (Option.bind (eF N w.Uk _) _) _=_/\_);rw [em,bs];show (A.cM<=A.made/\ ∃w',Option.bind (bif !decide ((0:Int)=0) then _ else _) _=_/\_)\/(A.made<A.cM/\ ∃a w',Option.bind (bif !decide ((0:Int)=0) then _ else _) _=_/\_);rw [TP (p:=(0:Int)=0) rfl,nt,cf,r64 V V,bs];refine .inr ⟨by omega,_,_,rfl,?_,r,?_⟩
 ·exact {h.up hn with sh:=.inr J,ev:=J,md:=J,wh:=hadd,fg:=⟨f.st,by show 0<=A.made+1/\A.made+1<=_;omega,f.cl,f.ep,f.se,f.sy,f.ou,hev⟩}
 obtain ⟨a1,a2,a3,a4⟩:=Hg (m:=w.Uk.m_) (Bk r (sG why));have hs:=hadd.pl.hb.small;have e:=py (N:=N) (w:=Jt w (If w.Uk (Bk r (sG why)))) hs.cells (v:=⟨7,2*(w.Uk.m_.Uj.length:Int)+1,⟨#[]⟩⟩) rfl (uW hs a2) a2;exact e.trans (congrArg some a3)
set_option maxRecDepth 20000
def ts (a b:Int):ByteArray:=bif !decide (b=0) then va a++((⟨#[58,32]⟩:ByteArray)++sG b) else va a
def FV (a b:Int):TG:=⟨10,⟨0,0,⟨#[]⟩⟩,ts a b⟩
def IH (A:Ab)(x:Int):ByteArray:=bif decide (x=1) then ⟨#[83,121,109,98,111,108,46,105,116,101,114,97,116,111,114]⟩ else (bif decide (x=2) then ⟨#[83,121,109,98,111,108,46,116,111,80,114,105,109,105,116,105,118,101]⟩ else (bif decide (x<3) then ⟨#[]⟩ else (bif decide ((A.syms.length:Int)<=x - 3) then ⟨#[]⟩ else A.syms.getD (x - 3).toNat ⟨#[]⟩)))
section
variable {N n:Nat} {A:Ab} {w:TC} (hN:6500<N) (h:WA n A w) (hn:n<60)
include hN h hn
omit hN in
theorem Pi (a b:Int)(s:ByteArray): ∃j:Nat,j<18/\eg N a b w s=cD N b (PJ w (A.log++ [⟨10,⟨0,0,⟨#[]⟩⟩,s⟩])) (j:Int):=by
 have hev:=h.fg.ev;unfold eg dU;rw [h.ev,rF (by simp only [List.length_cons,List.length_nil];omega),bs];by_cases h0:0<=a
 ·by_cases h1:a<=3
  ·rw [TP h0,TP h1,ct,bs,ct,r64 V V];refine ⟨(5+a).toNat,by omega,?_⟩;rw [show ((5+a).toNat:Int)=5+a by omega];rfl
  rw [TP h0,TQ h1,ct,bs,cf];exact ⟨5,by omega,rfl⟩
 rw [TQ h0,cf,bs,cf];exact ⟨5,by omega,rfl⟩
theorem OT (a b:Int):
  (A.cM<=A.made/\ ∃w',dI N w a b=some (⟨6,2,⟨0,0,⟨#[]⟩⟩⟩,w')/\WA (n+1) {A with log:=A.log++ [FV a b]} w')\/
  (A.made<A.cM/\ ∃p w',dI N w a b=some (⟨1,0,⟨7,p,⟨#[]⟩⟩⟩,w')/\WA (n+1) {A with log:=A.log++ [FV a b],made:=A.made+1} w'/\ ∃r,aI N w' ⟨7,p,⟨#[]⟩⟩=some (Bk r (sG b))):=by
 have hev:=h.fg.ev;obtain ⟨f1,f2⟩:=yW N a;obtain ⟨w1,w2⟩:=zh N b
 have e:dI N w a b=eg N a b w (ts a b):=by
  unfold dI ts;rw [f1,bs]
  cases hb:!decide (b=0) with
  |false=>rw [cf,cf]
  |true=>
   rw [ct,ct,w1,bs,dE (by show 2+_<=_;omega),dE (by rw [ByteArray.size_append];show _+(2+_)<=_;omega)]
 obtain ⟨j,hj,e2⟩:=Pi h hn a b (ts a b) (N:=N);rw [e,e2];exact MP hN h hn b _ (by simp;omega) hj
end
theorem P4 {N n:Nat}{A:Ab}{w:TC}(h:WA n A w){x:Int}(h64:in64 x):fT N w ⟨6,x,⟨#[]⟩⟩=some (IH A x):=by
 unfold in64 at h64;unfold fT IH;rw [TP (p:=(6:Int)=6) rfl,nt,cf,h.sy]
 dsimp only
 by_cases c1:x=1
 ·rw [TP c1,ct,ct]
 rw [TQ c1,cf,cf];by_cases c2:x=2
 ·rw [TP c2,ct,ct]
 rw [TQ c2,cf,cf];by_cases c3:x<3
 ·rw [TP c3,ct,ct,bs,ct]
 rw [TQ c3,cf,cf,dE (show in64 (x - 3) by unfold in64;omega),bs];by_cases c4:(A.syms.length:Int)<=x - 3
 ·rw [TP c4,ct,ct]
 rw [TQ c4,cf,cf,dE (show in64 (x - 3) by unfold in64;omega)]
 have hi:(x - 3).toNat<A.syms.length:=by omega
 have e:=aL hi;rw [show ((x - 3).toNat:Int)=x - 3 by omega] at e;rw [e,bs,List.getD_eq_getElem?_getD,List.getElem?_eq_getElem hi];rfl
theorem G1 {N:Nat}{w:TC}{x:Tp}(hl:x.L.length<=40): ∀(m i:Nat) (acc:List Ty),x.L.length<m+i->i<=x.L.length->acc.length<=i->pB N w x m acc (i:Int)=pC N w (acc++(x.L.drop i).map kj)
 |0,i,acc,h1,h2,h3=>by omega
 | m+1,i,acc,h1,h2,h3=>by
  rw [pB.eq_2];rcases Nat.lt_or_ge i x.L.length with hi|hi
  ·rw [cu V,ct,aL hi,bs,rF (by simp only [List.length_cons,List.length_nil];omega),r64 V V];have:=G1 (w:=w) (N:=N) hl m (i+1) (acc++ [kj x.L[i]]) V hi (by simp;omega);rw [TS] at this;refine Eq.trans this ?_;rw [List.drop_eq_getElem_cons hi];rfl
  obtain rfl:i=x.L.length:=by omega
  rw [cn V,cf,List.drop_length,List.map_nil,List.append_nil]
theorem DL {N:Nat}{w:TC}{l:List Int}{b:Bool}(hl:l.length<=60): ∀(m i:Nat) (acc:List Int),l.length<m+i->i<=l.length->acc.length<=i->pA N (l.map kj,b,w) m (i:Int) acc=some (⟨b,0,⟨#[]⟩,⟨0,0,⟨0,0,⟨#[]⟩⟩⟩,acc++l.drop i⟩,w)
 |0,i,acc,h1,h2,h3=>by omega
 | m+1,i,acc,h1,h2,h3=>by
  rw [pA.eq_2]
  dsimp only
  rw [Ud];rcases Nat.lt_or_ge i l.length with hi|hi
  ·have e:aw (l.map kj) (i:Int)=some (kj l[i]):=by
    rw [aL (by rw [Ud];exact hi),List.getElem_map]
   rw [cu V,ct,e,bs,rF (by simp only [List.length_cons,List.length_nil];omega),r64 V V];have:=DL (w:=w) (N:=N) (b:=b) hl m (i+1) (acc++ [l[i]]) V hi (by simp;omega);rw [TS] at this;refine Eq.trans this ?_;rw [List.drop_eq_getElem_cons hi];rfl
  obtain rfl:i=l.length:=by omega
  rw [cn V,cf,List.drop_length,List.append_nil];rfl
def QF (x:Tp):Prop:=x.L.length<=40/\ ∀y∈x.L, -9007199254740992<=y/\y<=9007199254740992
theorem Cz {N:Nat}{x:Tp}(hl:x.L.length<=8000000000000000000): ∀m i:Nat,x.L.length<m+i->i<=x.L.length-> ∃b,qR N x m (i:Int)=some b/\(b=true->x.L.length<=40/\ ∀y∈x.L.drop i, -9007199254740992<=y/\y<=9007199254740992)
 |0,i,h1,h2=>by omega
 | m+1,i,h1,h2=>by
  rw [qR.eq_2];rcases Nat.lt_or_ge i x.L.length with hi|hi
  ·rw [cu V,ct,aL hi,bs,bs];by_cases c1:x.L[i]< -9007199254740992
   ·rw [TP c1,ct,bs,ct];exact ⟨false,J,fun h=>by cases h⟩
   by_cases c2:9007199254740992<x.L[i]
   ·rw [TQ c1,TP c2,cf,bs,ct];exact ⟨false,J,fun h=>by cases h⟩
   rw [TQ c1,TQ c2,cf,bs,cf,r64 V V];obtain ⟨b,e,hb⟩:=Cz (N:=N) hl m (i+1) V hi;refine ⟨b,e,fun h=>⟨(hb h).1,fun y hy=> ?_⟩⟩;rw [List.drop_eq_getElem_cons hi] at hy;rcases List.mem_cons.1 hy with rfl|hy
   ·omega
   exact (hb h).2 y hy
  obtain rfl:i=x.L.length:=by omega
  rw [cn V,cf];refine ⟨_,J,fun h=>⟨?_,fun y hy=> ?_⟩⟩
  ·have:=of_decide_eq_true h;omega
  rw [List.drop_length] at hy;cases hy
theorem Hp {N:Nat}{x:Tp}(hl:x.L.length<N)(h9:x.L.length<=8000000000000000000): ∃b,sM N x=some b/\(b=true->QF x):=by
 obtain ⟨b,e,hb⟩:=Cz (N:=N) (x:=x) h9 N 0 V V;exact ⟨b,e,fun h=>by have:=hb h;rw [List.drop_zero] at this;exact this⟩
end
section
open Go.RowKit
set_option maxRecDepth 20000
def Qz:TJ:=⟨0,0,⟨0,0,⟨#[]⟩⟩⟩
def qD (b:Bool):TF:=⟨b,0,⟨#[]⟩,Qz,[]⟩
def KA (x:Int):TF:=⟨false,x,⟨#[]⟩,Qz,[]⟩
def PO (s:ByteArray):TF:=⟨false,0,s,Qz,[]⟩
def rE (A:Ab)(x:Tp):Ab×TF:=
 bif decide (x.Ui=6) then ({A with out:=A.out++ [x.S],log:=A.log++ [⟨1,⟨0,0,⟨#[]⟩⟩,x.S⟩]},qD false)
 else bif decide (x.Ui=7) then ({A with log:=A.log++ [⟨x.N,⟨0,0,⟨#[]⟩⟩,x.S⟩]},qD false)
 else bif decide (x.Ui=8) then (bif decide (A.cM<=A.made) then ({A with log:=A.log++ [FV x.N x.M]},⟨false,0,⟨#[]⟩,⟨6,2,⟨0,0,⟨#[]⟩⟩⟩,[]⟩) else ({A with log:=A.log++ [FV x.N x.M],made:=A.made+1},⟨false,0,sG x.M,⟨1,0,⟨0,0,⟨#[]⟩⟩⟩,[]⟩))
 else bif decide (x.Ui=10) then ({A with jobs:=A.jobs++ [x.L]},qD false)
 else bif decide (x.Ui=11) then (match A.jobs with
  | []=>(A,qD false)
  |l::js=>({A with jobs:=js},⟨true,0,⟨#[]⟩,Qz,l⟩))
 else bif decide (x.Ui=15) then (A,qD false)
 else bif decide (x.Ui=16) then (A,qD false)
 else bif decide (x.Ui=17) then (A,PO (IH A x.N))
 else (A,qD false)
def vY (A:Ab)(x:Tp):Ab×TF:=
 bif decide (x.Ui=0) then (bif decide (A.cS<=A.steps) then A else {A with steps:=A.steps+1},qD (!decide (A.cS<=A.steps)))
 else bif decide (x.Ui=1) then (bif decide (A.cC<=A.calls) then A else {A with calls:=A.calls+1},qD (!decide (A.cC<=A.calls)))
 else bif decide (x.Ui=2) then (bif decide (0<A.calls) then {A with calls:=A.calls - 1} else A,qD false)
 else bif decide (x.Ui=3) then (bif decide (A.cM<=A.made) then A else {A with made:=A.made+1},qD (!decide (A.cM<=A.made)))
 else bif decide (x.Ui=4) then ({A with syms:=A.syms++ [x.S]},KA ((A.syms.length:Int)+3))
 else bif decide (x.Ui=5) then ({A with epoch:=A.epoch+1},qD false)
 else bif decide (x.Ui=9) then ({A with sleep:=IntKind.i64.wrap (A.sleep+x.N)},qD false)
 else bif decide (x.Ui=12) then ({A with serial:=A.serial+1},KA (A.serial+1))
 else bif decide (x.Ui=13) then ({A with roots:=A.roots+1},KA A.roots)
 else bif decide (x.Ui=14) then ({A with roots:=bif decide (max x.N 20<A.roots) then max x.N 20 else A.roots},qD false)
 else rE A x
section
variable {N n:Nat} {A:Ab} {w:TC} (hN:6500<N) (h:WA n A w) (hn:n<60) {x:Tp} (hN64:in64 x.N) (hL:QF x)
include hN h hn hN64 hL
theorem Nk: ∃w',uB N w x=some ((rE A x).2,w')/\WA (n+1) (rE A x).1 w':=by
 unfold uB rE;by_cases k:x.Ui=6
 ·rw [TP k,ct,ct];obtain ⟨w',e,r⟩:=O0 h hn N x.S;rw [e,bs];exact ⟨w',J,r⟩
 rw [TQ k,cf,cf];clear k;by_cases k:x.Ui=7
 ·rw [TP k,ct,ct];obtain ⟨w',e,r⟩:=Q0 h hn N ⟨x.N,⟨0,0,⟨#[]⟩⟩,x.S⟩;rw [e,bs];exact ⟨w',J,r⟩
 rw [TQ k,cf,cf];clear k;by_cases k:x.Ui=8
 ·rw [TP k,ct,ct];rcases OT hN h hn x.N x.M with ⟨hc,w',e,r⟩|⟨hc,p,w',e,r,q,ec⟩
  ·rw [e,bs,TP hc,ct];exact ⟨w',J,r⟩
  rw [e,bs,TQ (p:=A.cM<=A.made) V,cf]
  dsimp only
  rw [TP (p:=(1:Int)=1) rfl,ct,ec,bs];exact ⟨w',J,r⟩
 rw [TQ k,cf,cf];clear k;by_cases k:x.Ui=10
 ·rw [TP k,ct,ct];obtain ⟨w',e,r⟩:=Mb hN h hn hL.1 hL.2;have e0:=G1 (N:=N) (w:=w) hL.1 N 0 [] (by have:=hL.1;omega) V (by simp);rw [Ug,List.drop_zero] at e0;rw [show ((0:Nat):Int)=0 from rfl] at e0;rw [e0];unfold pC;rw [e,bs];exact ⟨w',J,r⟩
 rw [TQ k,cf,cf];clear k;by_cases k:x.Ui=11
 ·rw [TP k,ct,ct];rcases Md hN h hn with ⟨hj,e⟩|⟨l,js,hj,w',e,r⟩
  ·rw [e,bs,hj];have e0:=DL (N:=N) (w:=w) (l:=[]) (b:=false) (by simp) N 0 [] (by simp;omega) (by simp) (by simp);exact ⟨w,e0,h.up hn⟩
  have hl:l.length<=60:=by
   obtain ⟨q,k,qa,ka,Q,K,kl,b⟩:=h.wh.box;obtain ⟨v,hv⟩: ∃v,Q[0]? =some v:=⟨_,List.getElem?_eq_getElem (by have:=b.ql;rw [hj,List.length_cons] at this;omega)⟩;obtain ⟨a,ag, -,g2, -, -,g5⟩:=b.job 0 v l hv (by rw [hj];rfl);have:=(h.wh.bd.cells _ (eJ g2)).2;rw [g5] at this;simpa using this
  rw [e,bs,hj];have e0:=DL (N:=N) (w:=w') (l:=l) (b:=true) hl N 0 [] V (by simp) (by simp);rw [Ug,List.drop_zero] at e0;exact ⟨w',e0,r⟩
 rw [TQ k,cf,cf];clear k;by_cases k:x.Ui=15
 ·rw [TP k,ct,ct];obtain ⟨w',e,r, -⟩:=OF hN h hn (c:=⟨11,0,0,0,[],[]⟩) (by rw [sE V V];rfl) rfl ⟨by show¬(11:Int)=8;omega,by show¬(11:Int)=10;omega⟩ ⟨by show 0<=2;omega,by show 0<=40;omega⟩ (fun v hv=>by simp at hv);have eb:AE N=some ⟨11,0,0,0,[],[]⟩:=rfl;rw [eb,bs,e,bs];exact ⟨w',J,r⟩
 rw [TQ k,cf,cf];clear k;by_cases k:x.Ui=16
 ·rw [TP k,ct,ct];obtain ⟨w',e,r⟩:=P9 hN h hn hN64;have e':iJ N w ⟨3,x.N,⟨#[]⟩⟩=some w':=e;rw [e',bs];exact ⟨w',J,r⟩
 rw [TQ k,cf,cf];clear k;by_cases k:x.Ui=17
 ·rw [TP k,ct,ct,P4 h hN64,bs];exact ⟨w,J,h.up hn⟩
 rw [TQ k,cf,cf];exact ⟨w,J,h.up hn⟩
theorem Qj: ∃w',vV N w x=some ((vY A x).2,w')/\WA (n+1) (vY A x).1 w':=by
 unfold vV vY;by_cases k:x.Ui=0
 ·rw [TP k,ct,ct];obtain ⟨w',e,r⟩:=PQ hN h hn;rw [e,bs];exact ⟨w',J,r⟩
 rw [TQ k,cf,cf];clear k;by_cases k:x.Ui=1
 ·rw [TP k,ct,ct];obtain ⟨w',e,r⟩:=Pp h hn N;rw [e,bs];exact ⟨w',J,r⟩
 rw [TQ k,cf,cf];clear k;by_cases k:x.Ui=2
 ·rw [TP k,ct,ct];obtain ⟨w',e,r⟩:=Ph h hn N;rw [e,bs];exact ⟨w',J,r⟩
 rw [TQ k,cf,cf];clear k;by_cases k:x.Ui=3
 ·rw [TP k,ct,ct];have et:vU N=some ⟨1,0,1,0,[⟨1,0,⟨#[]⟩⟩],[]⟩:=rfl;rw [et,bs]
  have hm:bx ⟨1,0,1,0,[⟨1,0,⟨#[]⟩⟩],[]⟩=true:=by kernel_rfl
  rcases P6 hN h hn (c:=⟨1,0,1,0,[⟨1,0,⟨#[]⟩⟩],[]⟩) hm rfl ⟨by show¬(1:Int)=8;omega,by show¬(1:Int)=10;omega⟩ ⟨by show 1<=2;omega,by show 0<=40;omega⟩ (fun v hv=>by
   obtain rfl:v=⟨1,0,⟨#[]⟩⟩:=by simpa using hv
   exact ⟨by show in64 0;decide,fun hb=>by cases hb⟩) with ⟨hc,e⟩|⟨hc,w',e,r, -⟩
  ·rw [e,bs,TP hc,ct];exact ⟨w,J,h.up hn⟩
  rw [e,bs,TQ (p:=A.cM<=A.made) V,cf];exact ⟨w',J,r⟩
 rw [TQ k,cf,cf];clear k;by_cases k:x.Ui=4
 ·rw [TP k,ct,ct];obtain ⟨w',e,r⟩:=MQ h hn N x.S;rw [e,bs];exact ⟨w',J,r⟩
 rw [TQ k,cf,cf];clear k;by_cases k:x.Ui=5
 ·rw [TP k,ct,ct];obtain ⟨w',e,r⟩:=OS h hn N;rw [e,bs];exact ⟨w',J,r⟩
 rw [TQ k,cf,cf];clear k;by_cases k:x.Ui=9
 ·rw [TP k,ct,ct];obtain ⟨w',e,r⟩:=Ou h hn N x.N;rw [e,bs];exact ⟨w',J,r⟩
 rw [TQ k,cf,cf];clear k;by_cases k:x.Ui=12
 ·rw [TP k,ct,ct];obtain ⟨w',e,r⟩:=MV h hn N;rw [e,bs];exact ⟨w',J,r⟩
 rw [TQ k,cf,cf];clear k;by_cases k:x.Ui=13
 ·rw [TP k,ct,ct];obtain ⟨w',e,r⟩:=PX h hn N (v:=⟨3,x.N,⟨#[]⟩⟩) rfl hN64;rw [e,bs];exact ⟨w',J,r⟩
 rw [TQ k,cf,cf];clear k;by_cases k:x.Ui=14
 ·rw [TP k,ct,ct];obtain ⟨w',e,r⟩:=Qn hN h hn x.N;rw [e,bs];exact ⟨w',J,r⟩
 rw [TQ k,cf,cf];obtain ⟨w',e,r⟩:=Nk hN h hn hN64 hL;rw [e,bs];exact ⟨w',J,r⟩
end
end
section
open Go.RowKit
set_option maxRecDepth 20000
def KR (n:Nat):Nat ⊕ Ty:=if n=0 then .inr ⟨1,0,⟨#[]⟩⟩ else if n=6\/n=7\/n=8 then .inl 5 else if n=4\/n=16 then .inl 3 else .inl 0
def T0:List Tm:=(List.range 18).map (fun n=>⟨7,1,if n=17 then 1 else 17,[KR n],[]⟩)++ [⟨9,11,0,[],[]⟩,⟨9,11,0,[],[]⟩]
def SA (x:Int):Tm:=⟨9,11,0,[],[⟨3,x,⟨#[]⟩⟩]⟩
def QV (g:TI)(T:List Tm):Bool:=decide (g.Ur.length=T.length)&&(List.range T.length).all fun j=>match T[j]?,g.Ur[j]? with
 |some t,some v=>decide (v.Ui=t.k)&&decide (v.S=⟨#[]⟩)&&aJ g.m_ v.N&&decide (bw g.m_ v.N=Rz g.Ur t (bw g.m_ v.N).Ux)
 |_,_=>false
theorem OY {g:TI}{T:List Tm}(h:QV g T=true):RT g T:=by
 unfold QV at h;rw [Uf,decide_eq_true_eq,List.all_eq_true] at h;refine ⟨h.1,fun j t ht=> ?_⟩;have hj:j<T.length:=(List.getElem?_eq_some_iff.1 ht).1;have h2:=h.2 j (List.mem_range.2 hj);obtain ⟨v,hr⟩: ∃v,g.Ur[j]? =some v:=⟨_,List.getElem?_eq_getElem (by rw [h.1];exact hj)⟩;rw [ht,hr] at h2;obtain ⟨vk,vn,vs⟩:=v;simp only [Uf,decide_eq_true_eq] at h2;obtain ⟨⟨⟨a1,a2⟩,a3⟩,a4⟩:=h2;exact ⟨vn,_,by rw [hr,a1,a2],a3,a4⟩
def QQ (T:List Tm):Bool:=T.all fun t=>(decide (t.k=7)||decide (t.k=9))&&t.sl.all (fun x=>match x with| .inl i=>decide (i<T.length)| .inr v=> !bm v)&&t.mo.all fun v=> !bm v
theorem PP {T:List Tm}(h:QQ T=true):TmOk T:=by
 unfold QQ at h;rw [List.all_eq_true] at h
 have key: ∀t∈T,(t.k=7\/t.k=9)/\(∀x∈t.sl,(match x with| .inl i=>decide (i<T.length)| .inr v=> !bm v)=true)/\ ∀v∈t.mo,(!bm v)=true:=fun t ht=>by
  have:=h t ht;rw [Uf,Uf,Bool.or_eq_true,decide_eq_true_eq,decide_eq_true_eq,List.all_eq_true,List.all_eq_true] at this;exact ⟨this.1.1,this.1.2,this.2⟩
 refine ⟨fun t ht=>(key t ht).1,fun t ht i hi=> ?_,fun t ht v hv=> ?_⟩
 ·have:=(key t ht).2.1 _ hi;exact of_decide_eq_true this
 rcases hv with hv|hv
 ·have:=(key t ht).2.1 _ hv
  cases hb:bm v with
  |false=>rfl
  |true=>rw [show (match (Sum.inr v:Nat ⊕ Ty) with| .inl i=>decide (i<T.length)| .inr v=> !bm v)=!bm v from rfl,hb] at this;cases this
 have:=(key t ht).2.2 _ hv
 cases hb:bm v with
 |false=>rfl
 |true=>rw [hb] at this;cases this
def GI (v:Ty):Bool:=decide (-9223372036854775808<=v.N)&&decide (v.N<=9223372036854775807)
theorem Ly {v:Ty}(h:GI v=true):in64 v.N:=by
 unfold GI at h;rw [Uf,decide_eq_true_eq,decide_eq_true_eq] at h;exact h
def RM (g:TI)(c:TB):Bool:=decide (c.Uo.length<=1)&&(decide (c.Um.length<=1)&&(bx c&&((bZ c).all (aJ g.m_)&&(!decide (c.Ui=8)&&(!decide (c.Ui=10)&&(c.Uo++c.Um).all GI)))))
def QT (n:Nat)(g:TI)(T:List Tm):Bool:=
 decide (g.m_.Uj.length+g.m_.Ul.length<=n)&&(decide (g.Ur.length<=n)&&(g.Uz.isEmpty&&(decide (g.Uy.at_.map Prod.fst=ko g.m_)&&((g.m_.Uj++g.m_.Ul).all (RM g)&&(g.Ur.all GI&&((bN g.Ur).all (aJ g.m_)&&(QV g T&&QQ T)))))))
theorem OD {n:Nat}(hn:n<=70){g:TI}{T:List Tm}(h:QT n g T=true):RW n g T:=by
 unfold QT at h;simp only [Uf,decide_eq_true_eq,List.all_eq_true,List.isEmpty_iff] at h;obtain ⟨h1,h2,h3,h4,h5,h6,h7,h8,h9⟩:=h
 have hc: ∀c∈g.m_.Uj++g.m_.Ul,c.Uo.length<=1/\c.Um.length<=1/\bx c=true/\(∀x∈bZ c,aJ g.m_ x=true)/\c.Ui≠8/\c.Ui≠10/\ ∀v∈c.Uo++c.Um,GI v=true:=fun c hc=>by
  have:=h5 c hc;unfold RM at this;simpa only [Uf,decide_eq_true_eq,List.all_eq_true,Bool.not_eq_true',decide_eq_false_iff_not] using this
 have sm:Sm n g:=⟨h1,h2,fun c h=>⟨(hc c h).1,(hc c h).2.1⟩⟩;obtain ⟨n1,n2⟩:=GF h4;exact ⟨hn,sm,⟨Qc hn sm h3 (fun c h v hv=>Ly ((hc c h).2.2.2.2.2.2 v hv)) (fun v hv=>Ly (h6 v hv)) n1 n2,h3,fun c h=>⟨(hc c h).2.2.1,(hc c h).2.2.2.1,(hc c h).2.2.2.2.1,(hc c h).2.2.2.2.2.1⟩,h7,PS h4⟩,OY h8,PP h9⟩
def gN0:TI:=match jo 7000 (⟨0,100,1,40,0,0,0⟩:Tx) with
 |some (.inr w)=>w.1.Uk
 |_=>⟨⟨[],[]⟩,[],[],⟨[]⟩⟩
theorem Lz:QT 20 gN0 T0=true:=by kernel_rfl
set_option maxRecDepth 20000
theorem O9 (M a b c d e f g:Int)(K:Nat)(h:jD (K+64) (⟨a,b,c,d,e,f,g⟩:Tx)=some true):jo (K+64) (⟨a,b,c,d,e,f,g⟩:Tx)=some (.inr ((⟨⟨0,0,0⟩,⟨a,b,c,d,e,f,g⟩,(),gN0,OW,[],0,0,0,[],[]⟩:TC),0)):=by
 unfold jo;rw [h,bs,nt,cf];kernel_rfl
def w0 (c:Tx):TC:=⟨⟨0,0,0⟩,c,(),gN0,OW,[],0,0,0,[],[]⟩
theorem O8 {N:Nat}(hN:6500<N){c:Tx}(h:jD N c=some true):jo N c=some (.inr (w0 c,0)):=by
 obtain ⟨K,rfl⟩: ∃K,N=K+64:=⟨N - 64,by omega⟩;obtain ⟨a,b,c,d,e,f,g⟩:=c;exact O9 0 a b c d e f g K h
theorem Ny:mS gN0.m_.Uj+mS gN0.m_.Ul=0:=by kernel_rfl
theorem Pk:gN0.Ur[18]? ≠gN0.Ur[19]? :=by
 have h:decide (gN0.Ur[18]? =gN0.Ur[19]?)=false:=by kernel_rfl
 exact of_decide_eq_false h
theorem R7:WH 0 [] gN0:=by
 have r:=OD V Lz;have hl:gN0.Ur.length=20:=r.rt.len;obtain ⟨q,qa,q1,q2,q3⟩:=r.rt.at_ 18 ⟨9,11,0,[],[]⟩ rfl;obtain ⟨k,ka,k1,k2,k3⟩:=r.rt.at_ 19 ⟨9,11,0,[],[]⟩ rfl;refine ⟨by omega,⟨by have:=r.sm.cnt;omega,by omega,fun c hc=>by have:=r.sm.cells c hc;omega,by rw [Ny];omega⟩,r.pl,by omega,fun j hj=> ?_,fun j v hj hv=> ?_,⟨q,k,qa,ka,[],[],by simp,q1,k1,fun e=>Pk ?_,q2,k2,q3,k3,fun v hv=>(List.not_mem_nil hv).elim,rfl,fun i v l h1 _=>by cases h1⟩,by simp⟩
 ·have ht:T0[j]? =some ⟨7,1,if j=17 then 1 else 17,[KR j],[]⟩:=by
   unfold T0;rw [List.getElem?_append_left (by simp;omega),List.getElem?_map,List.getElem?_range hj];rfl
  obtain ⟨a,ag,h1,h2, -⟩:=r.rt.at_ j _ ht;exact ⟨a,h1,h2⟩
 ·have:=(List.getElem?_eq_some_iff.1 hv).1;omega
 rw [q1,k1,e]
def A0 (c:Tx):Ab:=⟨c.Uu,c.Uq,c.Ut,0,0,0,0,0,0,20,[],[],[],[]⟩
theorem R8 (c:Tx):WA 0 (A0 c) (w0 c):=by
 have r:=OD V Lz;have hl:gN0.Ur.length=20:=r.rt.len;exact ⟨J,J,J,J,J,J,J,J,J,J,J,J,by show (gN0.Ur.length:Int)=20;rw [hl];rfl,.inl rfl,R7,⟨⟨by show (0:Int)<=0;omega,by show (0:Int)<=0;omega⟩,⟨by show (0:Int)<=0;omega,by show (0:Int)<=0;omega⟩,⟨by show (0:Int)<=0;omega,by show (0:Int)<=0;omega⟩,⟨by show (0:Int)<=0;omega,by show (0:Int)<=0;omega⟩,⟨by show (0:Int)<=0;omega,by show (0:Int)<=0;omega⟩,by show 0<=0;omega,by show 0<=0;omega,by show 0<=0;omega⟩⟩
theorem EK {N:Nat}(l:List Int)(hl:l.length<=8000000000000000000): ∀m i:Nat,l.length<m+i->i<=l.length->sN N l l m (i:Int)=some true
 |0,i,h1,h2=>by omega
 | m+1,i,h1,h2=>by
  rw [sN.eq_2];rcases Nat.lt_or_ge i l.length with hi|hi
  ·rw [cu V,ct,aL hi,bs,bs,TP (p:=l[i]=l[i]) rfl,nt,cf,r64 V V];exact EK l hl m (i+1) V hi
  rw [cn V,cf];rfl
theorem Ju {N:Nat}(t:TF)(hl:t.L.length<=8000000000000000000)(hN:t.L.length<N):ry N t t=some true:=by
 unfold ry yw;rw [beq_self_eq_true,ct,TP (p:=t.N=t.N) rfl,bs,ct,beq_self_eq_true,bs,ct,TP (p:=t.UN=t.UN) rfl,bs,ct,TP (p:=(t.L.length:Int)=(t.L.length:Int)) rfl,nt,cf];have:=EK (N:=N) t.L hl N 0 V V;rw [show ((0:Nat):Int)=0 from rfl] at this;rw [this];rfl
def LQ (A:Ab)(p:Ab×TF):Prop:=p.2.L=[]\/p.2.L∈A.jobs
theorem FC {A:Ab}{c:Bool}{a b:Ab×TF}(ha:LQ A a)(hb:LQ A b):LQ A (bif c then a else b):=by
 cases c
 ·exact hb
 exact ha
theorem OX (A:Ab)(x:Tp):LQ A (vY A x):=by
 unfold vY;refine FC (.inl J) (FC (.inl J) (FC (.inl J) (FC (.inl J) (FC (.inl J) (FC (.inl J) (FC (.inl J) (FC (.inl J) (FC (.inl J) (FC (.inl J) ?_)))))))));unfold rE;refine FC (.inl J) (FC (.inl J) (FC (FC (.inl J) (.inl J)) (FC (.inl J) (FC ?_ (FC (.inl J) (FC (.inl J) (FC (.inl J) (.inl J))))))))
 cases hj:A.jobs with
 |nil=>exact .inl rfl
 |cons l js=>exact .inr (by rw [hj];exact List.mem_cons_self ..)
theorem WA.jobL {n:Nat}{A:Ab}{w:TC}(h:WA n A w){l:List Int}(hl:l∈A.jobs):l.length<=60:=by
 obtain ⟨q,k,qa,ka,Q,K,kl,b⟩:=h.wh.box;obtain ⟨i,hi⟩:=List.mem_iff_getElem?.1 hl;have hil:=(List.getElem?_eq_some_iff.1 hi).1;obtain ⟨a,ag, -,g2, -, -,g5⟩:=b.job i _ l (List.getElem?_eq_getElem (by rw [b.ql];exact hil)) hi;have:=(h.wh.bd.cells _ (eJ g2)).2;rw [g5] at this;simpa using this
theorem WA.tl {n:Nat}{A:Ab}{w:TC}(h:WA n A w)(x:Tp):(vY A x).2.L.length<=60:=by
 rcases OX A x with e|e
 ·rw [e];simp
 exact h.jobL e
section
variable (N:Nat) (l:List Tp) (wa wb:TC)
def SY:Option Bool:=(dw N wa).bind fun a1=>(dw N wb).bind fun a2=>(bif decide ((a1.length:Int)=(a2.length:Int)) then ((gw N wa).bind fun a6=>(gw N wb).bind fun a7=>some (decide ((a6.length:Int)=(a7.length:Int)))) else (some false)).bind fun a8=>(bif a8 then ((fh N wa).bind fun b0=>(fh N wb).bind fun b1=>some (decide (b0=b1))) else (some false)).bind fun b2=>(bif b2 then ((ez N wa).bind fun b3=>(ez N wb).bind fun b4=>some (decide (b3=b4))) else (some false)).bind fun b5=>(bif b5 then ((cQ N wa).bind fun b6=>(cQ N wb).bind fun b7=>some (decide (b6=b7))) else (some false)).bind fun b8=>(bif b8 then ((fI N wa).bind fun c9=>(d9 N wa.Uk).bind fun b9=>some (decide (b9=0))) else (some false)).bind fun c0=>(bif c0 then ((fI N wb).bind fun d0=>(d9 N wb.Uk).bind fun c5=>some (decide (c5=0))) else (some false)).bind fun c6=>(bif c6 then ((jf N).bind fun c7=>some c7) else (some false)).bind fun c8=>some c8
end
theorem LP (N:Nat){n:Nat}{A:Ab}{w:TC}(h:WA n A w):dw N w=some A.log:=by
 have:=h.fg.ev;have:=h.wh.le;unfold dw;rw [h.ev,rF (by simp only [List.length_nil];omega),Ug]
theorem KW (N:Nat){n:Nat}{A:Ab}{w:TC}(h:WA n A w):gw N w=some A.out:=by
 have:=h.fg.ou;have:=h.wh.le;unfold gw;rw [h.ou,rF (by simp only [List.length_nil];omega),Ug]
theorem Hs (N:Nat){n:Nat}{A:Ab}{w:TC}(h:WA n A w):fh N w=some A.steps:=by
 have e:fh N w=some w.UA.UV:=rfl;rw [e,h.st]
theorem JU (N:Nat){n:Nat}{A:Ab}{w:TC}(h:WA n A w):ez N w=some A.made:=by
 have e:ez N w=some w.UA.UT:=rfl;rw [e,h.md]
theorem P5 (N:Nat){n:Nat}{A:Ab}{w:TC}(h:WA n A w):cQ N w=some A.roots:=by
 have:=h.wh.bd.rts;have:=h.wh.le;rw [AZ N V,h.rl]
def Rn (N:Nat)(x:Tp):Prop:=in64 x.N/\x.L.length<N/\x.L.length<=8000000000000000000
end
section
open Go.RowKit
def Ib:List Tp->Nat
 | []=>7000
 |x::l=>x.L.length+Ib l
theorem Ia: ∀(l:List Tp),7000<=Ib l/\ ∀x∈l,x.L.length<Ib l
 | []=>⟨Nat.le_refl _,fun x hx=>by cases hx⟩
 |y::l=>by
  obtain ⟨h1,h2⟩:=Ia l;refine ⟨by show 7000<=y.L.length+Ib l;omega,fun x hx=> ?_⟩;show x.L.length<y.L.length+Ib l;rcases List.mem_cons.1 hx with rfl|hx
  ·omega
  have:=h2 x hx;omega
theorem Nd {l:List Tp}(h:Qp (fun z=>Fe z) l): ∀x∈l,Rn (Ib l) x:=fun x hx=>by
 obtain ⟨-,h1, -, -,h2⟩:=h.2 x hx;exact ⟨h1,(Ia l).2 x hx,Nat.le_trans h2.1 (by decide)⟩
set_option maxRecDepth 20000
theorem Jz (N:Nat)(x:Int):wD N x=some (va x):=(yW N x).1
theorem Ix (N:Nat)(x:Int):xu N x=some (sG x):=(zh N x).1
def bQ (c:Tx)(A:Ab):Ts:=⟨c,A.steps,A.made,A.calls,A.epoch,A.sleep,A.serial,A.roots,A.syms,A.out,A.log,A.jobs.map fun l=>l.map kj⟩
structure In (c:Tx) (A:Ab):Prop where
 eS:A.cS=c.Uu
 eC:A.cC=c.Uq
 eM:A.cM=c.Ut
 st:A.steps<=A.cS
 cl:A.calls<=A.cC
 md:A.made<=A.cM
 rt:20<=A.roots/\A.roots<=200
 jl:A.jobs.length<=60
 jb: ∀l∈A.jobs,l.length<=60
def SC (N:Nat)(c:Tx)(A:Ab)(x:Tp)(p:Ab×TF)(r:Option (Ts×TF)):Prop:=r=some (bQ c p.1,p.2)
theorem CH (N:Nat)(l:List TG)(e:TG)(h:l.length<=60):kQ N l e=some (l++ [e]):=by
 unfold kQ;rw [rF (by simp only [List.length_nil];omega),rF (by simp only [List.length_nil,Ug,List.length_cons];omega),Ug]
theorem I6 {N:Nat}{a:Ts}{x:Tp}(hl:x.L.length<=40): ∀(m i:Nat) (acc:List Ty),x.L.length<m+i->i<=x.L.length->acc.length<=i->rb N a x m acc (i:Int)=re N a (acc++(x.L.drop i).map kj)
 |0,i,acc,h1,h2,h3=>by omega
 | m+1,i,acc,h1,h2,h3=>by
  rw [rb.eq_2];rcases Nat.lt_or_ge i x.L.length with hi|hi
  ·rw [cu V,ct,aL hi,bs,rF (by simp only [List.length_cons,List.length_nil];omega),r64 V V];have:=I6 (a:=a) (N:=N) hl m (i+1) (acc++ [kj x.L[i]]) V hi (by simp;omega);rw [TS] at this;refine Eq.trans this ?_;rw [List.drop_eq_getElem_cons hi];rfl
  obtain rfl:i=x.L.length:=by omega
  rw [cn V,cf,List.drop_length,List.map_nil,List.append_nil]
theorem I8 {N:Nat}{a:Ts}{l:List Int}{js:List TN}(hj:a.UR=l.map kj::js)(hl:l.length<=60): ∀(m i:Nat) (acc:List Int),l.length<m+i->i<=l.length->acc.length<=i->qZ N a m (i:Int) acc=rc N a (acc++l.drop i)
 |0,i,acc,h1,h2,h3=>by omega
 | m+1,i,acc,h1,h2,h3=>by
  have g0:aw a.UR 0=some (l.map kj):=by rw [hj];rfl
  rw [qZ.eq_2,g0,bs,Ud,bs];rcases Nat.lt_or_ge i l.length with hi|hi
  ·have e:aw (l.map kj) (i:Int)=some (kj l[i]):=by
    rw [aL (by rw [Ud];exact hi),List.getElem_map]
   rw [cu V,ct,e,bs,rF (by simp only [List.length_cons,List.length_nil];omega),r64 V V];have:=I8 (N:=N) hj hl m (i+1) (acc++ [l[i]]) V hi (by simp;omega);rw [TS] at this;refine Eq.trans this ?_;rw [List.drop_eq_getElem_cons hi];rfl
  obtain rfl:i=l.length:=by omega
  rw [cn V,cf,List.drop_length,List.append_nil]
theorem EF {N:Nat}{a:Ts}{x:Tp}(h:x.Ui≠6/\x.Ui≠7/\x.Ui≠8/\x.Ui≠10/\x.Ui≠11/\x.Ui≠17):gI N a x=some (a,qD false):=by
 obtain ⟨h1,h2,h3,h4,h5,h6⟩:=h;unfold gI;rw [TQ h1,cf,TQ h2,cf,TQ h3,cf,TQ h4,cf,TQ h5,cf,TQ h6,cf];rfl
section
variable {N n:Nat} {c:Tx} {A:Ab} (hN:6500<N) (h:In c A) (f:Fig n A) (hn:n<60) {x:Tp} (hN64:in64 x.N) (hL:QF x)
include hN h f hn hN64 hL
theorem Ld:gI N (bQ c A) x=some (bQ c (rE A x).1,(rE A x).2):=by
 have fo:=f.ou;have fe:=f.ev;have fm:=f.md;by_cases k6:x.Ui=6
 ·unfold gI rE;rw [TP k6,ct,ct];have e:kQ N (bQ c A).UX (⟨1,⟨0,0,⟨#[]⟩⟩,x.S⟩:TG)=some (A.log++ [⟨1,⟨0,0,⟨#[]⟩⟩,x.S⟩]):=CH N A.log _ V;unfold uI;rw [rF (by show [].length+A.out.length<=_;simp;omega),rF (by show ([]++A.out).length+1<=_;simp;omega),e,bs];rfl
 by_cases k7:x.Ui=7
 ·unfold gI rE;rw [TQ k6,cf,cf,TP k7,ct,ct];have e:kQ N (bQ c A).UX (⟨x.N,⟨0,0,⟨#[]⟩⟩,x.S⟩:TG)=some (A.log++ [⟨x.N,⟨0,0,⟨#[]⟩⟩,x.S⟩]):=CH N A.log _ V;rw [e,bs];rfl
 by_cases k8:x.Ui=8
 ·unfold gI rE;rw [TQ k6,cf,cf,TQ k7,cf,cf,TP k8,ct,ct,Jz,bs];obtain ⟨-,s1⟩:=yW N x.N;obtain ⟨-,s2⟩:=zh N x.M
  have key:oE N (bQ c A) x (ts x.N x.M)=some (bQ c (bif decide (A.cM<=A.made) then ({A with log:=A.log++ [FV x.N x.M]},(⟨false,0,⟨#[]⟩,⟨6,2,⟨0,0,⟨#[]⟩⟩⟩,[]⟩:TF)) else ({A with log:=A.log++ [FV x.N x.M],made:=A.made+1},⟨false,0,sG x.M,⟨1,0,⟨0,0,⟨#[]⟩⟩⟩,[]⟩)).1,(bif decide (A.cM<=A.made) then ({A with log:=A.log++ [FV x.N x.M]},(⟨false,0,⟨#[]⟩,⟨6,2,⟨0,0,⟨#[]⟩⟩⟩,[]⟩:TF)) else ({A with log:=A.log++ [FV x.N x.M],made:=A.made+1},⟨false,0,sG x.M,⟨1,0,⟨0,0,⟨#[]⟩⟩⟩,[]⟩)).2):=by
   unfold oE;have e:kQ N (bQ c A).UX (⟨10,⟨0,0,⟨#[]⟩⟩,ts x.N x.M⟩:TG)=some (A.log++ [FV x.N x.M]):=CH N A.log _ V
   have ec:decide ((bQ c A).Ut=(bQ c A).C.Ut)=decide (A.cM<=A.made):=by
    have h1:=h.md;have h2:=h.eM;show decide (A.made=c.Ut)=_;by_cases hq:A.cM<=A.made
    ·rw [TP hq,TP V]
    rw [TQ hq,TQ V]
   rw [e,bs,ec]
   cases decide (A.cM<=A.made) with
   |true=>rfl
   |false=>
    rw [cf,dE (show in64 ((bQ c A).Ut+1) by show in64 (A.made+1);unfold in64;omega),Ix,bs];rfl
  cases hb:!decide (x.M=0) with
  |false=>
   have et:ts x.N x.M=va x.N:=by unfold ts;rw [hb,cf]
   rw [cf, <-et];exact key
  |true=>
   have et:ts x.N x.M=va x.N++(⟨#[58,32]⟩:ByteArray)++sG x.M:=by unfold ts;rw [hb,ct,ByteArray.append_assoc]
   rw [ct,dE (by show _+2<=_;omega),Ix,bs,dE (by rw [ByteArray.size_append];show _+2+_<=_;omega), <-et];exact key
 by_cases a1:x.Ui=10
 ·unfold gI rE;rw [TQ k6,cf,cf,TQ k7,cf,cf,TQ k8,cf,cf,TP a1,ct,ct];have e:=I6 (N:=N) (a:=bQ c A) hL.1 N 0 [] (by have:=hL.1;omega) V (by simp);rw [Ug,List.drop_zero,show ((0:Nat):Int)=0 from rfl] at e;rw [e];unfold re;have hj:=h.jl;rw [rF (by show [].length+(A.jobs.map _).length<=_;simp;omega),rF (by show ([]++A.jobs.map _).length+1<=_;simp;omega)];show some _=some _;unfold bQ;rw [List.map_append];rfl
 by_cases a2:x.Ui=11
 ·unfold gI rE;rw [TQ k6,cf,cf,TQ k7,cf,cf,TQ k8,cf,cf,TQ a1,cf,cf,TP a2,ct,ct];have hb:=h.jb
  have hlen:((bQ c A).UR.length:Int)=A.jobs.length:=by show (((A.jobs.map _).length:Nat):Int)=_;rw [Ud]
  have hjl:=h.jl;rw [hlen]
  cases hj:A.jobs with
  |nil=>rfl
  | cons l js=>
   rw [TQ (by simp;omega),cf]
   have hJ:(bQ c A).UR=l.map kj::js.map (fun l=>l.map kj):=by show A.jobs.map _=_;rw [hj];rfl
   have e:=I8 (N:=N) hJ (hb l (by rw [hj];exact List.mem_cons_self ..)) N 0 [] (by have:=hb l (by rw [hj];exact List.mem_cons_self ..);omega) V (by simp);rw [Ug,List.drop_zero,show ((0:Nat):Int)=0 from rfl] at e;rw [e];unfold rc;rw [hj,List.length_cons] at hjl
   have et:((l.map kj::js.map (fun l=>l.map kj)).drop ((1:Int).toNat)).take ((l.map kj::js.map (fun l=>l.map kj)).length - (1:Int).toNat)=js.map (fun l=>l.map kj):=by
    show (js.map (fun l=>l.map kj)).take (((js.map (fun l=>l.map kj)).length+1) - 1)=_;rw [Nat.add_sub_cancel,Ue]
   rw [hJ,dE ⟨by omega,by show 1<=_+1;omega,Nat.le_refl _⟩,et,rF (by simp;omega)];rfl
 by_cases a6:x.Ui=17
 ·unfold gI rE IH;rw [TQ k6,cf,cf,TQ k7,cf,cf,TQ k8,cf,cf,TQ a1,cf,cf,TQ a2,cf,cf,TP a6,ct,TQ (p:=x.Ui=15) V,cf,TQ (p:=x.Ui=16) V,cf,ct];by_cases c1:x.N=1
  ·rw [TP c1,ct,ct];rfl
  rw [TQ c1,cf,cf];by_cases c2:x.N=2
  ·rw [TP c2,ct,ct];rfl
  rw [TQ c2,cf,cf];by_cases c3:x.N<3
  ·rw [TP c3,TQ (p:=3<=x.N) V,cf,bs,cf,ct];rfl
  unfold in64 at hN64;rw [TQ c3,TP (p:=3<=x.N) V,ct,cf,dE (show in64 (x.N - 3) by unfold in64;omega),bs];by_cases c4:(A.syms.length:Int)<=x.N - 3
  ·rw [TP c4,ct,TQ (p:=x.N - 3<((bQ c A).UY.length:Int)) (by show¬x.N - 3<(A.syms.length:Int);omega),cf];rfl
  rw [TQ c4,cf,TP (p:=x.N - 3<((bQ c A).UY.length:Int)) (by show x.N - 3<(A.syms.length:Int);omega),ct,dE (show in64 (x.N - 3) by unfold in64;omega)]
  have hi:(x.N - 3).toNat<A.syms.length:=by omega
  have e:=aL hi;rw [show ((x.N - 3).toNat:Int)=x.N - 3 by omega] at e;have e':aw (bQ c A).UY (x.N - 3)=some A.syms[(x.N - 3).toNat]:=e;rw [e',bs,List.getD_eq_getElem?_getD,List.getElem?_eq_getElem hi];rfl
 rw [EF ⟨k6,k7,k8,a1,a2,a6⟩];unfold rE;rw [TQ k6,cf,TQ k7,cf,TQ k8,cf,TQ a1,cf,TQ a2,cf,TQ a6,cf];cases decide (x.Ui=15)<;>cases decide (x.Ui=16)<;>rfl
end
end
section
open Go.RowKit
set_option maxRecDepth 20000
section
variable {N n:Nat} {c:Tx} {A:Ab} (hN:6500<N) (h:In c A) (f:Fig n A) (hn:n<60) {x:Tp} (hN64:in64 x.N) (hL:QF x)
include hN h f hn hN64 hL
theorem Pq:wB N (bQ c A) x=some (bQ c (vY A x).1,(vY A x).2):=by
 have fs:=f.st;have fm:=f.md;have fc:=f.cl;have fp:=f.ep;have fe:=f.se;have fy:=f.sy;have hS:=h.eS;have hC:=h.eC;have hM:=h.eM;have rS:=h.st;have rC:=h.cl;have rM:=h.md;have rt:=h.rt;unfold wB vY;by_cases k0:x.Ui=0
 ·rw [TP k0,ct,ct]
  have ec:decide ((bQ c A).Uu=(bQ c A).C.Uu)=decide (A.cS<=A.steps):=by
   show decide (A.steps=c.Uu)=_;by_cases hq:A.cS<=A.steps
   ·rw [TP hq,TP V]
   rw [TQ hq,TQ V]
  rw [ec]
  cases decide (A.cS<=A.steps) with
  |true=>rfl
  |false=>rw [cf,dE (show in64 ((bQ c A).Uu+1) by show in64 (A.steps+1);unfold in64;omega)];rfl
 rw [TQ k0,cf,cf];by_cases k1:x.Ui=1
 ·rw [TP k1,ct,ct]
  have ec:decide ((bQ c A).Uq=(bQ c A).C.Uq)=decide (A.cC<=A.calls):=by
   show decide (A.calls=c.Uq)=_;by_cases hq:A.cC<=A.calls
   ·rw [TP hq,TP V]
   rw [TQ hq,TQ V]
  rw [ec]
  cases decide (A.cC<=A.calls) with
  |true=>rfl
  |false=>rw [cf,dE (show in64 ((bQ c A).Uq+1) by show in64 (A.calls+1);unfold in64;omega)];rfl
 rw [TQ k1,cf,cf]
 have mn: ∀(k:Int),x.Ui=k->(k=2\/k=5\/k=9\/k=14)-> ∀a,gI N a x=some (a,qD false):=fun k hk hq a=>EF V
 by_cases k2:x.Ui=2
 ·rw [TP k2,ct,ct];have ec:decide (0<(bQ c A).Uq)=decide (0<A.calls):=rfl;unfold fJ;rw [ec]
  cases decide (0<A.calls) with
  |true=>rw [ct,dE (show in64 ((bQ c A).Uq - 1) by show in64 (A.calls - 1);unfold in64;omega),mn 2 k2 V,bs];rfl
  |false=>rw [cf,mn 2 k2 V,bs];rfl
 rw [TQ k2,cf,cf];by_cases k3:x.Ui=3
 ·rw [TP k3,ct,ct]
  have ec:decide ((bQ c A).Ut=(bQ c A).C.Ut)=decide (A.cM<=A.made):=by
   show decide (A.made=c.Ut)=_;by_cases hq:A.cM<=A.made
   ·rw [TP hq,TP V]
   rw [TQ hq,TQ V]
  rw [ec]
  cases decide (A.cM<=A.made) with
  |true=>rfl
  |false=>rw [cf,dE (show in64 ((bQ c A).Ut+1) by show in64 (A.made+1);unfold in64;omega)];rfl
 rw [TQ k3,cf,cf];by_cases k4:x.Ui=4
 ·rw [TP k4,ct,ct];unfold yI;have el:((([]:List ByteArray)++(bQ c A).UY)++ [x.S])=A.syms++ [x.S]:=rfl;rw [rF (by show [].length+A.syms.length<=_;simp;omega),rF (by show ([]++A.syms).length+1<=_;simp;omega),el,dE (show in64 (((A.syms++ [x.S]).length:Int)+2) by unfold in64;simp;omega)]
  have e2:((A.syms++ [x.S]).length:Int)+2=(A.syms.length:Int)+3:=by simp;omega
  rw [e2];rfl
 rw [TQ k4,cf,cf];by_cases k5:x.Ui=5
 ·rw [TP k5,ct,ct];unfold fJ;rw [dE (show in64 ((bQ c A).UJ+1) by show in64 (A.epoch+1);unfold in64;omega),mn 5 k5 V,bs];rfl
 rw [TQ k5,cf,cf];by_cases k9:x.Ui=9
 ·rw [TP k9,ct,ct];unfold fJ;rw [mn 9 k9 V,bs];rfl
 rw [TQ k9,cf,cf];by_cases a2:x.Ui=12
 ·rw [TP a2,ct,ct,dE (show in64 ((bQ c A).UL+1) by show in64 (A.serial+1);unfold in64;omega)];rfl
 rw [TQ a2,cf,cf];by_cases a6:x.Ui=13
 ·rw [TP a6,ct,ct,dE (show in64 ((bQ c A).UI+1) by show in64 (A.roots+1);unfold in64;omega),dE (show in64 ((bQ c A).UI+1 - 1) by show in64 (A.roots+1 - 1);unfold in64;omega)]
  have e:(bQ c A).UI+1 - 1=A.roots:=by show A.roots+1 - 1=A.roots;omega
  rw [e];rfl
 rw [TQ a6,cf,cf];by_cases a1:x.Ui=14
 ·rw [TP a1,ct,ct];unfold uJ fJ;rw [mn 14 a1 V,bs,mn 14 a1 V,bs,mn 14 a1 V,bs];have er:(bQ c A).UI=A.roots:=rfl;rw [er];by_cases c1:x.N<A.roots
  ·rw [TP c1,ct];by_cases c2:x.N<20
   ·rw [TP c2,ct]
    have e:(bif decide (max x.N 20<A.roots) then max x.N 20 else A.roots)=20:=by
     rw [show max x.N 20=20 by omega];by_cases c3:20<A.roots
     ·rw [TP c3,ct]
     rw [TQ c3,cf];omega
    rw [e];rfl
   rw [TQ c2,cf]
   have e:(bif decide (max x.N 20<A.roots) then max x.N 20 else A.roots)=x.N:=by
    rw [show max x.N 20=x.N by omega,TP c1,ct]
   rw [e];rfl
  rw [TQ c1,cf,TQ (p:=A.roots<20) V,cf,TQ (p:=max x.N 20<A.roots) V,cf];rfl
 rw [TQ a1,cf,cf];unfold fJ;have e:(⟨(bQ c A).C,(bQ c A).Uu,(bQ c A).Ut,(bQ c A).Uq,(bQ c A).UJ,(bQ c A).UK,(bQ c A).UL,(bQ c A).UI,(bQ c A).UY,(bQ c A).UW,(bQ c A).UX,(bQ c A).UR⟩:Ts)=bQ c A:=rfl;rw [e,Ld hN h f hn hN64 hL,bs]
end
structure Le (A B:Ab):Prop where
 eS:B.cS=A.cS
 eC:B.cC=A.cC
 eM:B.cM=A.cM
 st:A.steps<=A.cS->B.steps<=B.cS
 cl:A.calls<=A.cC->B.calls<=B.cC
 md:A.made<=A.cM->B.made<=B.cM
theorem Le.refl (A:Ab):Le A A:=⟨rfl,rfl,rfl,id,id,id⟩
def PK (A:Ab)(p:Ab×TF):Prop:=Le A p.1
theorem vQ {A:Ab}{c:Bool}{a b:Ab×TF}(ha:PK A a)(hb:PK A b):PK A (bif c then a else b):=by
 cases c
 ·exact hb
 exact ha
theorem Qv {A:Ab}{p:Prop}[Decidable p]{a b:Ab}(ha:p->Le A a)(hb: ¬p->Le A b):Le A (bif decide p then a else b):=by
 by_cases h:p
 ·rw [TP h];exact ha h
 rw [TQ h];exact hb h
theorem MT (A:Ab)(x:Tp):PK A (vY A x):=by
 have z: ∀(B:Ab) (t:TF),Le A B->PK A (B,t):=fun _ _ h=>h
 unfold vY;refine vQ (z _ _ (Qv (fun _=>Le.refl A) fun q=>⟨J,J,J,fun _=>by show A.steps+1<=A.cS;omega,id,id⟩)) (vQ (z _ _ (Qv (fun _=>Le.refl A) fun q=>⟨J,J,J,id,fun _=>by show A.calls+1<=A.cC;omega,id⟩)) (vQ (z _ _ (Qv (fun _=>⟨J,J,J,id,fun q=>by show A.calls - 1<=A.cC;omega,id⟩) fun q=>Le.refl A)) (vQ (z _ _ (Qv (fun _=>Le.refl A) fun q=>⟨J,J,J,id,id,fun _=>by show A.made+1<=A.cM;omega⟩)) (vQ (z _ _ ⟨J,J,J,id,id,id⟩) (vQ (z _ _ ⟨J,J,J,id,id,id⟩) (vQ (z _ _ ⟨J,J,J,id,id,id⟩) (vQ (z _ _ ⟨J,J,J,id,id,id⟩) (vQ (z _ _ ⟨J,J,J,id,id,id⟩) (vQ (z _ _ ⟨J,J,J,id,id,id⟩) ?_)))))))));unfold rE
 have y: ∀t,PK A (A,t):=fun t=>z _ _ (Le.refl A)
 refine vQ (z _ _ ⟨J,J,J,id,id,id⟩) (vQ (z _ _ ⟨J,J,J,id,id,id⟩) (vQ ?_ (vQ (z _ _ ⟨J,J,J,id,id,id⟩) (vQ ?_ (vQ (y _) (vQ (y _) (vQ (y _) (y _))))))))
 ·by_cases q:A.cM<=A.made
  ·rw [TP q,ct];exact z _ _ ⟨J,J,J,id,id,id⟩
  rw [TQ q,cf];exact z _ _ ⟨J,J,J,id,id,fun _=>by show A.made+1<=A.cM;omega⟩
 cases A.jobs with
 |nil=>exact y _
 |cons l js=>exact z _ _ ⟨rfl,rfl,rfl,id,id,id⟩
theorem Qa {n:Nat}{c:Tx}{A:Ab}{w:TC}(h:WA n A w)(e:A.cS=c.Uu/\A.cC=c.Uq/\A.cM=c.Ut)(s:A.steps<=A.cS/\A.calls<=A.cC/\A.made<=A.cM):In c A:=by
 have h1:=h.rl;have h2:=h.wh.rl;have h3:=h.wh.bd.rts;have h4:=h.wh.le;have h5:=h.wh.jl;exact ⟨e.1,e.2.1,e.2.2,s.1,s.2.1,s.2.2,⟨by omega,by omega⟩,by omega,fun l hl=>h.jobL hl⟩
theorem Ey {N:Nat}{w:TC}{c:Tx}{A:Ab}{ev:List TG}(hl:A.out.length<=60): ∀m i:Nat,A.out.length<m+i->i<=A.out.length->qT N A.out ev w (bQ c A) m (i:Int)=qV N ev w (bQ c A)
 |0,i,h1,h2=>by omega
 | m+1,i,h1,h2=>by
  rw [qT.eq_2];rcases Nat.lt_or_ge i A.out.length with hi|hi
  ·have e:aw (bQ c A).UW (i:Int)=some A.out[i]:=aL hi;rw [cu V,ct,aL hi,bs,e,bs,beq_self_eq_true,nt,cf,r64 V V];exact Ey hl m (i+1) V hi
  rw [cn V,cf]
theorem GY {N:Nat}{w:TC}{c:Tx}{A:Ab}(hl:A.log.length<=60): ∀m i:Nat,A.log.length<m+i->i<=A.log.length->qS N A.log w (bQ c A) m (i:Int)=qU N w (bQ c A)
 |0,i,h1,h2=>by omega
 | m+1,i,h1,h2=>by
  rw [qS.eq_2];rcases Nat.lt_or_ge i A.log.length with hi|hi
  ·have e:aw (bQ c A).UX (i:Int)=some A.log[i]:=aL hi;rw [cu V,ct,aL hi,bs,e,bs,TP (p:=A.log[i]=A.log[i]) rfl,nt,cf,r64 V V];exact GY hl m (i+1) V hi
  rw [cn V,cf]
theorem MW {N n:Nat}(hN:6500<N){c:Tx}{A:Ab}{w:TC}(h:WA n A w):rx N w (bQ c A)=some true:=by
 have ho:=h.fg.ou;have he:=h.fg.ev;have hle:=h.wh.le
 have j1:((bQ c A).UR.length:Int)=A.jobs.length:=by show (((A.jobs.map _).length:Nat):Int)=_;rw [Ud]
 have o1:=Ey (N:=N) (w:=w) (c:=c) (A:=A) (ev:=A.log) V N 0 V V;have e1:=GY (N:=N) (w:=w) (c:=c) (A:=A) V N 0 V V;rw [show ((0:Nat):Int)=0 from rfl] at o1 e1;unfold rx;rw [KW N h,bs,LP N h,bs,TP (p:=(A.out.length:Int)=((bQ c A).UW.length:Int)) rfl,nt,cf,bs,TP (p:=(A.log.length:Int)=((bQ c A).UX.length:Int)) rfl,nt,cf,EJ h.wh,bs,j1,TP (p:=(A.jobs.length:Int)=(A.jobs.length:Int)) rfl,nt,bs,cf,o1];unfold qV;rw [e1];unfold qU;have e2:na N w=some A.epoch:=congrArg some h.ep;have e3:kL N w=some A.sleep:=congrArg some h.sl;rw [Hs N h,bs,TP (p:=A.steps=(bQ c A).Uu) rfl,ct,JU N h,bs,TP (p:=A.made=(bQ c A).Ut) rfl,bs,ct,e2,bs,TP (p:=A.epoch=(bQ c A).UJ) rfl,bs,ct,e3,bs,TP (p:=A.sleep=(bQ c A).UK) rfl,bs,ct,P5 N h,bs,TP (p:=A.roots=(bQ c A).UI) rfl,bs]
section
variable (N:Nat) (l:List Tp) (w:TC) (v:Ts)
def Ru (m:Nat)(i:Int):Option Bool:=jQ N l m i w.UA.UV w.UA.UT w.UA.UU w.Us.UD w.Us.Uu w.Us.Uq w.Us.Ut w.Us.Uj w.Us.UC w.Us.UE w.UF w.UO w.UP w.UQ w.UH w.UG v.C.UD v.C.Uu v.C.Uq v.C.Ut v.C.Uj v.C.UC v.C.UE v.Uu v.Ut v.Uq v.UJ v.UK v.UL v.UI v.UY v.UW v.UX v.UR w.Uk.m_.Uj w.Uk.m_.Ul w.Uk.Ur w.Uk.Uz w.Un.Un w.Un.UB w.Uk.Uy.at_
def Rv:Option Bool:=(rx N w v).bind fun a1=>(bif a1 then ((fI N w).bind fun b0=>(d9 N w.Uk).bind fun a2=>some (decide (a2=0))) else (some false)).bind fun a6=>(bif a6 then ((jf N).bind fun a7=>some a7) else (some false)).bind fun a8=>some a8
theorem Qt (m:Nat)(i:Int):Ru N l w v (m+1) i=(bif decide (i<(l.length:Int)) then (some (decide (i<60))) else (some false)).bind fun a6=>bif a6 then ((aw l i).bind fun a7=>(sM N a7).bind fun a8=>bif !a8 then ((jf N).bind fun b0=>some b0) else ((aw l i).bind fun b1=>(wB N v b1).bind fun a1=>(aw l i).bind fun b2=>(vV N w b2).bind fun a2=>(ry N a2.1 a1.2).bind fun b3=>bif !b3 then (some false) else (be (in64 (i+1)) (Ru N l a2.2 a1.1 m (i+1))))) else (Rv N w v):=Eq.trans rfl rfl
end
theorem OI {N:Nat}(hN:6500<N){n:Nat}{c:Tx}{A:Ab}{w:TC}(h:WA n A w):Rv N w (bQ c A)=some true:=by
 have eh:fI N w=some ():=rfl;unfold Rv;rw [MW hN h,bs,ct,eh,bs,h.wh.pl.ok hN,bs,TP (p:=(0:Int)=0) rfl,bs,ct,Id hN,bs,bs]
theorem Lq {N:Nat}(hN:6500<N){l:List Tp}{c:Tx}(hz: ∀x∈l,Rn N x): ∀(m i:Nat) (A:Ab) (w:TC),60<m+i->i<=60->i<=l.length->WA i A w->(A.cS=c.Uu/\A.cC=c.Uq/\A.cM=c.Ut)->(A.steps<=A.cS/\A.calls<=A.cC/\A.made<=A.cM)->Ru N l w (bQ c A) m (i:Int)=some true
 |0,i,A,w,h1,h2,_,_,_,_=>by omega
 | m +1,i,A,w,h1,h2,hil,h,e,s=>by
  rw [Qt];rcases Nat.lt_or_ge i l.length with hi|hi
  ·rw [cu V,ct,bs];rcases Nat.lt_or_ge i 60 with h60|h60
   ·obtain ⟨z1,z2,z3⟩:=hz l[i] (Uh hi);obtain ⟨b,ev,hv⟩:=Hp z2 z3;have e3:aw l (i:Int)=some l[i]:=aL hi;rw [TP (p:=(i:Int)<60) V,ct,e3,bs,ev,bs]
    cases b with
    |false=>rw [nf,ct,Id hN,bs]
    |true=>
     have hx:=hv rfl;obtain ⟨wa,ea,ra⟩:=Qj hN h V z1 hx;have er:=Pq hN (Qa h e s) h.fg h60 z1 hx;have ht:=h.tl l[i];have hle:=MT A l[i];rw [nt,cf,bs,er,bs,bs,ea,bs]
     dsimp only
     rw [Ju _ V V,bs,nt,cf,r64 V V];exact Lq hN hz m (i+1) _ wa V h60 hi ra ⟨hle.eS.trans e.1,hle.eC.trans e.2.1,hle.eM.trans e.2.2⟩ ⟨hle.st s.1,hle.cl s.2.1,hle.md s.2.2⟩
   rw [TQ (p:=(i:Int)<60) V,cf];exact OI hN h
  rw [cn V,cf,bs,cf];exact OI hN h
def Ee (c:Tx):Prop:=c.UD<0\/1<c.UD\/c.Uu<0\/1073741824<c.Uu\/c.Uq<1\/200<c.Uq\/c.Ut<0\/1048576<c.Ut\/c.Uj<0\/1073741824<c.Uj\/c.UC<0\/1073741824<c.UC\/c.UE<0\/4<c.UE
instance (c:Tx):Decidable (Ee c):=by unfold Ee;exact inferInstance
theorem mM {p q:Prop}[Decidable p][Decidable q]{b:Bool}(h:b=decide p):(bif b then (some true) else (some (decide q)):Option Bool)=some (decide (p\/q)):=by
 subst h;by_cases hp:p
 ·rw [TP hp,TP (p:=p\/q) (Or.inl hp),ct]
 by_cases hq:q
 ·rw [TQ hp,TP hq,TP (p:=p\/q) (Or.inr hq),cf]
 rw [TQ hp,TQ hq,TQ (p:=p\/q) (by simp [hp,hq]),cf]
theorem Mr (N:Nat)(c:Tx):uf N c=some (decide (Ee c)):=by
 unfold uf;rw [mM rfl,bs,mM rfl,bs,mM rfl,bs,mM rfl,bs,mM rfl,bs,mM rfl,bs,mM rfl,bs,mM rfl,bs,mM rfl,bs,mM rfl,bs,mM rfl,bs,mM rfl,bs,mM rfl,bs];refine congrArg some ?_;rw [decide_eq_decide];unfold Ee;simp only [or_assoc]
theorem Oo (N:Nat)(a lo hi:Int):dc N a lo hi=some (decide (lo<=a/\a<=hi)):=by
 unfold dc;by_cases h1:lo<=a
 ·by_cases h2:a<=hi
  ·rw [TP h1,TP h2,TP ⟨h1,h2⟩,ct,bs]
  rw [TP h1,TQ h2,TQ (p:=lo<=a/\a<=hi) V,ct,bs]
 rw [TQ h1,TQ (p:=lo<=a/\a<=hi) V,cf,bs]
theorem ur {p q:Prop}[Decidable p][Decidable q]{b:Bool}(h:b=decide p):(bif b then (some (decide q)) else (some false):Option Bool)=some (decide (p/\q)):=by
 subst h;by_cases hp:p
 ·by_cases hq:q
  ·rw [TP hp,TP hq,TP ⟨hp,hq⟩,ct]
  rw [TP hp,TQ hq,TQ (p:=p/\q) (by simp [hq]),ct]
 rw [TQ hp,TQ (p:=p/\q) (by simp [hp]),cf]
theorem E2 (N:Nat)(c:Tx):jD N c=some (!decide (Ee c)):=by
 unfold jD;simp only [Oo,bs];rw [ur rfl,bs,ur rfl,bs,ur rfl,bs,ur rfl,bs,ur rfl,bs,ur rfl,bs];refine congrArg some ?_;rw [<-decide_not,decide_eq_decide];unfold Ee;omega
theorem Mh {N:Nat}(hN:6500<N)(c:Tx)(l:List Tp)(hz: ∀x∈l,Rn N x):lG N c l=some true:=by
 unfold lG;rw [Mr]
 cases hb:decide (Ee c) with
 | true=>
  have e:jo N c=some (.inl 1):=by
   unfold jo;rw [E2,hb,bs];rfl
  rw [e,bs]
  dsimp only [CF]
  rw [bs,ct,TP (p:=(1:Int)=1) rfl,ct,Id hN,bs,bs]
 |false=>
  have hr:jD N c=some true:=by rw [E2,hb];rfl
  have hq:=of_decide_eq_false hb;have ec:mi N (w0 c)=some c:=rfl;rw [O8 hN hr,bs]
  dsimp only [CF]
  rw [bs,cf,TP (p:=(0:Int)=0) rfl,nt,cf,ec,bs,TP (p:=c=c) rfl,nt,bs,cf];refine Lq hN (c:=c) hz N 0 (A0 c) (w0 c) V V V (R8 c) ⟨J,J,J⟩ ⟨?_,?_,?_⟩
  ·show (0:Int)<=c.Uu;unfold Ee at hq;omega
  ·show (0:Int)<=c.Uq;unfold Ee at hq;omega
  show (0:Int)<=c.Ut;unfold Ee at hq;omega
end
section
open Go.RowKit
theorem H6 (c:Tx)(l:List Tp)(h:Qp (fun z=>Fe z) l):lG (Ib l) c l=some true:=Mh (by have:=(Ia l).1;omega) c l (Nd h)
end
end Go.Proofs.YtjmonlcchlkdhaaGreat