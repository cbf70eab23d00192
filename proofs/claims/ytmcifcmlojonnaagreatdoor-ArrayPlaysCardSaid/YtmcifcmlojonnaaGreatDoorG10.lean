/- Merged texts: part 10. No conditions of their own. -/
import Derived.Test.YtmcifcmlojonnaaGreatDoorG9
import Derived.Test.YtmcifcmlojonnaaGreatDoorG8
import Derived.Test.YtmcifcmlojonnaaGreatDoorG1
import Derived.Test.YtmcifcmlojonnaaGreatDoorG2
import Derived.Test.YtmcifcmlojonnaaGreatDoorRows
import Derived.ProofKit
import Derived.LaidMore
import Derived.OpenShut
import Derived.Stop.Joined
namespace Go.Proofs.YtmcifcmlojonnaaGreatDoor
variable {a i n:Int}{ρ:Int->Int}{f:List Int}{PL:List WS}{A1 A2 P S l:List WX}{R:List WZ}{q z:Nat}{α:Type}{c:W3}{g:W4}{d:W6}{p:WS}{dd:WW}{k key x0 y:WX}{v x:WZ}
section
open Go.RowKit
set_option maxRecDepth 20000
structure R25 (d:WW):Prop where
 h:0<=d.Has/\d.Has<=63
 a:0<=d.Zk/\d.Zk<=7
 da:((sB d.Has 1||sB d.Has 2)&&(sB d.Has 4||sB d.Has 8))=false
 a1:(sB d.Zk 1&& !sB d.Has 2)=false
 a2:(sB d.Zk 2&& !sB d.Has 16)=false
 a4:(sB d.Zk 4&& !sB d.Has 32)=false
 v:sB d.Has 1=false->d.Value=v0
 vk:0<=d.Value.Zh/\d.Value.Zh<=7
 g:(sB d.Has 4=false->d.Zx=v0)/\(sB d.Has 4=true->d.Zx.Zh=0\/d.Zx.Zh=7)
 s:(sB d.Has 8=false->d.Zy=v0)/\(sB d.Has 8=true->d.Zy.Zh=0\/d.Zy.Zh=7)
theorem Px (N:Nat)(x:WZ)(b:Bool):Sat (rj N x b) fun r=>r=true->(b=false->x=v0)/\(b=true->x.Zh=0\/x.Zh=7):=by
 unfold rj
 cases b with
 |false=>exact ad fun h=>⟨(fun _=>Y8 h),fun h=>(by cases h)⟩
 |true=>
  rw [nt,cf]
  refine cB (P:=fun r=>r=true->x.Zh=0\/x.Zh=7) (fun e=>ad fun _=> .inl (Y8 e)) (fun _=>ad fun h=> .inr (Y8 h)) fun r hr=>ad fun h=>⟨(fun h=>by cases h),fun _=>hr h⟩
theorem QM (N:Nat)(d:WW):Sat (dZ N d) fun b=>b=true->R25 d:=by
 unfold dZ
 refine cB (P:=fun b=>b=false->0<=d.Has/\d.Has<=63) (fun _=>ad fun h=>by cases h) (fun e=>ad fun h=>by have:=Y7 e;have:=Y7 h;omega) fun b2 h2=> ?_
 refine cB (P:=fun b=>b=false->(0<=d.Has/\d.Has<=63)/\0<=d.Zk) (fun _=>ad fun h=>by cases h) (fun e=>ad fun h=>⟨h2 e,by have:=Y7 h;omega⟩) fun b3 h3=> ?_
 refine cB (P:=fun b=>b=false->(0<=d.Has/\d.Has<=63)/\0<=d.Zk/\d.Zk<=7) (fun _=>ad fun h=>by cases h) (fun e=>ad fun h=>⟨(h3 e).1,(h3 e).2,by have:=Y7 h;omega⟩) fun b4 h4=> ?_
 cases b4 with
 |true=>
  rw [ct,bs,ct]
  exact ad fun h=>by cases h
 | false=>
  obtain ⟨⟨h0,h1⟩,a0,a1⟩:=h4 rfl
  have hs: ∀b:Int,1<=b->bc N d b=some (sB d.Has b):=fun b hb=>by
   unfold bc;rw [Oq N h0 h1 hb,bs]
  have hda:kE N d=some (sB d.Has 1||sB d.Has 2):=by
   unfold kE;rw [hs 1 I,bs,hs 2 I,bs];cases sB d.Has 1<;>rfl
  have hac:dE N d=some (sB d.Has 4||sB d.Has 8):=by
   unfold dE;rw [hs 4 I,bs,hs 8 I,bs];cases sB d.Has 4<;>rfl
  have hat: ∀b:Int,1<=b->bP N d.Zk b=some (sB d.Zk b):=fun b hb=>Oq N a0 I hb
  rw [cf,hda,bs,hac,bs,hat 1 I,bs,hs 2 I,bs,hat 2 I,bs,hs 16 I,bs,hat 4 I,bs,hs 32 I,bs,hs 1 I,bs,hs 4 I,bs,hs 8 I,bs]
  cases e1:((sB d.Has 1||sB d.Has 2)&&(sB d.Has 4||sB d.Has 8)) with
  |true=>
   rw [Ze] at e1;rw [e1.1,e1.2]
   exact ad fun h=>by cases h
  | false=>
   have e1':(bif (sB d.Has 1||sB d.Has 2) then (some (sB d.Has 4||sB d.Has 8)) else (some false):Option Bool)=some false:=by
    rw [<-e1];cases (sB d.Has 1||sB d.Has 2)<;>rfl
   rw [e1',bs,bs,cf]
   have hx: ∀x y:Bool,(bif x then (some (!y)) else (some false):Option Bool)=some (x&& !y):=fun x y=>by cases x<;>rfl
   rw [hx,bs,hx,bs,hx,bs]
   cases e2:(sB d.Zk 1&& !sB d.Has 2) with
   |true=>exact ad fun h=>by cases h
   | false=>
    rw [cf,bs]
    cases e3:(sB d.Zk 2&& !sB d.Has 16) with
    |true=>exact ad fun h=>by cases h
    | false=>
     rw [cf,bs]
     cases e4:(sB d.Zk 4&& !sB d.Has 32) with
     |true=>exact ad fun h=>by cases h
     |false=>
      rw [cf]
      refine cB (P:=fun b=>b=false->sB d.Has 1=false->d.Value=v0) (fun e=>ad fun h _=>by rw [Bool.not_eq_false'] at h;exact Y8 h) (fun e=>ad fun _ h=>by rw [h] at e;cases e) fun a8 h23=> ?_
      refine cB (P:=fun b=>b=false->(sB d.Has 1=false->d.Value=v0)/\0<=d.Value.Zh) (fun _=>ad fun h=>by cases h) (fun e=>ad fun h=>⟨h23 e,by have:=Y7 h;omega⟩) fun b0 h24=> ?_
      refine cB (P:=fun b=>b=false->(sB d.Has 1=false->d.Value=v0)/\0<=d.Value.Zh/\d.Value.Zh<=7) (fun _=>ad fun h=>by cases h) (fun e=>ad fun h=>⟨(h24 e).1,(h24 e).2,by have:=Y7 h;omega⟩) fun b5 h25=>dB (fun _=>ad fun h=>by cases h) fun e=> ?_
      obtain ⟨v1,v2⟩:=h25 e
      refine (Px N d.Zx _).bind fun b6 hy=> ?_
      refine cB (P:=fun b=>b=true->R25 d) (fun a6=>(Px N d.Zy _).bind fun b7 a7=>ad fun h=>⟨⟨h0,h1⟩,⟨a0,a1⟩,e1,e2,e3,e4,v1,v2,hy a6,a7 h⟩) (fun _=>ad fun h=>by cases h) fun b hb=>ad hb
structure Nrm (p:WS):Prop where
 d:ai .i64 p.Zk 8=0->p.Zx=v0/\p.Zy=v0
 a:ai .i64 p.Zk 8≠0->p.Value=v0
theorem Sg (N:Nat)(a b:WZ):pL N a b=kw N a b:=by
 unfold pL kw
 have:decide (a=b)=(decide (a.Zh=b.Zh)&&decide (a.N=b.N)&&(a.S.toList==b.S.toList)):=by
  by_cases e:a=b
  ·rw [e];simp
  rw [Xa e];by_cases h1:a.Zh=b.Zh
  ·by_cases h2:a.N=b.N
   ·rw [W9 h1,W9 h2]
    cases h3:(a.S.toList==b.S.toList) with
    |false=>rfl
    |true=>
     refine absurd ?_ e;have h4:a.S=b.S:=oY.1 (eq_of_beq h3);obtain ⟨x,y,z⟩:=a;obtain ⟨x',y',z'⟩:=b;simp only at h1 h2 h4;subst h1 h2 h4;rfl
   rw [Xa h2];simp
  rw [Xa h1];simp
 rw [this];cases decide (a.Zh=b.Zh)<;>cases decide (a.N=b.N)<;>cases (a.S.toList==b.S.toList)<;>rfl
def kN (a b:Int)(s:Bool)(m:Int):Int:=bif bif s then sB a m else sB b m then m else 0
theorem Qe: ∀a:_root_.Fin 8, ∀b:_root_.Fin 16, ∀s2 a6 a7:Bool,
  cO .i64 (bi .i64 (cO .i64 (cO .i64 0 (ai .i64 (b.val:Int) 6)) 8) (En false a6 a7)) (ai .i64 (a.val:Int) (En false a6 a7))=(kN a.val b.val a6 2+kN a.val b.val a7 4)+8/\
  cO .i64 (bi .i64 (cO .i64 (ai .i64 (b.val:Int) 1) (ai .i64 (b.val:Int) 6)) (En s2 a6 a7)) (ai .i64 (a.val:Int) (En s2 a6 a7))=(kN a.val b.val a6 2+kN a.val b.val a7 4)+kN a.val b.val s2 1/\
  cO .i64 (bi .i64 (cO .i64 0 (ai .i64 (b.val:Int) 6)) (En s2 a6 a7)) (ai .i64 (a.val:Int) (En s2 a6 a7))=(kN a.val b.val a6 2+kN a.val b.val a7 4)+(bif s2&&sB a.val 1 then 1 else 0):=by decide+kernel
theorem QA: ∀a:_root_.Fin 8, ∀b:_root_.Fin 16,(!decide (ai .i64 (EQ .i64 (a.val:Int) (b.val:Int)) 2=0))=!(sB (a.val:Int) 2==sB (b.val:Int) 2):=by decide+kernel
structure Bits (N:Nat) (d:WW) (b:Int):Prop where
 r:R25 d
 six:Six d.Has
 says: ∀x:Int,1<=x->bc N d x=some (sB d.Has x)
 data:kE N d=some (sB d.Has 1||sB d.Has 2)
 acc:dE N d=some (sB d.Has 4||sB d.Has 8)
 da: ∀x:Int,1<=x->bP N d.Zk x=some (sB d.Zk x)
 pb: ∀x:Int,1<=x->bP N b x=some (sB b x)
 a:Six d.Zk
 b:Six b
theorem zL (N:Nat){d:WW}(h:R25 d){b:Int}(hb:0<=b/\b<=15):Bits N d b:=by
 have hs: ∀x:Int,1<=x->bc N d x=some (sB d.Has x):=fun x hx=>E9 N h.h.1 h.h.2 hx
 refine ⟨h,six h.h.1 h.h.2,hs,?_,?_,fun x hx=>Oq N h.a.1 (by have:=h.a;omega) hx,fun x hx=>Oq N hb.1 I hx,six h.a.1 (by have:=h.a;omega),six hb.1 I⟩
 ·unfold kE;rw [hs 1 I,bs,hs 2 I,bs,Em,bs,Sd]
 unfold dE;rw [hs 4 I,bs,hs 8 I,bs,Em,bs,Sd]
def GC (k:WX)(p:WS)(d:WW):WS:=
 let was:=sB p.Zk 8
 let TZ:=(sB d.Has 4||sB d.Has 8)||(was&& !(sB d.Has 1||sB d.Has 2))
 ⟨k,(kN d.Zk p.Zk (sB d.Has 16) 2+kN d.Zk p.Zk (sB d.Has 32) 4)+(bif TZ then 8 else bif was then (bif sB d.Has 2&&sB d.Zk 1 then 1 else 0) else kN d.Zk p.Zk (sB d.Has 2) 1),
  bif sB d.Has 1 then d.Value else bif !TZ&& !was then p.Value else v0,
  bif sB d.Has 4 then d.Zx else bif TZ&&was then p.Zx else v0,
  bif sB d.Has 8 then d.Zy else bif TZ&&was then p.Zy else v0⟩
theorem Kd (N:Nat)(k:WX){d:WW}(hb:0<=p.Zk/\p.Zk<=15)(h:Bits N d p.Zk):oU N p k d=some (GC k p d):=by
 obtain ⟨s1,s2,s4,s8,a7,a8,s3,a6⟩:=HU N h.six;have hask:=UN N h.six;have hf:=Qe ⟨d.Zk.toNat,by have:=h.r.a;omega⟩ ⟨p.Zk.toNat,by omega⟩ (sB d.Has 2) (sB d.Has 16) (sB d.Has 32);simp only [Xz h.r.a.1,Xz hb.1] at hf;obtain ⟨f1,f2,f3⟩:=hf;have hda:=h.r.da;unfold oU pm pj pi ph pg pf;simp only [s1,s4,s8,s3,a6,hask,bs,h.b.b8,Em];unfold GC;simp only;generalize sB d.Has 1=x1 at*;generalize sB d.Has 2=x2 at*;generalize sB d.Has 4=x4 at*;generalize sB d.Has 8=x8 at*;generalize sB p.Zk 8=y at*
 cases x1<;>cases x2<;>cases x4<;>cases x8<;>cases y<;>first
  |exact absurd hda (by decide)
  |exact congrArg some (congrArg (fun a=>(⟨k,a,_,_,_⟩:WS)) f1)
  |exact congrArg some (congrArg (fun a=>(⟨k,a,_,_,_⟩:WS)) f2)
  |exact congrArg some (congrArg (fun a=>(⟨k,a,_,_,_⟩:WS)) f3)
theorem IA {b:Int}(h:(!decide (ai .i64 n b=0))=sB n b):decide (ai .i64 n b=0)=!sB n b:=by rw [<-h,Bool.not_not]
theorem IZ (N:Nat){d:WW}(hb:0<=p.Zk/\p.Zk<=15)(h:Bits N d p.Zk):pz N p d=ic N p d:=by
 obtain ⟨s1,s2,s4,s8,a6,a7,s3,a8⟩:=HU N h.six;have hx:=QA ⟨d.Zk.toNat,by have:=h.r.a;omega⟩ ⟨p.Zk.toNat,by omega⟩;simp only [Xz h.r.a.1,Xz hb.1] at hx;unfold pz ic;simp only [Sg,kw,h.says 1 I,h.says 2 I,h.says 4 I,h.says 8 I,h.says 16 I,h.says 32 I,h.da 4 I,h.da 2 I,h.da 1 I,h.pb 2 I,h.pb 8 I,h.pb 1 I,h.data,h.acc,s1,s2,s4,s8,a6,a7,s3,a8,bs,Em,h.a.b4,hx,h.b.b8,IA h.b.b1,h.a.b1,Qc,Sd];generalize (sB d.Has 32&&sB d.Zk 4)=A;generalize (sB d.Has 16&& !(sB d.Zk 2==sB p.Zk 2))=B;generalize sB p.Zk 8=y;generalize decide (d.Zx=p.Zx)=g;generalize decide (d.Zy=p.Zy)=s;generalize decide (d.Value=p.Value)=v;generalize sB d.Has 1=x1;generalize sB d.Has 2=x2;generalize sB d.Has 4=x4;generalize sB d.Has 8=x8;generalize sB p.Zk 1=p1;generalize sB d.Zk 1=a1
 cases A<;>cases B<;>first|rfl|skip
 cases y
 ·cases x4<;>cases x8<;>first|rfl|skip
  cases p1<;>cases x2<;>cases a1<;>cases x1<;>rfl
 rfl
theorem LG (N:Nat){d:WW}{b:Int}(h:Bits N d b)(part m:Int)(hp:1<=part)(hm:1<=m)(was:Bool):ma N d part m was=some (bif bif sB d.Has part then sB d.Zk m else was then m else 0):=by
 unfold ma uV;rw [h.says part hp,bs,h.da m hm,bs];cases sB d.Has part<;>cases sB d.Zk m<;>cases was<;>rfl
theorem OF (a b:Int)(s:Bool){m:Int}(hm:0<=m):0<=kN a b s m/\kN a b s m<=m:=by
 unfold kN;cases (bif s then sB a m else sB b m)<;>constructor<;>simp<;>omega
theorem Wi (m:Int):sB 0 m=false:=by
 unfold sB;rw [Int.zero_tdiv];rfl
theorem Tz (N:Nat)(k:WX){d:WW}(h:Bits N d 0):wP N d k=some (GC k zeroP d):=by
 have hda:=h.r.da;have hv:=h.r.v;have hg:=h.r.g.1;have hs:=h.r.s.1
 have i1:in64 ((0:Int)+2):=by decide
 have i2:in64 ((0:Int)+2+4):=by decide
 have i3:in64 ((0:Int)+4):=by decide
 have i4:in64 ((0:Int)+2+4+8):=by decide
 have i5:in64 ((0:Int)+2+8):=by decide
 have i6:in64 ((0:Int)+4+8):=by decide
 have i7:in64 ((0:Int)+8):=by decide
 have i8:in64 ((0:Int)+2+4+1):=by decide
 have i9:in64 ((0:Int)+2+1):=by decide
 have j1:in64 ((0:Int)+4+1):=by decide
 have j2:in64 ((0:Int)+1):=by decide
 unfold wP uW tj th;simp only [h.says 16 I,h.says 32 I,h.says 2 I,h.acc,h.da 2 I,h.da 4 I,h.da 1 I,bs,Em,Qc,cj i1,cj i2,cj i3,cj i4,cj i5,cj i6,cj i7,cj i8,cj i9,cj j1,cj j2];unfold GC kN;simp only [show zeroP.Zk=0 from rfl,show zeroP.Value=v0 from rfl,show zeroP.Zx=v0 from rfl,show zeroP.Zy=v0 from rfl,Wi];generalize sB d.Has 16=a6;generalize sB d.Has 32=a7;generalize sB d.Zk 2=a2;generalize sB d.Zk 4=a4;generalize sB d.Zk 1=a1;generalize sB d.Has 1=x1 at*;generalize sB d.Has 2=x2 at*;generalize sB d.Has 4=x4 at*;generalize sB d.Has 8=x8 at*
 cases x1<;>cases x2<;>cases x4<;>cases x8<;>first
  |exact absurd hda (by decide)
  |(cases a6<;>cases a2<;>cases a7<;>cases a4<;>cases a1<;>simp_all<;>first|rfl|exact ⟨rfl,rfl⟩|exact ⟨rfl,rfl,rfl⟩)
theorem zN (N:Nat)(k:WX){d:WW}(hb:0<=p.Zk/\p.Zk<=15)(h:R25 d)(has ext:Bool):dw N p has ext k d=bif !has then (bif !ext then some (zeroP,false) else some (GC k zeroP d,true)) else (bif !sB p.Zk 4 then ic N p d else some false).bind fun b=>some (bif b then (zeroP,false) else (GC k p d,true)):=by
 have hB:=zL N h hb;have h0:=zL N h (b:=0) ⟨Xu _,by omega⟩;have hc:=Kd N k hb hB
 have hf:vl N d k=some (GC k zeroP d):=by
  unfold vl;have:=Kd N k (p:=zeroP) ⟨Xu _,by show (0:Int)<=15;omega⟩ h0;rw [show (⟨(⟨0,0,⟨#[]⟩⟩:WX),0,(⟨0,0,⟨#[]⟩⟩:WZ),(⟨0,0,⟨#[]⟩⟩:WZ),(⟨0,0,⟨#[]⟩⟩:WZ)⟩:WS)=zeroP from rfl,this,bs]
 unfold dw;rw [hf,hc,IA hB.b.b4]
 cases has with
 |false=>cases ext<;>rfl
 | true=>
  rw [nt,cf,cf]
  cases sB p.Zk 4 with
  |true=>rfl
  |false=>
   rw [nf,ct,ct]
   cases e:ic N p d with
   |none=>rfl
   |some b=>cases b<;>rfl
theorem MV (N:Nat)(k:WX){d:WW}(hb:0<=p.Zk/\p.Zk<=15)(hn:Nrm p)(h:R25 d)(has ext:Bool):lF N p has ext k d=dw N p has ext k d:=by
 rw [zN N k hb h];have hB:=zL N h hb;have h0:=zL N h (b:=0) ⟨Xu _,by omega⟩;unfold lF;rw [Tz N k h0,hB.pb 4 I,IZ N hb hB]
 cases has with
 |false=>cases ext<;>rfl
 | true=>
  rw [nt,cf,cf,bs];have hv:=OF d.Zk p.Zk (sB d.Has 16) (m:=2) I;have hl:=OF d.Zk p.Zk (sB d.Has 32) (m:=4) I
  have hr: ∀b9:Bool,(bif b9 then (some ((⟨(⟨0,0,⟨#[]⟩⟩:WX),0,(⟨0,0,⟨#[]⟩⟩:WZ),(⟨0,0,⟨#[]⟩⟩:WZ),(⟨0,0,⟨#[]⟩⟩:WZ)⟩:WS),false)) else ((bP N p.Zk 2).bind fun b0=>(ma N d 16 2 b0).bind fun a6=>(some (sB p.Zk 4)).bind fun b5=>(ma N d 32 4 b5).bind fun y16=>aI (in64 (a6+y16)) ((bP N p.Zk 8).bind fun a7=>(dE N d).bind fun b6=>(bif b6 then (some true) else ((bif a7 then ((kE N d).bind fun b7=>some (!b7)) else (some false)).bind fun c7=>some c7)).bind fun c8=>bif c8 then (aI (in64 ((a6+y16)+8)) ((bc N d 4).bind fun c9=>(ny N c9 d.Zx a7 p.Zx).bind fun d0=>(bc N d 8).bind fun d1=>(ny N d1 d.Zy a7 p.Zy).bind fun d2=>some ((⟨k,(a6+y16)+8,(⟨0,0,⟨#[]⟩⟩:WZ),d0,d2⟩:WS),true))) else ((bif !a7 then ((bP N p.Zk 1).bind fun d3=>some d3) else (some false)).bind fun d4=>(ma N d 2 1 d4).bind fun a8=>aI (in64 ((a6+y16)+a8)) ((bc N d 1).bind fun d6=>(ny N d6 d.Value (!a7) p.Value).bind fun e0=>some ((⟨k,(a6+y16)+a8,e0,(⟨0,0,⟨#[]⟩⟩:WZ),(⟨0,0,⟨#[]⟩⟩:WZ)⟩:WS),true))))))=some (bif b9 then (zeroP,false) else (GC k p d,true)):=fun b9=>by
   cases b9 with
   |true=>rfl
   | false=>
    have hd:=h.da;have hv1:=h.v;have hg1:=h.g.1;have hs1:=h.s.1
    have hn1:sB p.Zk 8=false->p.Zx=v0/\p.Zy=v0:=fun e=>hn.d (Y8 (by rw [IA hB.b.b8,e];rfl))
    have hn2:sB p.Zk 8=true->p.Value=v0:=fun e=>hn.a (Y7 (by rw [IA hB.b.b8,e];rfl))
    have e1:(bif bif sB d.Has 16 then sB d.Zk 2 else sB p.Zk 2 then (2:Int) else 0)=kN d.Zk p.Zk (sB d.Has 16) 2:=rfl;have e2:(bif bif sB d.Has 32 then sB d.Zk 4 else sB p.Zk 4 then (4:Int) else 0)=kN d.Zk p.Zk (sB d.Has 32) 4:=rfl
    have i1:in64 (kN d.Zk p.Zk (sB d.Has 16) 2+kN d.Zk p.Zk (sB d.Has 32) 4):=by unfold in64;omega
    have i2:in64 (kN d.Zk p.Zk (sB d.Has 16) 2+kN d.Zk p.Zk (sB d.Has 32) 4+8):=by unfold in64;omega
    have i3: ∀b:Bool,in64 (kN d.Zk p.Zk (sB d.Has 16) 2+kN d.Zk p.Zk (sB d.Has 32) 4+(bif b then 1 else 0)):=fun b=>by unfold in64;cases b<;>simp<;>omega
    unfold ny;simp only [cf,hB.pb 2 I,hB.pb 8 I,hB.pb 1 I,LG N hB 16 2 I I,LG N hB 32 4 I I,LG N hB 2 1 I I,hB.acc,hB.data,hB.says 4 I,hB.says 8 I,hB.says 1 I,bs,Em,e1,e2,cj i1,cj i2,cj (i3 _)];refine congrArg some ?_;unfold GC;simp only;have ev:kN d.Zk p.Zk (sB d.Has 2) 1=bif bif sB d.Has 2 then sB d.Zk 1 else sB p.Zk 1 then 1 else 0:=rfl;rw [ev];generalize kN d.Zk p.Zk (sB d.Has 16) 2=V;generalize kN d.Zk p.Zk (sB d.Has 32) 4=hJ;generalize sB d.Zk 1=a1;generalize sB p.Zk 1=p1;generalize sB d.Has 1=x1 at*;generalize sB d.Has 2=x2 at*;generalize sB d.Has 4=x4 at*;generalize sB d.Has 8=x8 at*;generalize sB p.Zk 8=y at*
    cases x1<;>cases x2<;>cases x4<;>cases x8<;>first
     |exact absurd hd (by decide)
     |(cases y<;>cases a1<;>cases p1<;>simp_all<;>first|rfl|exact ⟨rfl,rfl⟩|exact ⟨rfl,rfl,rfl⟩)
  cases e4:sB p.Zk 4 with
  |true=>rw [e4] at hr;exact hr false
  |false=>
   rw [e4] at hr;rw [nf,ct,ct]
   cases e:ic N p d with
   |none=>rfl
   |some b=>exact hr b
set_option maxRecDepth 20000
structure Prim (x:WZ):Prop where
 may:ln x=true
 i64:in64 x.N
 no:bO x=false
theorem Prim.w (h:Prim x)(m:WY):ValW m x:=⟨h.may,h.i64,fun e=>by rw [h.no] at e;cases e⟩
theorem Prim.n9 (h:Prim x):x.Zh≠9:=fun e=>by
 have:=h.no;unfold bO at this;rw [e] at this;cases this
theorem Mh:Prim v0:=⟨SA,by decide,rfl⟩
theorem ut:Prim cN:=⟨by kernel_rfl,by decide,rfl⟩
structure PV (N:Nat) (p:WS):Prop where
 v:Prim p.Value
 v8:p.Value.Zh≠8
 g:p.Zx=v0
 s:p.Zy=v0
 a:Aa p.Zk
 n:Nrm p
 k:keyR N p.Zo
theorem PV.w {N:Nat}(h:PV N p)(m:WY):PropW m p:=⟨⟨h.v.w m,h.v.n9⟩,by rw [h.g];exact ⟨QD m,.inl rfl⟩,by rw [h.s];exact ⟨QD m,.inl rfl⟩⟩
theorem PV.norm {N:Nat}(h:PV N p):mW p=p:=by
 by_cases e:ai .i64 p.Zk 8=0
 ·rw [De e, <-(h.n.d e).1];have:=(h.n.d e).1.trans (h.n.d e).2.symm
  conv=>lhs;arg 5;rw [this]
 rw [FK e, <-h.n.a e]
structure Sim (N:Nat) (i:Int) (k q:Nat) (w:WP) (c:W3) (d:W6):Prop where
 ob:Obj N i k q w c d.Zt
 ar:c.Zh=2
 el:c.Zi=d.Zs
 ex:IQ c=d.Ext
 fx:(!decide (ai .i64 c.Zm 32=0))=d.Zz
 wf:Wf d
 pv: ∀p∈d.Zt,PV N p
 ev: ∀x∈d.Zs,Prim x
theorem Sim.up {N k k' q':Nat}{w:WP}(h:Sim N i k q w c d)(h1:k<=k')(h2:q<=q'):Sim N i k' q' w c d:=⟨h.ob.up h1 h2,h.ar,h.el,h.ex,h.fx,h.wf,h.pv,h.ev⟩
theorem HF (h:ln x=true)(h8:x.Zh=8):x=cN:=by
 obtain ⟨a,b,s⟩:=x;simp only at h8;subst h8;unfold ln dN at h
 cases e:(s.toList==(⟨#[]⟩:ByteArray).toList) with
 |false=>
  rw [show ((⟨8,b,s⟩:WZ).S.toList==(⟨#[]⟩:ByteArray).toList)=false from e] at h;exact absurd h (by show¬(Option.getD (some false) false)=true;decide)
 |true=>
  have hs:=oY.1 (eq_of_beq e);subst hs;rw [show ((⟨8,b,⟨#[]⟩⟩:WZ).S.toList==(⟨#[]⟩:ByteArray).toList)=true from e] at h;have h2:(Option.getD (some (decide (b=0))) false)=true:=h;have:b=0:=Y8 h2;subst this;rfl
section
variable {N:Nat}(hN:20000<=N)(hv:v.Zh=7)(hvN:v.N=i){k:Nat}(hk:k<=580){w:WP}(hM:d.Zs.length<=2200)(h:Sim N i k q w c d)
include hN hv hvN hk hM h
omit hN in
theorem vS:ca N w v=some (c,true):=by
 rw [SK hv hvN hk (by rw [h.el];exact hM) h.ob,W9 h.ar]
omit hN in
theorem TO:pT N w v=some (d.Zs.length:Int):=by
 unfold pT;rw [vS hv hvN hk hM h,bs,nt,cf,h.el]
omit hN in
theorem TQ:vt N w v=some d.Zs:=by
 unfold vt;rw [vS hv hvN hk hM h,bs,nt,cf,h.el]
omit hN in
theorem UT:xm N w v=some true:=by
 unfold xm;rw [vS hv hvN hk hM h,bs]
omit hN hv hvN hk in
theorem H3:nJ N c=some (wk d):=by
 have _:=hM
 have e:cg N=some lenK:=rfl;unfold nJ po wk;rw [e,bs,h.fx,h.el];cases d.Zz<;>rfl
theorem LI (key:WX):lI N w v key=some (ni d key):=by
 have e:cg N=some lenK:=rfl;have hoo:=Pa hN hv hvN hk (by rw [h.el];exact hM) h.ob key;unfold lI;rw [vS hv hvN hk hM h,bs,nt,cf,e,bs];unfold ni;by_cases hl:key=lenK
 ·rw [W9 hl,ct,ct,H3 hM h,bs]
 rw [Xa hl,cf,cf,hoo];unfold sT;by_cases h0:key.Zh=0
 ·rw [W9 h0,ct];unfold bd;rw [W9 h0,ct];by_cases hS:key=lD key.N
  ·have hS':(key.S.toList==(⟨#[]⟩:ByteArray).toList)=true:=by rw [hS];exact beq_self_eq_true _
   rw [hS',ct,bs,W9 hS];by_cases hn:0<=key.N
   ·rw [W9 hn,ct,bs,bs,bs,Xs,cond_true];by_cases hlt:key.N<(d.Zs.length:Int)
    ·have hlt':key.N.toNat<d.Zs.length:=by omega
     have hg:aq d.Zs key.N=some d.Zs[key.N.toNat]:=by
      have:=aM hlt'
      rwa [show ((key.N.toNat:Nat):Int)=key.N by omega] at this
     have hth:eu N c key.N=some (!decide (d.Zs[key.N.toNat]=cN)):=by
      unfold eu;rw [h.el,W9 hlt,ct,hg,bs,bs];rfl
     rw [W9 (show key.N<=4294967294 by omega),ct,hth,bs,bs,h.el,hg,XX hlt'];by_cases h8:d.Zs[key.N.toNat]=cN
     ·simp only [W9 h8,cond_true];rfl
     simp only [Xa h8,cond_false];rfl
    have hth:eu N c key.N=some false:=by
     unfold eu;rw [h.el,Xa hlt,cf,bs]
    rw [XY I];cases decide (key.N<=4294967294)
    ·rfl
    rw [ct,hth];rfl
   rw [Xa hn];rfl
  have hS':(key.S.toList==(⟨#[]⟩:ByteArray).toList)=false:=by
   cases e:(key.S.toList==(⟨#[]⟩:ByteArray).toList) with
   |false=>rfl
   |true=>
    refine absurd ?_ hS;have:key.S=⟨#[]⟩:=oY.1 (eq_of_beq e);obtain ⟨a,b,s⟩:=key;simp only at this h0;subst this h0;rfl
  rw [hS',cf,bs,Xa hS,Xq,cond_false];rfl
 rw [Xa h0,cf,bs,cf,bs,cf,bs,Xa (fun e=>h0 (by rw [e];rfl)),Xq,cond_false]
end
end
section
open Go.RowKit
set_option maxRecDepth 20000
theorem Pk (h:ln x=true):0<=x.Zh/\x.Zh<=9:=by
 unfold ln dN at h;by_cases h0:x.Zh<0
 ·rw [W9 h0,ct,bs,ct] at h;cases h
 by_cases h9:9<x.Zh
 ·rw [Xa h0,cf,W9 h9,bs,ct] at h;cases h
 omega
structure PD (d:WW):Prop where
 r:R25 d
 v:Prim d.Value
 v8:d.Value.Zh≠8
 g:d.Zx=v0
 s:d.Zy=v0
def D7 (vis loose acc w:Bool):Int:=((bif vis then 2 else 0)+(bif loose then 4 else 0))+(bif acc then 8 else bif w then 1 else 0)
theorem Kk: ∀vis loose acc w:Bool,(0<=D7 vis loose acc w/\D7 vis loose acc w<=15/\ai .i64 (D7 vis loose acc w) 9≠9)/\(ai .i64 (D7 vis loose acc w) 8=0↔acc=false)/\sB (D7 vis loose acc w) 4=loose/\(D7 vis loose acc w=7->acc=false/\loose=true):=by decide+kernel
theorem Kf (k:WX)(p:WS)(d:WW): ∃vis loose w,(GC k p d).Zk=D7 vis loose ((sB d.Has 4||sB d.Has 8)||(sB p.Zk 8&& !(sB d.Has 1||sB d.Has 2))) w/\loose=bif sB d.Has 32 then sB d.Zk 4 else sB p.Zk 4:=by
 unfold GC kN D7;simp only;cases (sB d.Has 4||sB d.Has 8)||(sB p.Zk 8&& !(sB d.Has 1||sB d.Has 2))
 ·refine ⟨bif sB d.Has 16 then sB d.Zk 2 else sB p.Zk 2,_,bif sB p.Zk 8 then sB d.Has 2&&sB d.Zk 1 else bif sB d.Has 2 then sB d.Zk 1 else sB p.Zk 1,?_,J⟩;cases sB p.Zk 8<;>rfl
 exact ⟨bif sB d.Has 16 then sB d.Zk 2 else sB p.Zk 2,_,false,J,J⟩
theorem P7 {N:Nat}(hk:keyR N k){d:WW}(hd:PD d)(hv:Prim p.Value)(h8:p.Value.Zh≠8)(hg:p.Zx=v0)(hs:p.Zy=v0):PV N (GC k p d):=by
 obtain ⟨vis,loose,w,ha, -⟩:=Kf k p d;obtain ⟨m1,m2, -, -⟩:=Kk vis loose ((sB d.Has 4||sB d.Has 8)||(sB p.Zk 8&& !(sB d.Has 1||sB d.Has 2))) w;have hda:=hd.r.da
 have eg:(GC k p d).Zx=v0:=by
  show (bif sB d.Has 4 then d.Zx else bif _ then p.Zx else v0)=v0;rw [hd.g,hg]
  cases sB d.Has 4<;>first|rfl|skip
  show (bif _ then v0 else v0)=v0;cases ((sB d.Has 4||sB d.Has 8)||(sB p.Zk 8&& !(sB d.Has 1||sB d.Has 2)))&&sB p.Zk 8<;>simp
 have es:(GC k p d).Zy=v0:=by
  show (bif sB d.Has 8 then d.Zy else bif _ then p.Zy else v0)=v0;rw [hd.s,hs];cases sB d.Has 8<;>simp
 have ev:(GC k p d).Value=d.Value\/(GC k p d).Value=p.Value\/(GC k p d).Value=v0:=by
  show (bif sB d.Has 1 then d.Value else bif _ then p.Value else v0)=_\/(bif sB d.Has 1 then d.Value else bif _ then p.Value else v0)=_\/(bif sB d.Has 1 then d.Value else bif _ then p.Value else v0)=_;cases sB d.Has 1
  ·cases (!((sB d.Has 4||sB d.Has 8)||(sB p.Zk 8&& !(false||sB d.Has 2)))&& !sB p.Zk 8)
   ·exact .inr (.inr J)
   exact .inr (.inl J)
  exact .inl J
 refine ⟨?_,?_,eg,es,by rw [ha];exact m1,⟨fun _=>⟨eg,es⟩,fun e=> ?_⟩,hk⟩
 ·rcases ev with e|e|e<;>rw [e]
  ·exact hd.v
  ·exact hv
  exact Mh
 ·rcases ev with e|e|e<;>rw [e]
  ·exact hd.v8
  ·exact h8
  decide
 rw [ha] at e
 have hacc:((sB d.Has 4||sB d.Has 8)||(sB p.Zk 8&& !(sB d.Has 1||sB d.Has 2)))=true:=by
  cases e2:((sB d.Has 4||sB d.Has 8)||(sB p.Zk 8&& !(sB d.Has 1||sB d.Has 2))) with
  |true=>rfl
  |false=>rw [e2] at e m2;exact absurd (m2.2 J) e
 have h1:sB d.Has 1=false:=by
  cases e1:sB d.Has 1 with
  |false=>rfl
  |true=>
   rw [e1] at hacc hda
   cases e4:(sB d.Has 4||sB d.Has 8) with
   |true=>rw [e4] at hda;cases hda
   |false=>rw [e4] at hacc;simp at hacc
 show (bif sB d.Has 1 then d.Value else bif !((sB d.Has 4||sB d.Has 8)||(sB p.Zk 8&& !(sB d.Has 1||sB d.Has 2)))&& !sB p.Zk 8 then p.Value else v0)=v0;rw [hacc,h1];rfl
theorem MU (N:Nat)(hk:keyR N k){d:WW}(hd:PD d)(hb:0<=p.Zk/\p.Zk<=15)(hv:Prim p.Value)(h8:p.Value.Zh≠8)(hg:p.Zx=v0)(hs:p.Zy=v0)(has ext:Bool): ∃y,dw N p has ext k d=some y/\(y.2=true->PV N y.1/\y.1.Zo=k/\(has=true->sB p.Zk 4=false->sB y.1.Zk 4=false)):=by
 rw [zN N k hb hd.r];have hz:PV N (GC k zeroP d):=P7 hk hd Mh (by decide) rfl rfl;have hp:=P7 hk hd hv h8 hg hs
 cases has with
 |false=>
  cases ext with
  |false=>exact ⟨_,rfl,fun h=>by cases h⟩
  |true=>exact ⟨_,rfl,fun _=>⟨hz,rfl,fun h=>by cases h⟩⟩
 | true=>
  rw [nt,cf]
  cases h4:sB p.Zk 4 with
  |true=>exact ⟨_,rfl,fun _=>⟨hp,rfl,fun _ h=>by cases h⟩⟩
  | false=>
   rw [nf,ct];have hB:=zL N hd.r hb;obtain ⟨vis,loose,w,ha,hl⟩:=Kf k p d;obtain ⟨-, -,m3, -⟩:=Kk vis loose ((sB d.Has 4||sB d.Has 8)||(sB p.Zk 8&& !(sB d.Has 1||sB d.Has 2))) w;obtain ⟨-, -, -, -, -,b6, -, -⟩:=HU N hB.six
   have hbars: ∃b,ic N p d=some b/\(b=false->(sB d.Has 32&&sB d.Zk 4)=false):=by
    rw [<-IZ N hb hB];unfold pz;rw [hB.says 32 I,bs,hB.da 4 I,bs,Em,bs,Qc]
    cases e:(sB d.Has 32&&sB d.Zk 4) with
    |true=>exact ⟨true,rfl,fun h=>by cases h⟩
    | false=>
     rw [cf]
     have: ∃b,ic N p d=some b:=by
      obtain ⟨s1,s2,s4,s8,a6,s32',s3,a7⟩:=HU N hB.six;unfold ic;simp only [kw,s1,s2,s4,s8,a6,s32',s3,a7,bs,Em];cases (bif bif sB d.Has 32 then !decide (ai .i64 d.Zk 4=0) else false then true else bif sB d.Has 16 then !decide (ai .i64 (EQ .i64 d.Zk p.Zk) 2=0) else false)<;>cases decide (ai .i64 p.Zk 8=0)<;>cases (sB d.Has 4||sB d.Has 8)<;>exact ⟨_,rfl⟩
     obtain ⟨b,hb'⟩:=this;rw [<-IZ N hb hB] at hb';unfold pz at hb';rw [hB.says 32 I,bs,hB.da 4 I,bs,Em,bs,Qc,e,cf] at hb';exact ⟨b,hb',fun _=>J⟩
   obtain ⟨b,a8,b0⟩:=hbars;rw [a8,bs]
   cases b with
   |true=>exact ⟨_,rfl,fun h=>by cases h⟩
   |false=>
    refine ⟨_,J,fun _=>⟨hp,J,fun _ _=> ?_⟩⟩;show sB (GC k p d).Zk 4=false;rw [ha,m3,hl,h4];have:=b0 rfl
    cases b5:sB d.Has 32 with
    |true=>rw [b5] at this;exact this
    |false=>rfl
set_option maxRecDepth 20000
structure OwnOk (p:WS):Prop where
 b:0<=p.Zk/\p.Zk<=15
 v:Prim p.Value
 v8:p.Value.Zh≠8
 g:p.Zx=v0
 s:p.Zy=v0
 n:Nrm p
theorem PV.own {N:Nat}(h:PV N p):OwnOk p:=⟨⟨h.a.1,h.a.2.1⟩,h.v,h.v8,h.g,h.s,h.n⟩
theorem OD:OwnOk zeroP:=⟨⟨Xu _,by show (0:Int)<=15;omega⟩,Mh,by decide,rfl,rfl,⟨fun _=>⟨rfl,rfl⟩,fun _=>rfl⟩⟩
theorem Jz (h0:-9007199254740992<=n)(h1:n<=9007199254740992):Prim ⟨3,n,⟨#[]⟩⟩:=by
 refine ⟨?_,?_,J⟩
 ·unfold ln dN;rw [show ((⟨3,n,⟨#[]⟩⟩:WZ).S.toList==(⟨#[]⟩:ByteArray).toList)=true from beq_self_eq_true _];show (Option.getD (Option.bind (bif decide (-9007199254740992<=n) then some (decide (n<=9007199254740992)) else some false) _) false)=true;rw [W9 h0,W9 h1];rfl
 show in64 n;unfold in64;omega
theorem Nrm.of (h1:ai .i64 p.Zk 8=0)(h2:p.Zx=v0)(h3:p.Zy=v0):Nrm p:=⟨fun _=>⟨h2,h3⟩,fun e=>absurd h1 e⟩
theorem QV {N:Nat}(hn:(PL.map (·.Zo)).Nodup)(hp:∀p∈PL,PV N p)(key:WX):OwnOk (nh PL key).1:=by
 rcases zz hn key with ⟨p,hm, -,e⟩|⟨-,e⟩<;>rw [e]
 ·exact (hp p hm).own
 exact OD
theorem wu {E:List WZ}(h:sT E k=some x):x∈E/\x≠cN/\k=lD k.N/\0<=k.N/\E[k.N.toNat]? =some x:=by
 unfold sT at h;by_cases h1:k=lD k.N
 ·by_cases h2:0<=k.N
  ·rw [W9 h1,W9 h2,Bool.and_self,cond_true] at h
   cases e:E[k.N.toNat]? with
   |none=>rw [e] at h;cases h
   |some y=>
    rw [e] at h;by_cases h3:y=cN
    ·simp only [W9 h3,cond_true] at h;cases h
    simp only [Xa h3,cond_false] at h;obtain rfl:=bJ h;exact ⟨Yo e,h3,h1,h2,J⟩
  rw [Xa h2,Xp,cond_false] at h;cases h
 rw [Xa h1,Xq,cond_false] at h;cases h
theorem KW {N:Nat}(hE:d.Zs.length<=2200)(hw:Wf d)(hp:∀p∈d.Zt,PV N p)(hv:∀x∈d.Zs,Prim x)(key:WX):OwnOk (ni d key).1:=by
 unfold ni
 cases decide (key=lenK) with
 |true=>
  show OwnOk (wk d);unfold wk;cases d.Zz
  ·exact ⟨⟨by show (0:Int)<=1;omega,by show (1:Int)<=15;omega⟩,Jz I I,by show (3:Int)≠8;decide,rfl,rfl,Nrm.of (by show ai .i64 1 8=0;decide) rfl rfl⟩
  exact ⟨⟨by show (0:Int)<=0;omega,by show (0:Int)<=15;omega⟩,Jz I I,by show (3:Int)≠8;decide,rfl,rfl,Nrm.of (by show ai .i64 0 8=0;decide) rfl rfl⟩
 | false=>
  rw [cond_false]
  cases e:sT d.Zs key with
  |none=>exact QV hw.nd hp key
  |some x=>
   obtain ⟨h1,h2, -⟩:=wu e;have hx:=hv x h1;exact ⟨⟨by show (0:Int)<=7;omega,by show (7:Int)<=15;omega⟩,hx,fun h8=>h2 (HF hx.may h8),J,J,Nrm.of (by show ai .i64 7 8=0;decide) J J⟩
def Q4 (p:WS):WW:=bif !decide (ai .i64 p.Zk 8=0) then ⟨60,ai .i64 p.Zk 6,v0,p.Zx,p.Zy⟩ else ⟨51,ai .i64 p.Zk 7,p.Value,v0,v0⟩
theorem Th: ∀a:_root_.Fin 16,ai .i64 (a.val:Int) 9≠9->(0<=ai .i64 (a.val:Int) 6/\ai .i64 (a.val:Int) 6<=7)/\(0<=ai .i64 (a.val:Int) 7/\ai .i64 (a.val:Int) 7<=7)/\sB (ai .i64 (a.val:Int) 6) 1=false/\
  (ai .i64 (a.val:Int) 8=0->kN (ai .i64 (a.val:Int) 7) 7 true 2+kN (ai .i64 (a.val:Int) 7) 7 true 4+kN (ai .i64 (a.val:Int) 7) 7 true 1=(a.val:Int))/\(ai .i64 (a.val:Int) 8≠0->kN (ai .i64 (a.val:Int) 6) 7 true 2+kN (ai .i64 (a.val:Int) 6) 7 true 4+8=(a.val:Int)):=by decide+kernel
theorem PV.of {N:Nat}(h:PV N p):PD (Q4 p)/\GC p.Zo ⟨p.Zo,7,v0,v0,v0⟩ (Q4 p)=p:=by
 have hf:=Th ⟨p.Zk.toNat,by have:=h.a.1;have:=h.a.2.1;omega⟩;simp only [Xz h.a.1] at hf;obtain ⟨f1,f2,f3,f4,f5⟩:=hf h.a.2.2;have hk:=Pk h.v.may;by_cases h8:ai .i64 p.Zk 8=0
 ·have e:Q4 p=⟨51,ai .i64 p.Zk 7,p.Value,v0,v0⟩:=by unfold Q4;rw [W9 h8];rfl
  rw [e];refine ⟨⟨⟨by show (0:Int)<=51/\(51:Int)<=63;decide,f2,by show ((sB 51 1||sB 51 2)&&(sB 51 4||sB 51 8))=false;decide,by show (_&& !sB 51 2)=false;rw [show sB 51 2=true by decide];simp,by show (_&& !sB 51 16)=false;rw [show sB 51 16=true by decide];simp,by show (_&& !sB 51 32)=false;rw [show sB 51 32=true by decide];simp,(fun h=>absurd h (by show¬sB 51 1=false;decide)),⟨hk.1,?_⟩,⟨fun _=>rfl,fun h=>absurd h (by show¬sB 51 4=true;decide)⟩,⟨fun _=>rfl,fun h=>absurd h (by show¬sB 51 8=true;decide)⟩⟩,h.v,h.v8,J,J⟩,?_⟩
  ·have h1:=h.v8;have h2:=h.v.n9;show p.Value.Zh<=7;omega
  have hs:=h.n.d h8;show (⟨p.Zo,kN (ai .i64 p.Zk 7) 7 true 2+kN (ai .i64 p.Zk 7) 7 true 4+kN (ai .i64 p.Zk 7) 7 true 1,p.Value,v0,v0⟩:WS)=p;rw [f4 h8, <-hs.1];have:=hs.1.trans hs.2.symm
  conv=>lhs;arg 5;rw [this]
 have e:Q4 p=⟨60,ai .i64 p.Zk 6,v0,p.Zx,p.Zy⟩:=by unfold Q4;rw [Xa h8];rfl
 rw [e];refine ⟨⟨⟨by show (0:Int)<=60/\(60:Int)<=63;decide,f1,by show ((sB 60 1||sB 60 2)&&(sB 60 4||sB 60 8))=false;decide,by show (sB (ai .i64 p.Zk 6) 1&&_)=false;rw [f3];rfl,by show (_&& !sB 60 16)=false;rw [show sB 60 16=true by decide];simp,by show (_&& !sB 60 32)=false;rw [show sB 60 32=true by decide];simp,(fun _=>rfl),by show (0:Int)<=0/\(0:Int)<=7;decide,⟨fun h=>absurd h (by show¬sB 60 4=false;decide),fun _=> .inl (by show p.Zx.Zh=0;rw [h.g];rfl)⟩,⟨fun h=>absurd h (by show¬sB 60 8=false;decide),fun _=> .inl (by show p.Zy.Zh=0;rw [h.s];rfl)⟩⟩,Mh,by show (0:Int)≠8;decide,h.g,h.s⟩,?_⟩;show (⟨p.Zo,kN (ai .i64 p.Zk 6) 7 true 2+kN (ai .i64 p.Zk 6) 7 true 4+8,v0,p.Zx,p.Zy⟩:WS)=p;rw [f5 h8, <-h.n.a h8]
theorem Fw (hn:(PL.map (·.Zo)).Nodup){r:WS}(e:p.Zo=r.Zo):uK (uK PL p) r=uK PL r/\nh (uK PL p) r.Zo=(p,true)/\((uK PL p).map (·.Zo)).Nodup:=by
 rcases yR (PL:=PL) (k:=p.Zo) with ⟨n,u,h1,h2, -⟩|h
 ·have hlt:=(XZ.1 h1).1;have h3:(PL.set n p)[n]? =some p:=X4 hlt
  have h4:((PL.set n p).map (·.Zo)).Nodup:=by
   have:(PL.set n p).map (·.Zo)=PL.map (·.Zo):=by
    rw [List.map_set];refine By ?_;rw [X0,h1, <-h2];rfl
   rw [this];exact hn
  rw [zy hn h1 h2,zy h4 h3 e,zy hn h1 (h2.trans e),List.set_set, <-e];exact ⟨J,rS h4 h3,h4⟩
 have h3:(PL++ [p])[PL.length]? =some p:=by rw [XT (YM _),YR];rfl
 have h4:((PL++ [p]).map (·.Zo)).Nodup:=by
  rw [Yf];refine Yt.2 ⟨hn,by simp,fun a ha b hb' e'=> ?_⟩;rw [List.map_singleton,Ys] at hb';obtain ⟨u,u1,u2⟩:=Yn.1 ha;exact h u u1 (by rw [u2,e',hb'])
 rw [EA h,zy h4 h3 e,EA (p:=r) (by rw [<-e];exact h), <-e];refine ⟨?_,rS h4 h3,h4⟩;rw [List.set_append_right _ _ (YM _),YR];rfl
section
variable {N:Nat}(hN:20000<=N)(hv:v.Zh=7)(hvN:v.N=i){k:Nat}{w:WP}
include hN hv hvN
theorem TP (h:Obj N i k q w c PL)(hk:k+8<=580)(hq:q+2048<=1000000000)(hM:c.Zi.length<=2200)(hlen:PL.length<1000)(hp:PV N p):Sat (vp N w v p) fun w'=>Uc N i (k+8) (q+2048) w c (uK PL p) w':=by
 unfold vp
 have hA7:Aa 7:=by unfold Aa;decide
 refine (SY hN hv hvN h I I hM hp.k (QD _) (by decide) (a:=7) (by decide) hA7 I).bind fun r hr=> ?_
 obtain ⟨-,c1,o1,s1,f1⟩:=hr;have en:mW (⟨p.Zo,7,v0,v0,v0⟩:WS)=⟨p.Zo,7,v0,v0,v0⟩:=De (by show ai .i64 7 8=0;decide);rw [en] at o1
 have eof:zJ N p=some (Q4 p):=by
  unfold zJ yU Q4;rw [bs];cases decide (ai .i64 p.Zk 8=0)<;>rfl
 rw [eof,bs];obtain ⟨g1,g2,g3⟩:=Fw h.nodup (p:=⟨p.Zo,7,v0,v0,v0⟩) (r:=p) rfl;obtain ⟨hd,hch⟩:=hp.of
 have happ:dw N (nh (uK PL ⟨p.Zo,7,v0,v0,v0⟩) p.Zo).1 (nh (uK PL ⟨p.Zo,7,v0,v0,v0⟩) p.Zo).2 (IQ c1) p.Zo (Q4 p)=some (p,true):=by
  rw [g2];have:=zN N p.Zo (p:=⟨p.Zo,7,v0,v0,v0⟩) (by show (0:Int)<=7/\(7:Int)<=15;decide) hd.r true (IQ c1);rw [this,nt,cf,show sB (⟨p.Zo,7,v0,v0,v0⟩:WS).Zk 4=true by show sB 7 4=true;decide,nt,cf,bs,cf,hch]
 have hl:=Fy h ⟨p.Zo,7,v0,v0,v0⟩
 refine (Hs hN hv hvN o1 I I (by rw [s1.more];exact hM) hp.k happ (fun _=>⟨hp.w _,J,hp.a⟩) I).bind fun r2 hr2=>ad ?_
 obtain ⟨c2,o2,s2,f2⟩:=hr2.2.2 rfl;rw [hp.norm,g1] at o2;exact ⟨c2,o2.up I I,s1.trans s2,f1.trans f2⟩
end
end
section
open Go.RowKit
set_option maxRecDepth 20000
def CR (N:Nat)(i:Int)(k q:Nat)(w:WP)(d':W6)(w':WP):Prop:= ∃c',Sim N i k q w' c' d'/\FrW w w'
theorem vY {r:WS}(h:p∈uK PL r):p=r\/p∈PL:=by
 unfold uK at h;split at h
 ·rcases Yq h with h|h
  ·exact .inr h
  exact .inl h
 rcases Yi.1 h with h|h
 ·exact .inr h
 exact .inl (Ys.1 h)
theorem Me (hn:(PL.map (·.Zo)).Nodup)(p:WS):((uK PL p).map (·.Zo)).Nodup:=(Fw hn (p:=p) (r:=p) rfl).2.2
theorem Same.ext {c':W3}(h:Same c c'):IQ c'=IQ c:=by unfold IQ;rw [h.flags]
theorem NG (hl:key≠lenK)(h0:key.Zh≠0):ni d key=nh d.Zt key:=by
 unfold ni;rw [Xa hl,cond_false]
 cases e:sT d.Zs key with
 |none=>rfl
 |some x=>exact absurd (by rw [(wu e).2.2.1];rfl) h0
section
variable {N:Nat}(hN:20000<=N)(hv:v.Zh=7)(hvN:v.N=i){k:Nat}(hk:k+8<=580)(hq:q+2048<=1000000000){w:WP}(hM:d.Zs.length<=2200)(hL:d.Zt.length<1000)(h:Sim N i k q w c d)
include hN hv hvN hk hq hM hL h
theorem Bh (hR:keyR N key)(hd:PD dd): ∃z,ll N d key=some (ni d key)/\lF N (ni d key).1 (ni d key).2 d.Ext key dd=some z/\lI N w v key=some (ni d key)/\dw N (ni d key).1 (ni d key).2 (IQ c) key dd=some z/\(z.2=true->PV N z.1/\z.1.Zo=key/\((ni d key).2=true->sB (ni d key).1.Zk 4=false->sB z.1.Zk 4=false)):=by
 have _:=hq
 have ho:=KW hM h.wf h.pv h.ev key;obtain ⟨z,hz,hz2⟩:=MU N hR hd ho.b ho.v ho.v8 ho.g ho.s (ni d key).2 d.Ext;exact ⟨z,Fj hN I I h.wf key,by rw [MV N key ho.b ho.n hd.r];exact hz,LI hN hv hvN I hM h key,by rw [h.ex];exact hz,hz2⟩
theorem JA (key:WX){ρ:Type}(F:Bool->Option ρ):((lE N d key).bind fun a6=>(bif decide (a6<0) then (some (decide (1024<=(d.Zt.length:Int)))) else (some false)).bind F)=F false:=by
 have _:=hv
 have _:=hvN
 have _:=hk
 have _:=hq
 have _:=hM
 have _:=h
 have e:decide (1024<=(d.Zt.length:Int))=false:=Xa I;rcases yR (PL:=d.Zt) (k:=key) with ⟨n,p,h1,h2,h3⟩|hno
 ·rw [FD hN I h1 h2 h3,bs,Xa I,cf,bs]
 rw [FC hN I hno,bs,W9 I,ct,e,bs]
theorem Lu (hR:keyR N key)(hl:key≠lenK)(h0:key.Zh≠0)(hd:PD dd):
  Sat (jW N w v key dd) fun r=> ∃d',((ll N d key).bind fun y16=>(lF N y16.1 y16.2 d.Ext key dd).bind fun a6=>bif !a6.2 then (some (d,false,false)) else ((nv N d a6.1).bind fun a7=>some (a7,true,false)))=some (d',r.1,false)/\d'.Zs=d.Zs/\d'.Zt.length<=d.Zt.length+1/\CR N i (k+8) (q+2048) w d' r.2:=by
 obtain ⟨z,e1,e2, -,e4,hz⟩:=Bh hN hv hvN hk hq hM hL h hR hd;rw [e1,bs,e2,bs];rw [NG hl h0] at e4
 have hMc:c.Zi.length<=2200:=by rw [h.el];exact hM
 refine (Hs hN hv hvN h.ob I I hMc hR (p:=z.1) (ok:=z.2) e4 (fun e=>⟨(hz e).1.w _,(hz e).2.1,(hz e).1.a⟩) I).mono fun r hr=> ?_
 obtain ⟨r1,r2,r3⟩:=hr
 cases ez:z.2 with
 |false=>
  rw [r1,ez,nf,ct];refine ⟨d,J,J,by omega,c,?_,?_⟩
  ·rw [r2 ez];exact h.up I I
  rw [r2 ez];exact FrW.refl w
 | true=>
  obtain ⟨c',o,s,f⟩:=r3 ez;obtain ⟨pv,pk, -⟩:=hz ez;rw [r1,ez,nt,cf,Mc hN I h.wf.nd,bs];rw [pv.norm] at o;refine ⟨_,J,J,Fy h.ob z.1,c',⟨o.up I I,s.kind.trans h.ar,s.more.trans h.el,s.ext.trans h.ex,by rw [s.flags];exact h.fx,⟨fun p hp h00=> ?_,fun p hp=> ?_,Me h.wf.nd _,h.wf.hole⟩,fun p hp=> ?_,h.ev⟩,f.fr⟩
  ·rcases vY hp with rfl|hp
   ·rw [pk] at h00;exact absurd h00 h0
   exact h.wf.idx p hp h00
  ·rcases vY hp with rfl|hp
   ·rw [pk];exact hl
   exact h.wf.len p hp
  rcases vY hp with rfl|hp
  ·exact pv
  exact h.pv p hp
theorem Qi (a6:WS×Bool)(key:WX)(hn:0<=key.N)(a7:WS×Bool): ∀(n:Nat) (m:List WZ),5001<n+m.length->m.length<=5000->key.N<=4096->jA N a6 w v c key a7 n m=jC N a6 w v c key a7 (dI m (key.N+1))
 |0,m,g0,g1,g2=>by have _:=hN;have _:=hv;have _:=hvN;have _:=hk;have _:=hq;have _:=hM;have _:=hL;have _:=h;omega
 | n+1,m,g0,g1,g2=>by
  rw [jA.eq_2];by_cases e:(m.length:Int)<=key.N
  ·rw [W9 e,ct,rF (by rw [Ye];omega)];have:=Qi a6 key hn a7 n (m++ [cN]) (by rw [Za,Ye];omega) (by rw [Za,Ye];omega) g2;refine this.trans (congrArg _ ?_);unfold dI;rw [Xc,show (key.N+1).toNat - m.length=((key.N+1).toNat - (m++ [cN]).length)+1 by rw [Za,Ye];omega];rfl
  rw [Xa e,cf,FS I]
end
end
section
open Go.RowKit
set_option maxRecDepth 20000
theorem MP (h:∀p∈PL,p.Zo≠key):pW PL key=PL:=MO h
theorem VK (h:a=7):sB a 4=true:=by rw [h];decide
section
variable {N:Nat}(hN:20000<=N)(hv:v.Zh=7)(hvN:v.N=i){k:Nat}(hk:k+8<=580)(hq:q+2048<=1000000000){w:WP}(hM:d.Zs.length<=2200)(hL:d.Zt.length<1000)(h:Sim N i k q w c d)
include hN hv hvN hk hq hM hL h
theorem TK (hR:keyR N key)(h0:key.Zh=0)(hn:key.N<=2100){z:WS×Bool}(pv:PV N z.1)(pk:z.1.Zo=key)(hf:(ni d key).2=true->sB (ni d key).1.Zk 4=false->sB z.1.Zk 4=false):
  Sat (jC N (nh d.Zt key) w v c key z (dI d.Zs (key.N+1))) fun r=>r.1=true/\r.2.1=false/\ ∃d',((nw N d (key.N+1)).bind fun a6=>bif decide (z.1.Zk=7) then ((aq a6.Zs key.N).bind fun b6=>(ej N (⟨a6.Ext,a6.Zz,List.set a6.Zs key.N.toNat (⟨z.1.Value.Zh,z.1.Value.N,z.1.Value.S⟩:WZ),a6.Zt⟩:W6) key).bind fun b0=>some (b0,true,false)) else ((iq N).bind fun a7=>(aq a6.Zs key.N).bind fun b7=>(nv N (⟨a6.Ext,a6.Zz,List.set a6.Zs key.N.toNat (⟨a7.Zh,a7.N,a7.S⟩:WZ),a6.Zt⟩:W6) z.1).bind fun b5=>some (b5,true,false)))=some (d',true,false)/\d'.Zs.length<=max d.Zs.length 2101/\d'.Zt.length<=d.Zt.length+1/\CR N i (k+8) (q+2048) w d' r.2.2:=by
 have hkey:=Pr hR h0;have hnn:0<=key.N:=(keyR.b I hR h0).1;have hll:=Dk d.Zs (key.N+1)
 have hlt:key.N.toNat<(dI d.Zs (key.N+1)).length:=by omega
 have hMc:c.Zi.length<=2200:=by rw [h.el];exact hM
 obtain ⟨x,hx⟩: ∃x,aq (dI d.Zs (key.N+1)) key.N=some x:=by
  have:=aM hlt;rw [show ((key.N.toNat:Nat):Int)=key.N by omega] at this;exact ⟨_,this⟩
 have hrc:=lS h.ob.right
 -- the cell with the elements E2
 have hput: ∀E2:List WZ,E2.length=(dI d.Zs (key.N+1)).length->(∀y∈E2,Prim y)-> ∃w1,aA N w v ⟨c.Zh,c.Zq,c.Zm,c.Zn,c.Zj,E2⟩=some w1/\Obj N i k q w1 ⟨c.Zh,c.Zq,c.Zm,c.Zn,c.Zj,E2⟩ d.Zt/\FrO i w w1 c ⟨c.Zh,c.Zq,c.Zm,c.Zn,c.Zj,E2⟩:=fun E2 hl hp=>KK hN hv hvN h.ob I E2 I (fun y hy=>(hp y hy).w _) (fun e=>by have:=h.ar;omega) c.Zm hrc.2.1 h.ob.oc.noP
 have hE1: ∀y∈dI d.Zs (key.N+1),Prim y:=fun y hy=>by
  rcases Dj hy with hy|rfl
  ·exact h.ev y hy
  exact ut
 have hset: ∀y,Prim y-> ∀u∈(dI d.Zs (key.N+1)).set key.N.toNat y,Prim u:=fun y hy u hu=>by
  rcases Yq hu with hu|rfl
  ·exact hE1 u hu
  exact hy
 have hidx: ∀(y:WZ) (p:WS),p∈d.Zt->p.Zo≠key->p.Zo.Zh=0->p.Zo=lD p.Zo.N/\0<=p.Zo.N/\((dI d.Zs (key.N+1)).set key.N.toNat y)[p.Zo.N.toNat]? =some cN:=fun y p hp hne hp0=>by
  obtain ⟨g1,g2,g3⟩:=h.wf.idx p hp hp0;refine ⟨g1,g2,?_⟩;rw [X3 fun e=>hne (by rw [g1,hkey];congr 1;omega)];exact Di g3
 have hl:key≠lenK:=fun e=>by rw [e] at h0;cases h0
 unfold jC;rw [hx,bs,Ir hN I (key.N+1) I,bs]
 dsimp only
 rw [hx,bs];by_cases h7:z.1.Zk=7
 ·obtain ⟨w1,p1,o1,f1⟩:=hput ((dI d.Zs (key.N+1)).set key.N.toNat z.1.Value) (Yd ..) (hset _ pv.v)
  have a8: ∃x2,aq (List.set (dI d.Zs (key.N+1)) key.N.toNat (⟨8,0,(⟨#[]⟩:ByteArray)⟩:WZ)) key.N=some x2:=by
   have:=aM (xs:=List.set (dI d.Zs (key.N+1)) key.N.toNat (⟨8,0,(⟨#[]⟩:ByteArray)⟩:WZ)) (i:=key.N.toNat) (by rw [Yd];exact hlt);rw [show ((key.N.toNat:Nat):Int)=key.N by omega] at this;exact ⟨_,this⟩
  obtain ⟨x2,a8⟩:=a8;rw [W9 h7,ct,ct,a8,bs,List.set_set];unfold jB;have p1':aA N w v ⟨c.Zh,c.Zq,c.Zm,c.Zn,c.Zj,List.set (dI d.Zs (key.N+1)) key.N.toNat (⟨z.1.Value.Zh,z.1.Value.N,z.1.Value.S⟩:WZ)⟩=some w1:=p1;rw [p1',bs,W9 h7,ct,uj hN (d:=⟨d.Ext,d.Zz,List.set (dI d.Zs (key.N+1)) key.N.toNat z.1.Value,d.Zt⟩) (by show d.Zt.length<=1024;omega),bs]
  -- what is dropped
  have hdrop:Sat (tC N w1 v key (nh d.Zt key).2) fun w2=> ∃c2,Obj N i k (q+1024) w2 c2 (pW d.Zt key)/\Same ⟨c.Zh,c.Zq,c.Zm,c.Zn,c.Zj,(dI d.Zs (key.N+1)).set key.N.toNat z.1.Value⟩ c2/\FrW w1 w2:=by
   unfold tC;rcases zz h.wf.nd key with ⟨p,hp,hpk,ho⟩|⟨hno,ho⟩
   ·rw [ho,ct]
    have hA:ni d key=(p,true):=by
     unfold ni;rw [Xa hl,cond_false]
     cases e:sT d.Zs key with
     |none=>exact ho
     |some y=>
      obtain ⟨-,g2, -, -,g5⟩:=wu e;obtain ⟨-, -,g3⟩:=h.wf.idx p hp (by rw [hpk];exact h0);rw [hpk,g5] at g3;exact absurd (YX g3) g2
    have hlo: ¬ai .i64 p.Zk 4=0:=fun e4=>by
     have a:=(h.pv p hp).a;have s6:=six a.1 (by have:=a.2.1;omega)
     have h4:sB p.Zk 4=false:=by rw [<-s6.b4,W9 e4];rfl
     rw [hA] at hf;have:=hf rfl h4;rw [VK h7] at this;cases this
    refine (Dd hN hv hvN o1 I I (by show ((dI d.Zs (key.N+1)).set _ _).length<=2200;rw [Yd];omega) key).bind fun r hr=>ad ?_
    rw [ho] at hr;rcases hr with ⟨e, -⟩|⟨-,e, -⟩|⟨-, -, -,c2,o2,s2,f2⟩
    ·cases e
    ·exact absurd e hlo
    exact ⟨c2,o2,s2,f2.fr⟩
   rw [ho,cf];exact ad ⟨_,by rw [MP hno];exact o1.up (YM _) I,Same.refl _,FrW.refl _⟩
  refine hdrop.bind fun w2 hw2=>ad ⟨J,J,_,J,?_,?_,?_⟩
  ·show ((dI d.Zs (key.N+1)).set _ _).length<=_;rw [Yd];omega
  ·show (pW d.Zt key).length<=_;exact Nat.le_succ_of_le (Yb ..)
  obtain ⟨c2,o2,s2,f2⟩:=hw2;refine ⟨c2,⟨o2.up I I,s2.kind.trans h.ar,s2.more,s2.ext.trans h.ex,by rw [s2.flags];exact h.fx,⟨fun p hp hp0=> ?_,fun p hp=>h.wf.len p (qM.1 hp).1,IV h.wf.nd _,fun u hu h8=>HF (hset _ pv.v u hu).may h8⟩,fun p hp=>h.pv p (qM.1 hp).1,hset _ pv.v⟩,f1.fr.trans f2⟩;exact hidx _ p (qM.1 hp).1 (qM.1 hp).2 hp0
 obtain ⟨w1,p1,o1,f1⟩:=hput ((dI d.Zs (key.N+1)).set key.N.toNat cN) (Yd ..) (hset _ ut);rw [Xa h7,cf,cf];unfold jB;have p1':aA N w v ⟨c.Zh,c.Zq,c.Zm,c.Zn,c.Zj,List.set (dI d.Zs (key.N+1)) key.N.toNat (⟨8,0,(⟨#[]⟩:ByteArray)⟩:WZ)⟩=some w1:=p1;have e8:iq N=some cN:=rfl;rw [p1',bs,Xa h7,cf,e8,bs,bs,Mc hN (d:=⟨d.Ext,d.Zz,List.set (dI d.Zs (key.N+1)) key.N.toNat cN,d.Zt⟩) (by show d.Zt.length<=1024;omega) h.wf.nd,bs]
 refine (TP hN hv hvN o1 hk hq (by show ((dI d.Zs (key.N+1)).set _ _).length<=2200;rw [Yd];omega) hL pv).bind fun w2 hw2=>ad ⟨J,J,_,J,?_,?_,?_⟩
 ·show ((dI d.Zs (key.N+1)).set _ _).length<=_;rw [Yd];omega
 ·exact Fy h.ob z.1
 obtain ⟨c2,o2,s2,f2⟩:=hw2;refine ⟨c2,⟨o2,s2.kind.trans h.ar,s2.more,s2.ext.trans h.ex,by rw [s2.flags];exact h.fx,⟨fun p hp hp0=> ?_,fun p hp=> ?_,Me h.wf.nd _,fun u hu h8=>HF (hset _ ut u hu).may h8⟩,fun p hp=> ?_,hset _ ut⟩,f1.fr.trans f2.fr⟩
 ·have hat:((dI d.Zs (key.N+1)).set key.N.toNat cN)[key.N.toNat]? =some cN:=X4 hlt;by_cases e:p.Zo=key
  ·rw [e];exact ⟨hkey,hnn,hat⟩
  rcases vY hp with rfl|hp
  ·exact absurd pk e
  exact hidx _ p hp e hp0
 ·rcases vY hp with rfl|hp
  ·rw [pk];exact hl
  exact h.wf.len p hp
 rcases vY hp with rfl|hp
 ·exact pv
 exact h.pv p hp
end
end
section
open Go.RowKit
set_option maxRecDepth 20000
section
variable {N:Nat}(hN:20000<=N)(hv:v.Zh=7)(hvN:v.N=i){k:Nat}(hk:k+8<=580)(hq:q+2048<=1000000000){w:WP}(hM:d.Zs.length<=2200)(hL:d.Zt.length<1000)(h:Sim N i k q w c d)
include hN hv hvN hk hq hM hL h
def Vf (N:Nat)(i:Int)(k q:Nat)(w:WP)(d d':W6)(w':WP):Prop:=d'.Zs.length<=max d.Zs.length 2101/\d'.Zt.length<=d.Zt.length+1/\CR N i (k+8) (q+2048) w d' w'
omit hN hv hvN hk hq hM hL in
theorem EU:Vf N i k q w d d w:=⟨by omega,by omega,c,h.up I I,FrW.refl w⟩
theorem Og (hR:keyR N key)(h0:key.Zh=0)(hkey:key.N<=2100\/4096<=key.N)(hd:PD dd)(hrr:dZ N dd=some true):
  Sat (nZ N w v c key dd) fun r=> ∃d',gC N d key dd=some (d',r.1,r.2.1)/\Vf N i k q w d d' r.2.2:=by
 have hl:key≠lenK:=fun e=>by rw [e] at h0;cases h0
 obtain ⟨z,e1,e2,e3,e4,hz⟩:=Bh hN hv hvN hk hq hM hL h hR hd
 have hMc:c.Zi.length<=2200:=by rw [h.el];exact hM
 have eL:cE N=some lenK:=rfl;have hnn:0<=key.N:=(keyR.b I hR h0).1
 have eR: ∀{ρ:Type} (F:Bool->Option ρ),((bif !true then (some true) else ((dZ N dd).bind fun y9=>some (!y9))).bind F)=F false:=fun F=>by rw [hrr];rfl
 unfold gC nZ;rw [Ew N hN,show bd N key=some true from hR,bs,eR,cf,eL,bs,Xa hl,cf,e1,bs,e2,bs,e3,bs];have e4':dw N (ni d key).1 (ni d key).2 (!decide (ai .i64 c.Zm 1=0)) key dd=some z:=e4;rw [e4',bs]
 cases ez:z.2 with
 |false=>
  rw [nf,ct,ct];exact ad ⟨d,J,EU h⟩
 | true=>
  rw [nt,cf,cf,JA hN hv hvN hk hq hM hL h key,W9 h0,nt,cf];by_cases h4:4096<=key.N
  ·rw [W9 h4,ct,ct];exact ad ⟨d,J,EU h⟩
  rw [Xa h4,cf,cf,h.el,h.fx]
  have eb: ∀b:Bool,(bif decide ((d.Zs.length:Int)<=key.N) then some b else some false:Option Bool)=some (decide ((d.Zs.length:Int)<=key.N)&&b):=fun b=>by cases decide ((d.Zs.length:Int)<=key.N)<;>rfl
  rw [eb,bs,bs]
  cases ef:(decide ((d.Zs.length:Int)<=key.N)&&d.Zz) with
  |true=>
   rw [ct,ct];exact ad ⟨d,J,EU h⟩
  | false=>
   rw [cf,cf,cf,bs,cf,r64 I I];obtain ⟨pv,pk,hf⟩:=hz ez;have hoo:=Pa hN hv hvN I hMc h.ob key;rw [hoo,bs]
   have hfin:Sat (jA N (nh d.Zt key) w v c key z N d.Zs) fun r=> ∃d',((nw N d (key.N+1)).bind fun a6=>bif decide (z.1.Zk=7) then ((aq a6.Zs key.N).bind fun b5=>(ej N (⟨a6.Ext,a6.Zz,List.set a6.Zs key.N.toNat (⟨z.1.Value.Zh,z.1.Value.N,z.1.Value.S⟩:WZ),a6.Zt⟩:W6) key).bind fun a8=>some (a8,true,false)) else ((iq N).bind fun a7=>(aq a6.Zs key.N).bind fun b6=>(nv N (⟨a6.Ext,a6.Zz,List.set a6.Zs key.N.toNat (⟨a7.Zh,a7.N,a7.S⟩:WZ),a6.Zt⟩:W6) z.1).bind fun b0=>some (b0,true,false)))=some (d',r.1,r.2.1)/\Vf N i k q w d d' r.2.2:=by
    rw [Qi hN hv hvN hk hq hM hL h (nh d.Zt key) key hnn z N d.Zs I I I]
    refine (TK hN hv hvN hk hq hM hL h hR h0 I pv pk hf).mono fun r hr=> ?_
    obtain ⟨r1,r2,d',r3,r4,r5,r6⟩:=hr;exact ⟨d',by rw [r1,r2];exact r3,r4,r5,r6⟩
   have eb2: ∀b:Bool,(bif b then some (!(nh d.Zt key).2) else some false:Option Bool)=some (b&& !(nh d.Zt key).2):=fun b=>by cases b<;>rfl
   rw [eb2,bs]
   cases ep:(!decide (z.1.Zk=7)&& !(nh d.Zt key).2) with
   |false=>rw [cf,bs,cf];exact hfin
   |true=>
    rw [ct,BY hN hv hvN I hMc h.ob,bs,Xa (show¬1024<=(d.Zt.length:Int) by omega),bs,cf];exact hfin
theorem Of (hR:keyR N key)(hl:key≠lenK)(hkey:key.Zh=0->key.N<=2100\/4096<=key.N)(hd:PD dd)(hrr:dZ N dd=some true)(hdr:fA N dd=some true):
  Sat (eC N w v key dd) fun r=> ∃d',gC N d key dd=some (d',r.1,r.2.1)/\Vf N i k q w d d' r.2.2:=by
 have eL:cg N=some lenK:=rfl;have eL':cE N=some lenK:=rfl
 have hMc:c.Zi.length<=2200:=by rw [h.el];exact hM
 unfold eC;rw [vS hv hvN I hM h,bs];show Sat (Option.bind (Option.bind (bd N key) _) _) _;rw [show bd N key=some true from hR,bs,bs];show Sat (Option.bind (Option.bind (fA N dd) _) _) _;rw [hdr,bs,bs,nt,cf,eL,bs,Xa hl,cf];by_cases h0:key.Zh=0
 ·rw [W9 h0,ct]
  exact (Og hN hv hvN hk hq hM hL h hR h0 (hkey h0) hd hrr).bind fun r hr=>ad hr
 rw [Xa h0,cf]
 refine (Lu hN hv hvN hk hq hM hL h hR hl h0 hd).bind fun r hr=>ad ?_
 obtain ⟨d',r1,r2,r3,r4⟩:=hr;refine ⟨d',?_,by rw [r2];omega,r3,r4⟩;obtain ⟨z,e1,e2, -⟩:=Bh hN hv hvN hk hq hM hL h hR hd;rw [e1,bs,e2,bs] at r1
 have eR: ∀{ρ:Type} (F:Bool->Option ρ),((bif !true then (some true) else ((dZ N dd).bind fun y9=>some (!y9))).bind F)=F false:=fun F=>by rw [hrr];rfl
 unfold gC;rw [Ew N hN,show bd N key=some true from hR,bs,eR,cf,eL',bs,Xa hl,cf,e1,bs,e2,bs,JA hN hv hvN hk hq hM hL h key,Xa h0,nf,ct,cf];exact r1
end
end
section
open Go.RowKit
set_option maxRecDepth 20000
section
variable (N:Nat)(n s:Int)(y:List WS)(v:WZ)(y16:W3×Bool)(E:List WZ)
def Vh (m:Nat)(j:Int)(w:WP):Option (Bool×WP):=jl N n s y v y16 E m j w
theorem UX (m:Nat)(j:Int)(w:WP):Vh N n s y v y16 E (m+1) j w=bif decide (j<(y.length:Int)) then ((aq y j).bind fun x=>(bif decide (x.Zo.Zh=0) then (some (decide (s<=x.Zo.N))) else (some false)).bind fun b=>bif b then ((fM N w v x.Zo).bind fun z=>aI (in64 (j+1)) (Vh N n s y v y16 E m (j+1) z.2)) else (aI (in64 (j+1)) (Vh N n s y v y16 E m (j+1) w))) else ((ca N w v).bind fun z=>aI ((0:Int)<=s/\s.toNat<=E.length) ((aA N w v (⟨z.1.Zh,z.1.Zq,z.1.Zm,z.1.Zn,z.1.Zj,List.take s.toNat E⟩:W3)).bind fun u=>some (decide (s=n),u))):=rfl
end
theorem Ot {s:Int}(hb:iQ s p=false): ∀(A B:List WS),((A++p::B).map (·.Zo)).Nodup->pW (A.filter (iQ s)++p::B) p.Zo=(A++ [p]).filter (iQ s)++B:=by
 intro A B hn;rw [Yf,Yg] at hn
 have hA: ∀x∈A,x.Zo≠p.Zo:=fun x hx e=>by
  have:=(Yt.1 hn).2.2 _ (List.mem_map_of_mem hx) p.Zo (Yl ..);exact this e
 have hB: ∀x∈B,x.Zo≠p.Zo:=fun x hx e=>by
  have:=(Yu.1 (Yt.1 hn).2.1).1;exact this (Yn.2 ⟨x,hx,e⟩)
 unfold pW;rw [XM,XM,XN,XN,hb,W9 rfl,List.filter_nil,if_neg (show¬(!true)=true by decide),if_neg (show¬false=true by decide),XB]
 have e1:(A.filter (iQ s)).filter (fun x=> !decide (x.Zo=p.Zo))=A.filter (iQ s):=XO.2 fun x hx=>by simp [hA x ((Ym.1 hx).1)]
 have e2:B.filter (fun x=> !decide (x.Zo=p.Zo))=B:=XO.2 fun x hx=>by simp [hB x hx]
 rw [e1,e2]
section
variable {N:Nat}(hN:20000<=N)(hv:v.Zh=7)(hvN:v.N=i){k:Nat}(hk:k+8<=580){c0:W3}(PL:List WS)(hnd:(PL.map (·.Zo)).Nodup)(hL:PL.length<1000)(s:Int)(hs:0<=s)(hfirm:∀p∈PL,F7 p->p.Zo.N+1<=s)(n:Int)(y16:W3×Bool)(E:List WZ)(hE:∀x∈E,Prim x)(hE1:s.toNat<=E.length)(hE2:E.length<=2200)(hM:c0.Zi.length<=2200)(w0:WP)(h2:c0.Zh=2)
include hN hv hvN hk hnd hL hs hfirm hE hE1 hE2 hM h2
theorem Qr (q:Nat)(hq:q+1024*1000<=1000000000): ∀(m j:Nat) (w:WP) (c:W3),PL.length<m+j->j<=PL.length->Obj N i k (q+1024*j) w c ((PL.take j).filter (iQ s)++PL.drop j)->Same c0 c->FrW w0 w->Sat (Vh N n s PL v y16 E m j w) fun r=>r.1=decide (s=n)/\ ∃c',Obj N i k (q+1024*1000) r.2 c' (PL.filter (iQ s))/\c'.Zh=2/\c'.Zm=c0.Zm/\c'.Zi=E.take s.toNat/\FrW w0 r.2
 |0,j,w,c,h0,h1,_,_,_=>by omega
 | m +1,j,w,c,h0,h1,ho,hsm,hfr=>by
  have hMc:c.Zi.length<=2200:=by rw [hsm.more];exact hM
  rw [UX];rcases YP j PL.length with hj|hj
  ·have hdrop:PL.drop j=PL[j]::PL.drop (j+1):=XF hj
   have htake:PL.take (j+1)=PL.take j++ [PL[j]]:=by rw [List.take_add_one,XX hj];rfl
   rw [fJ I,ct,aM hj,bs]
   have eb:(bif decide (PL[j].Zo.Zh=0) then (some (decide (s<=PL[j].Zo.N))) else (some false))=some (!iQ s PL[j]):=by
    unfold iQ;cases decide (PL[j].Zo.Zh=0)<;>cases decide (s<=PL[j].Zo.N)<;>rfl
   rw [eb,bs]
   cases hb:iQ s PL[j] with
   | true=>
    rw [nt,cf,r64 I I];refine Qr q hq m (j+1) w c I hj ?_ hsm hfr
    have e:(PL.take (j+1)).filter (iQ s)++PL.drop (j+1)=(PL.take j).filter (iQ s)++PL.drop j:=by
     rw [htake,hdrop,XM,XN,hb,List.filter_nil,Xc];rfl
    rw [e];exact ho.up (YM _) I
   | false=>
    rw [nf,ct]
    refine (Dd hN hv hvN ho I I hMc PL[j].Zo).bind fun r hr=> ?_
    rw [r64 I I]
    have hat:((PL.take j).filter (iQ s)++PL.drop j)[((PL.take j).filter (iQ s)).length]? =some PL[j]:=by
     rw [XT (YM _),YR,hdrop];rfl
    have hown:=rS ho.nodup hat;rw [hown] at hr
    have hnf: ¬ai .i64 PL[j].Zk 4=0:=fun e4=>by
     unfold iQ at hb;rw [Bool.not_eq_false',Ze] at hb;have h00:=Y8 hb.1;have hle:=Y8 hb.2;have:=hfirm PL[j] (Zg hj) ⟨h00,e4⟩;omega
    rcases hr with ⟨e, -⟩|⟨-,e, -⟩|⟨-, -, -,c2,o2,s2,f2⟩
    ·cases e
    ·exact absurd e hnf
    refine Qr q hq m (j+1) r.2 c2 I hj ?_ (hsm.trans s2) (hfr.trans f2.fr)
    have hsplit:PL.take j++PL[j]::PL.drop (j+1)=PL:=by rw [<-hdrop,YB]
    have hc:=Ot hb (PL.take j) (PL.drop (j+1)) (by rw [hsplit];exact hnd);rw [hdrop,hc, <-htake] at o2;exact o2.up (YM _) I
  have hj':j=PL.length:=by omega
  subst hj';rw [Zd,List.drop_length,XB] at ho;rw [fz I,cf,SK hv hvN I hMc ho,bs,cj ⟨hs,hE1⟩];have hrc:=lS ho.right;obtain ⟨w1,p1,o1,f1⟩:=KK hN hv hvN ho I (E.take s.toNat) (by rw [Zb];omega) (fun x hx=>(hE x (Yp hx)).w _) (fun e=>by have:=hsm.kind;omega) c.Zm hrc.2.1 ho.oc.noP;rw [p1,bs];exact ad ⟨J,_,o1.up (YM _) I,hsm.kind.trans h2,hsm.flags,J,hfr.trans f1.fr⟩
end
section
variable {N:Nat}(hN:20000<=N)(hv:v.Zh=7)(hvN:v.N=i){k:Nat}(hk:k+8<=580)(hq:q+1024*1000<=1000000000){w:WP}(hM:d.Zs.length<=2200)(hL:d.Zt.length<1000)(h:Sim N i k q w c d)
include hN hv hvN hk hq hM hL h
theorem Qs (n:Int)(y16:W3×Bool)(E:List WZ)(hidx:∀p∈d.Zt,p.Zo.Zh=0->0<=p.Zo.N/\p.Zo.N<=5000): ∀(m j:Nat) (s:Int),d.Zt.length<m+j->j<=d.Zt.length->jm N n d.Zt w v y16 E m s (j:Int)=oe N n w v y16 E ((d.Zt.drop j).foldl qW s)
 |0,j,s,h0,h1=>by have _:=hN;have _:=hv;have _:=hvN;have _:=hk;have _:=hq;have _:=hM;have _:=h;omega
 | m+1,j,s,h0,h1=>by
  rw [jm.eq_2];unfold od;rcases YP j d.Zt.length with hj|hj
  ·have hdrop:d.Zt.drop j=d.Zt[j]::d.Zt.drop (j+1):=XF hj;rw [fJ I,ct,aM hj,bs,hdrop,List.foldl_cons]
   have eb:(bif decide (d.Zt[j].Zo.Zh=0) then (some (decide (ai .i64 d.Zt[j].Zk 4=0))) else (some false))=some (decide (d.Zt[j].Zo.Zh=0)&&decide (ai .i64 d.Zt[j].Zk 4=0)):=by
    cases decide (d.Zt[j].Zo.Zh=0)<;>rfl
   rw [eb,bs];unfold qW
   cases eb2:(decide (d.Zt[j].Zo.Zh=0)&&decide (ai .i64 d.Zt[j].Zk 4=0)) with
   |true=>
    have h00:d.Zt[j].Zo.Zh=0:=Y8 (Bool.and_eq_true_iff.1 eb2).1;have hb:=hidx d.Zt[j] (Zg hj) h00;rw [ct,ct,r64 I I,r64 I I];exact Qs n y16 E hidx m (j+1) _ I hj
   |false=>
    rw [cf,cf,r64 I I];exact Qs n y16 E hidx m (j+1) _ I hj
  rw [fz I,cf,XH hj];rfl
omit hN hv hvN hk hq hM hL in
theorem SM (n:Int)(hn:n<=4096)(y16:W3×Bool): ∀(m:Nat) (E:List WZ),5001<m+E.length->E.length<=5000->oa N n w v y16 m E=og N n w v y16 (dI E n)
 |0,E,h0,h1=>by have _:=h;omega
 | m+1,E,h0,h1=>by
  rw [oa.eq_2];by_cases e:(E.length:Int)<n
  ·rw [W9 e,ct,rF (by rw [Ye];omega)];have:=SM n hn y16 m (E++ [cN]) (by rw [Za,Ye];omega) (by rw [Za,Ye];omega);refine this.trans (congrArg _ ?_);unfold dI;rw [Xc,show n.toNat - E.length=(n.toNat - (E++ [cN]).length)+1 by rw [Za,Ye];omega];rfl
  rw [Xa e,cf,FS I]
theorem Jn (hn:n<=2100\/4096<n):Sat (jD N w v n) fun r=> ∃d',lW N d n=some (d',r.1)/\d'.Zs.length<=max d.Zs.length 2101/\d'.Zt.length<=d.Zt.length/\CR N i (k+8) (q+1024*1000) w d' r.2:=by
 have hMc:c.Zi.length<=2200:=by rw [h.el];exact hM
 rw [Hh hN I I h.wf n];unfold jD Es;rw [vS hv hvN I hM h,bs];show Sat (Option.bind (some (decide (n<0))) _) _;rw [bs];have same: ∃d',some (d,false)=some (d',false)/\d'.Zs.length<=max d.Zs.length 2101/\d'.Zt.length<=d.Zt.length/\CR N i (k+8) (q+1024*1000) w d' w:=⟨d,rfl,by omega,YM _,c,h.up I I,FrW.refl w⟩;by_cases h0:n<0
 ·rw [W9 h0,ct,bs,ct,bs,ct];exact ad same
 rw [Xa h0,cf,bs];by_cases h1:4096<n
 ·rw [W9 h1,ct,bs,ct];exact ad same
 rw [Xa h1,cf,Bool.false_or,Bool.false_or];show Sat (Option.bind (Option.bind (bif !decide (ai .i64 c.Zm 32=0) then some (!decide (n=(c.Zi.length:Int))) else some false) _) _) _;rw [h.fx,h.el]
 have eb:(bif d.Zz then some (!decide (n=(d.Zs.length:Int))) else some false)=some (d.Zz&& !decide (n=(d.Zs.length:Int))):=by cases d.Zz<;>rfl
 rw [eb,bs,bs]
 cases ef:(d.Zz&& !decide (n=(d.Zs.length:Int))) with
 |true=>
  rw [ct,cond_true];exact ad same
 | false=>
  rw [cf,cond_false];rw [SM h n I (c,true) N d.Zs I I];unfold og;have hll:=Dk d.Zs n
  have hidx: ∀p∈d.Zt,p.Zo.Zh=0->0<=p.Zo.N/\p.Zo.N<=5000:=fun p hp hp0=>by
   obtain ⟨g1,g2,g3⟩:=h.wf.idx p hp hp0;have:=(XZ.1 g3).1;omega
  rw [BY hN hv hvN I hMc h.ob,bs];have a6:=Qs hN hv hvN hk hq hM hL h n (c,true) (dI d.Zs n) hidx N 0 n I I;rw [show ((0:Nat):Int)=0 from rfl] at a6;rw [a6,XJ];unfold oe;rw [BY hN hv hvN I hMc h.ob,bs];have hge:=Bw d.Zt n
  have hle:=Bv d.Zt n (max (d.Zs.length:Int) n) I fun p hp hf=>by
   obtain ⟨g1,g2,g3⟩:=h.wf.idx p hp hf.1;have:=(XZ.1 g3).1;omega
  have hE: ∀x∈dI d.Zs n,Prim x:=fun x hx=>by
   rcases Dj hx with hx|rfl
   ·exact h.ev x hx
   exact ut
  have hx:=Qr hN hv hvN hk d.Zt h.wf.nd hL (oI d.Zt n) I (fun p hp hf=>EY d.Zt n hp hf) n (c,true) (dI d.Zs n) hE I I hMc w h.ar q hq N 0 w c I I (by rw [YE,List.filter_nil,Zf,XJ];exact h.ob.up (YM _) I) (Same.refl c) (FrW.refl w)
  refine Sat.mono hx fun r hr=> ?_
  obtain ⟨r1,c',o,k2,fl,mo,fr⟩:=hr;refine ⟨Lw ⟨d.Ext,d.Zz,dI d.Zs n,d.Zt⟩ n,by rw [r1],?_,Yb ..,c',⟨o.up I (YM _),k2,mo,by unfold IQ;rw [fl];exact h.ex,by rw [fl];exact h.fx,⟨fun p hp hp0=> ?_,fun p hp=>h.wf.len p ((Ym.1 hp).1),List.Nodup.sublist (List.Sublist.map _ List.filter_sublist) h.wf.nd,fun x hx h8=>HF (hE x (Yp hx)).may h8⟩,fun p hp=>h.pv p ((Ym.1 hp).1),fun x hx=>hE x (Yp hx)⟩,fr⟩
  ·show ((dI d.Zs n).take _).length<=_;rw [Zb];omega
  have hpm:p∈d.Zt:=(Ym.1 hp).1;have hpb:=(Ym.1 hp).2;obtain ⟨g1,g2,g3⟩:=h.wf.idx p hpm hp0
  have hlt:p.Zo.N<oI d.Zt n:=by
   have hpb:iQ (oI d.Zt n) p=true:=hpb;unfold iQ at hpb;rw [W9 hp0,Xs,Bool.not_eq_true',Y5] at hpb;omega
  refine ⟨g1,g2,?_⟩;show ((dI d.Zs n).take (oI d.Zt n).toNat)[p.Zo.N.toNat]? =some cN;rw [List.getElem?_take_of_lt I];exact Di g3
end
end
section
open Go.RowKit
set_option maxRecDepth 20000
theorem TA: ∀f:_root_.Fin 64,ai .i64 (f.val:Int) 16=0->((0<=cO .i64 (f.val:Int) 32/\cO .i64 (f.val:Int) 32<=63)/\ai .i64 (cO .i64 (f.val:Int) 32) 16=0/\ai .i64 (cO .i64 (f.val:Int) 32) 1=ai .i64 (f.val:Int) 1/\ai .i64 (cO .i64 (f.val:Int) 32) 32≠0)/\(0<=bi .i64 (f.val:Int) 1/\bi .i64 (f.val:Int) 1<=63)/\ai .i64 (bi .i64 (f.val:Int) 1) 16=0/\ai .i64 (bi .i64 (f.val:Int) 1) 1=0/\ai .i64 (bi .i64 (f.val:Int) 1) 32=ai .i64 (f.val:Int) 32:=by decide+kernel
theorem UG {f:Int}(h:0<=f/\f<=63)(h2:ai .i64 f 16=0):((0<=cO .i64 f 32/\cO .i64 f 32<=63)/\ai .i64 (cO .i64 f 32) 16=0/\ai .i64 (cO .i64 f 32) 1=ai .i64 f 1/\ai .i64 (cO .i64 f 32) 32≠0)/\(0<=bi .i64 f 1/\bi .i64 f 1<=63)/\ai .i64 (bi .i64 f 1) 16=0/\ai .i64 (bi .i64 f 1) 1=0/\ai .i64 (bi .i64 f 1) 32=ai .i64 f 32:=by
 have:=TA ⟨f.toNat,by omega⟩;simp only [Xz h.1] at this;exact this h2
def IM (d:W6)(b:Bool):W6:=⟨d.Ext,b,d.Zs,d.Zt⟩
section
variable {N:Nat}(hN:20000<=N)(hv:v.Zh=7)(hvN:v.N=i){k:Nat}(hk:k+8<=580)(hq:q+1024*1000<=1000000000){w:WP}(hM:d.Zs.length<=2200)(hL:d.Zt.length<1000)(h:Sim N i k q w c d)
include hN hv hvN hk hM h
theorem Md (E:List WZ)(hE:∀x∈E,Prim x)(hl:E.length<=2200)(hold:∀j:Nat,d.Zs[j]? =some cN->E[j]? =some cN)(f:Int)(hf:0<=f/\f<=63)(a6:ai .i64 f 16=0): ∃w',aA N w v ⟨c.Zh,c.Zq,f,c.Zn,c.Zj,E⟩=some w'/\Sim N i k q w' ⟨c.Zh,c.Zq,f,c.Zn,c.Zj,E⟩ ⟨!decide (ai .i64 f 1=0),!decide (ai .i64 f 32=0),E,d.Zt⟩/\FrW w w':=by
 have _:=hM
 obtain ⟨w',p,o,fr⟩:=KK hN hv hvN h.ob I E hl (fun x hx=>(hE x hx).w _) (fun e=>by have:=h.ar;omega) f hf a6;refine ⟨w',p,⟨o,h.ar,J,J,J,⟨fun p hp hp0=> ?_,h.wf.len,h.wf.nd,fun x hx h8=>HF (hE x hx).may h8⟩,h.pv,hE⟩,fr.fr⟩;obtain ⟨g1,g2,g3⟩:=h.wf.idx p hp hp0;exact ⟨g1,g2,hold _ g3⟩
theorem SD: ∃w',aA N w v ⟨c.Zh,c.Zq,cO .i64 c.Zm 32,c.Zn,c.Zj,c.Zi⟩=some w'/\(∃c',Sim N i k q w' c' (IM d true))/\FrW w w':=by
 obtain ⟨⟨f1,f2,f3,f4⟩, -⟩:=UG (lS h.ob.right).2.1 h.ob.oc.noP;obtain ⟨w',p,s,fr⟩:=Md hN hv hvN hk hM h c.Zi (by rw [h.el];exact h.ev) (by rw [h.el];exact hM) (fun j hj=>by rw [h.el];exact hj) (cO .i64 c.Zm 32) f1 f2
 have e:(⟨!decide (ai .i64 (cO .i64 c.Zm 32) 1=0),!decide (ai .i64 (cO .i64 c.Zm 32) 32=0),c.Zi,d.Zt⟩:W6)=IM d true:=by
  rw [f3,Xa f4,h.el];unfold IM;rw [<-h.ex];rfl
 rw [e] at s;exact ⟨w',p,⟨_,s⟩,fr⟩
theorem Q7: ∃w',qw N w v=some w'/\(∃c',Sim N i k q w' c' ⟨false,d.Zz,d.Zs,d.Zt⟩)/\FrW w w':=by
 obtain ⟨-,f1,f2,f3,f4⟩:=UG (lS h.ob.right).2.1 h.ob.oc.noP;obtain ⟨w',p,s,fr⟩:=Md hN hv hvN hk hM h c.Zi (by rw [h.el];exact h.ev) (by rw [h.el];exact hM) (fun j hj=>by rw [h.el];exact hj) (bi .i64 c.Zm 1) f1 f2
 have e:(⟨!decide (ai .i64 (bi .i64 c.Zm 1) 1=0),!decide (ai .i64 (bi .i64 c.Zm 1) 32=0),c.Zi,d.Zt⟩:W6)=⟨false,d.Zz,d.Zs,d.Zt⟩:=by
  rw [f4,W9 f3,h.el, <-h.fx];rfl
 rw [e] at s;refine ⟨w',?_,⟨_,s⟩,fr⟩;unfold qw;rw [Hr hv hvN I (by rw [h.el];exact hM) h.ob,bs];show Option.bind (bN N ⟨⟨c.Zh,c.Zq,bi .i64 c.Zm 1,c.Zn,c.Zj,c.Zi⟩,w,v⟩ false) _=_;rw [IX p f2 false,bs]
theorem SW (hx:Prim x)(hl:d.Zs.length<2200):Sat (tD N w v x) fun r=> ∃d',wL N d x=some (d',r.1)/\d'.Zs.length<=d.Zs.length+1/\d'.Zt.length<=d.Zt.length/\CR N i k q w d' r.2:=by
 have same: ∃d',some (d,false)=some (d',false)/\d'.Zs.length<=d.Zs.length+1/\d'.Zt.length<=d.Zt.length/\CR N i k q w d' w:=⟨d,rfl,by omega,YM _,c,h,FrW.refl w⟩;have a6:(!decide (ai .i64 c.Zm 1=0))=d.Ext:=h.ex
 have e1:decide (ai .i64 c.Zm 1=0)=!d.Ext:=by rw [<-a6,Bool.not_not]
 unfold tD wL yq;rw [vS hv hvN I hM h,bs];show Sat (Option.bind (some (decide (ai .i64 c.Zm 1=0))) _) _;rw [e1,bs]
 cases eE:d.Ext with
 |false=>exact ad (by simpa using same)
 | true=>
  rw [nt,cf,cf,bs,h.fx,bs]
  cases eF:d.Zz with
  |true=>exact ad (by simpa using same)
  | false=>
   rw [cf,bs,cf,bs,h.el,Xa (show¬4096<=(d.Zs.length:Int) by omega),cf,cf,rF (by rw [Ye];omega),rF (by simp only [Yc];omega),rF (by simp only [Za,Yc,Ye];omega)]
   obtain ⟨w',p,s,fr⟩:=Md hN hv hvN hk hM h (d.Zs++ [x]) (fun y hy=>by
    rcases Yi.1 hy with hy|hy
    ·exact h.ev y hy
    ·rw [Ys.1 hy];exact hx) (by rw [Za,Ye];omega) (fun j hj=>by rw [XS (XZ.1 hj).1];exact hj) c.Zm (lS h.ob.right).2.1 h.ob.oc.noP
   rw [p,bs];rw [h.fx,a6,eE,eF] at s;refine ad ⟨_,J,?_,YM _,_,s,fr⟩;show ([]++d.Zs++ [x]).length<=_;rw [Zf,Za,Ye];exact YM _
include hL hq
theorem PX (key:WX):Sat (qO N w v key) fun r=> ∃d',tg N d key=some (d',r.1)/\d'.Zs.length<=d.Zs.length/\d'.Zt.length<=d.Zt.length/\CR N i k (q+1024) w d' r.2:=by
 have hMc:c.Zi.length<=2200:=by rw [h.el];exact hM
 have same: ∀b:Bool, ∃d',some (d,b)=some (d',b)/\d'.Zs.length<=d.Zs.length/\d'.Zt.length<=d.Zt.length/\CR N i k (q+1024) w d' w:=fun b=>⟨d,rfl,YM _,YM _,c,h.up (YM _) I,FrW.refl w⟩
 have ho:=KW hM h.wf h.pv h.ev key;unfold qO tg ql;rw [vS hv hvN I hM h,bs,nt,cf,LI hN hv hvN I hM h key,bs,Fj hN I I h.wf key,bs]
 cases e2:(ni d key).2 with
 |false=>rw [nf,ct,ct];exact ad (same true)
 | true=>
  rw [nt,cf,cf];by_cases h4:ai .i64 (ni d key).1.Zk 4=0
  ·rw [W9 h4,ct,ct];exact ad (same false)
  rw [Xa h4,cf,cf]
  have hl:key≠lenK:=fun e=>by
   apply h4;unfold ni;rw [W9 e,cond_true];show ai .i64 (bif d.Zz then 0 else 1) 4=0;cases d.Zz<;>decide
  have hlong:=Ir hN (d:=d) I 0 I;rw [FS I] at hlong;have e8:iq N=some cN:=rfl
  have hA:ni d key=match sT d.Zs key with|some x=>(⟨key,7,x,v0,v0⟩,true)|none=>nh d.Zt key:=by
   unfold ni;rw [Xa hl,cond_false];rfl
  -- what remains when a property is removed
  have hdel:sT d.Zs key=none->Sat ((fM N w v key).bind fun a6=>some (a6.1,a6.2)) fun r=>r.1=true/\CR N i k (q+1024) w ⟨d.Ext,d.Zz,d.Zs,pW d.Zt key⟩ r.2:=fun en=>by
   rw [en] at hA;rw [hA] at e2 h4
   refine (Dd hN hv hvN h.ob I I hMc key).bind fun r hr=>ad ?_
   rcases hr with ⟨e, -⟩|⟨-,e, -⟩|⟨-, -,r1,c2,o2,s2,f2⟩
   ·rw [e2] at e;cases e
   ·exact absurd e h4
   refine ⟨r1,c2,⟨o2,s2.kind.trans h.ar,s2.more.trans h.el,s2.ext.trans h.ex,by rw [s2.flags];exact h.fx,⟨fun p hp hp0=>h.wf.idx p (qM.1 hp).1 hp0,fun p hp=>h.wf.len p (qM.1 hp).1,IV h.wf.nd _,h.wf.hole⟩,fun p hp=>h.pv p (qM.1 hp).1,h.ev⟩,f2.fr⟩
  have hfin: ∀(m:Option (Bool×WP)) (R:Option (W6×Bool)),R=some (⟨d.Ext,d.Zz,d.Zs,pW d.Zt key⟩,true)->(Sat m fun r=>r.1=true/\CR N i k (q+1024) w ⟨d.Ext,d.Zz,d.Zs,pW d.Zt key⟩ r.2)->Sat m fun r=> ∃d',R=some (d',r.1)/\d'.Zs.length<=d.Zs.length/\d'.Zt.length<=d.Zt.length/\CR N i k (q+1024) w d' r.2:=fun m R hR hm=>hm.mono fun r hr=>⟨⟨d.Ext,d.Zz,d.Zs,pW d.Zt key⟩,by rw [hR,hr.1],YM _,Yb ..,hr.2⟩
  by_cases h0:key.Zh=0
  ·rw [W9 h0,ct,ct]
   cases en:sT d.Zs key with
   | some x=>
    obtain ⟨g1,g2,g3,g4,g5⟩:=wu en;have hlt:=(XZ.1 g5).1
    have hg:aq d.Zs key.N=some x:=by
     have:=aM hlt;rw [show ((key.N.toNat:Nat):Int)=key.N by omega,(XZ.1 g5).2] at this;exact this
    have hth:eu N c key.N=some true:=by
     unfold eu;rw [h.el,W9 (show key.N<(d.Zs.length:Int) by omega),ct,hg,bs,bs];show some (!decide (x=cN))=_;rw [Xa g2];rfl
    rw [hth,bs,bs,ct,h.el,hg,bs,W9 (show key.N<(d.Zs.length:Int) by omega),bs,ct,hlong,bs,e8,bs]
    have hno: ∀p∈d.Zt,p.Zo≠key:=fun p hp e=>by
     obtain ⟨-, -,g⟩:=h.wf.idx p hp (by rw [e];exact h0);rw [e,g5] at g;exact g2 (YX g)
    have hset: ∀u∈d.Zs.set key.N.toNat cN,Prim u:=fun u hu=>by
     rcases Yq hu with hu|rfl
     ·exact h.ev u hu
     exact ut
    obtain ⟨w',p,s,fr⟩:=Md hN hv hvN hk hM h (d.Zs.set key.N.toNat cN) hset (by rw [Yd];exact hM) (fun j hj=>by
     by_cases e:key.N.toNat=j
     ·subst e;exact X4 hlt
     ·rw [X3 e];exact hj) c.Zm (lS h.ob.right).2.1 h.ob.oc.noP
    have p':aA N w v ⟨c.Zh,c.Zq,c.Zm,c.Zn,c.Zj,List.set d.Zs key.N.toNat (⟨8,0,(⟨#[]⟩:ByteArray)⟩:WZ)⟩=some w':=p;rw [p',bs];have hwo:=uj hN (d:=⟨d.Ext,d.Zz,List.set d.Zs key.N.toNat cN,d.Zt⟩) (by show d.Zt.length<=1024;omega) key;have a7:(!decide (ai .i64 c.Zm 1=0))=d.Ext:=h.ex;rw [h.fx,a7] at s;refine ad ⟨⟨d.Ext,d.Zz,d.Zs.set key.N.toNat cN,d.Zt⟩,?_,by show (d.Zs.set _ _).length<=_;rw [Yd];exact YM _,YM _,_,s.up (YM _) I,fr⟩;show Option.bind (aq d.Zs key.N) _=_;rw [hg,bs];show Option.bind (ej N ⟨d.Ext,d.Zz,List.set d.Zs key.N.toNat cN,d.Zt⟩ key) _=_;rw [hwo,bs,MP hno]
   | none=>
    rw [en] at hA;rw [hA] at e2;rcases zz h.wf.nd key with ⟨p,hp,hpk,hop⟩|⟨-,hop⟩
    ·obtain ⟨g1,g2,g3⟩:=h.wf.idx p hp (by rw [hpk];exact h0);rw [hpk] at g1 g2 g3;have hlt:=(XZ.1 g3).1
     have hg:aq d.Zs key.N=some cN:=by
      have:=aM hlt;rw [show ((key.N.toNat:Nat):Int)=key.N by omega,(XZ.1 g3).2] at this;exact this
     have hth:eu N c key.N=some false:=by
      unfold eu;rw [h.el,W9 (show key.N<(d.Zs.length:Int) by omega),ct,hg,bs,bs];rfl
     rw [hth,bs,bs,cf,W9 (show key.N<(d.Zs.length:Int) by omega),bs,ct,hlong,bs,e8,bs];refine hfin _ _ ?_ (hdel en);show Option.bind (aq d.Zs key.N) _=_;rw [hg,bs];have hwo:=uj hN (d:=⟨d.Ext,d.Zz,List.set d.Zs key.N.toNat cN,d.Zt⟩) (by show d.Zt.length<=1024;omega) key;show Option.bind (ej N ⟨d.Ext,d.Zz,List.set d.Zs key.N.toNat cN,d.Zt⟩ key) _=_;rw [hwo,bs,By g3]
    rw [hop] at e2;cases e2
  rw [Xa h0,cf,cf,bs,cf,bs,cf]
  have en:sT d.Zs key=none:=by
   cases e:sT d.Zs key with
   |none=>rfl
   |some x=>exact absurd (by rw [(wu e).2.2.1];rfl) h0
  refine hfin _ _ ?_ (hdel en);show Option.bind (ej N d key) _=_;rw [uj hN I key,bs]
end
end
section
open Go.RowKit
set_option maxRecDepth 20000
theorem Uh: ∀a:_root_.Fin 8, ∀b s2 x y:Bool,ai .i64 ((kN (a.val:Int) (bif b then 0 else 1) x 2+kN (a.val:Int) (bif b then 0 else 1) y 4)+kN (a.val:Int) (bif b then 0 else 1) s2 1) 1=0↔(bif s2 then !sB (a.val:Int) 1 else b)=true:=by decide+kernel
theorem Ut: ∀b:Bool,sB (bif b then 0 else 1) 8=false/\sB (bif b then 0 else 1) 4=false:=by decide+kernel
theorem Sr: ∀n:_root_.Fin 64,(ai .i64 (n.val:Int) 2=0↔sB (n.val:Int) 2=false)/\(ai .i64 (n.val:Int) 1=0↔sB (n.val:Int) 1=false):=by decide+kernel
theorem Ik {N:Nat}(hN:20000<=N)(hE:d.Zs.length<=5000)(hP:d.Zt.length<=1024)(hw:Wf d){d1:W6}{b:Bool}(e:lW N d n=some (d1,b)):d1.Zz=d.Zz:=by
 rw [Hh hN hE hP hw n] at e;have e:=YX e;unfold Es at e
 cases e':(decide (n<0)||decide (4096<n)||(d.Zz&& !decide (n=(d.Zs.length:Int)))) with
 |true=>rw [e',cond_true] at e;exact (congrArg (fun z:W6×Bool=>z.1.Zz) e).symm
 |false=>rw [e',cond_false] at e;exact (congrArg (fun z:W6×Bool=>z.1.Zz) e).symm
section
variable {N:Nat}(hN:20000<=N)(hv:v.Zh=7)(hvN:v.N=i){k:Nat}(hk:k+8<=580)(hq:q+1024*1000<=1000000000){w:WP}(hM:d.Zs.length<=2190)(hL:d.Zt.length<1000)(h:Sim N i k q w c d)
include hN hv hvN hk hq hM hL h
theorem NX (hd:PD dd): ∃z,lF N (wk d) true d.Ext lenK dd=some z/\dw N (wk d) true true lenK dd=some z/\(z.2=true->(ai .i64 z.1.Zk 1=0↔(bif sB dd.Has 2 then !sB dd.Zk 1 else d.Zz)=true)):=by
 have _:=hv
 have _:=hvN
 have _:=hk
 have _:=hq
 have _:=hL
 have hl:ni d lenK=(wk d,true):=by
  unfold ni;rw [W9 rfl];rfl
 have ho:=KW I h.wf h.pv h.ev lenK;rw [hl] at ho;have hlb:0<=(wk d).Zk/\(wk d).Zk<=15:=ho.b;have hB:=zL N hd.r hlb;rw [MV N lenK hlb ho.n hd.r,zN N lenK hlb hd.r,zN N lenK hlb hd.r];obtain ⟨p8,p4⟩:=Ut d.Zz;have e4:sB (wk d).Zk 4=false:=p4;have e8:sB (wk d).Zk 8=false:=p8;rw [nt,cf,e4,nf,ct]
 have hR:keyR N lenK:=by
  unfold keyR bd;show Option.bind (iZ N lenK.S) _=_
  have:iZ N lenK.S=some (0,false):=by
   obtain ⟨n,rfl⟩: ∃n,N=n+64:=⟨N - 64,by omega⟩;kernel_rfl
  rw [this];rfl
 obtain ⟨y,hy, -⟩:=MU N hR hd hlb ho.v ho.v8 ho.g ho.s true true;rw [zN N lenK hlb hd.r,nt,cf,e4,nf,ct] at hy;refine ⟨y,hy,hy,fun e=> ?_⟩
 cases hb:ic N (wk d) dd with
 |none=>rw [hb] at hy;cases hy
 | some b=>
  rw [hb,bs] at hy
  cases b with
  |true=>rw [ct] at hy;obtain rfl:=bJ hy;cases e
  | false=>
   rw [cf] at hy;obtain rfl:=bJ hy
   have hacc:(sB dd.Has 4||sB dd.Has 8)=false:=by
    cases e':(sB dd.Has 4||sB dd.Has 8) with
    |false=>rfl
    | true=>
     rw [<-IZ N hlb hB] at hb;unfold pz at hb;rw [hB.says 32 I,bs,hB.da 4 I,bs,Em,bs] at hb
     cases e5:(bif sB dd.Has 32 then sB dd.Zk 4 else false) with
     |true=>rw [e5,ct] at hb;cases hb
     | false=>
      rw [e5,cf,hB.says 16 I,bs,hB.da 2 I,bs,hB.pb 2 I,bs,Em,bs] at hb
      cases e6:(bif sB dd.Has 16 then !(sB dd.Zk 2==sB (wk d).Zk 2) else false) with
      |true=>rw [e6,ct] at hb;cases hb
      |false=>
       rw [e6,cf,hB.pb 8 I,bs,e8,cf,hB.acc,bs,e',ct] at hb;cases hb
   have hf:=Uh ⟨dd.Zk.toNat,by have:=hd.r.a;omega⟩ d.Zz (sB dd.Has 2) (sB dd.Has 16) (sB dd.Has 32);simp only [Xz hd.r.a.1] at hf
   have ea:(GC lenK (wk d) dd).Zk=(kN dd.Zk (bif d.Zz then 0 else 1) (sB dd.Has 16) 2+kN dd.Zk (bif d.Zz then 0 else 1) (sB dd.Has 32) 4)+kN dd.Zk (bif d.Zz then 0 else 1) (sB dd.Has 2) 1:=by
    show _+(bif (sB dd.Has 4||sB dd.Has 8)||(sB (wk d).Zk 8&& !(sB dd.Has 1||sB dd.Has 2)) then (8:Int) else bif sB (wk d).Zk 8 then _ else _)=_;rw [hacc,e8];rfl
   show ai .i64 (GC lenK (wk d) dd).Zk 1=0↔_;rw [ea];exact hf
def Oy (N:Nat)(i:Int)(k q:Nat)(w:WP)(d d':W6)(w':WP):Prop:=d'.Zs.length<=max d.Zs.length 2101/\d'.Zt.length<=d.Zt.length+1/\CR N i (k+8) (q+1024*1000) w d' w'
theorem PY (a8:k+16<=580)(hd:PD dd)(hval:dd.Value.N<=2100\/4096<dd.Value.N):Sat (ne N w v c dd) fun r=> ∃d',o5 N d dd=some (d',r.1,r.2.1)/\Oy N i k q w d d' r.2.2:=by
 have same: ∀b:Bool, ∃d',some (d,false,b)=some (d',false,b)/\Oy N i k q w d d' w:=fun b=>⟨d,rfl,by omega,by omega,c,h.up I I,FrW.refl w⟩
 have eL:cE N=some lenK:=rfl;have eL':cg N=some lenK:=rfl
 have hl:ni d lenK=(wk d,true):=by
  unfold ni;rw [W9 rfl];rfl
 obtain ⟨z,z1,z2,z3⟩:=NX hN hv hvN hk hq hM hL h hd;have h6:=Sr ⟨dd.Has.toNat,by have:=hd.r.h;omega⟩;simp only [Xz hd.r.h.1] at h6;have h6a:=Sr ⟨dd.Zk.toNat,by have:=hd.r.a;omega⟩;simp only [Xz hd.r.a.1] at h6a;unfold ne o5;generalize hbad:((bif !decide (ai .i64 dd.Has 1=0) then ((bif !decide (dd.Value.Zh=3) then (some true) else (some (decide (dd.Value.N<0)))).bind fun b7=>(bif b7 then (some true) else (some (decide (4096<dd.Value.N)))).bind fun b8=>some b8) else (some false)):Option Bool)=bad
 obtain ⟨b,rfl⟩: ∃b,bad=some b:=by
  rw [<-hbad];cases decide (ai .i64 dd.Has 1=0)<;>cases decide (dd.Value.Zh=3)<;>cases decide (dd.Value.N<0)<;>cases decide (4096<dd.Value.N)<;>exact ⟨_,rfl⟩
 rw [bs,bs]
 cases b with
 |true=>exact ad (same true)
 | false=>
  rw [cf,cf,H3 I h,bs,eL',bs,z2,bs,eL,bs,Fj hN I I h.wf lenK,bs,bs,hl,z1,bs]
  cases ez:z.2 with
  |false=>exact ad (same false)
  | true=>
   have hw:=z3 ez;rw [nt,cf,cf]
   have hfix:(bif !decide (ai .i64 dd.Has 2=0) then (some (decide (ai .i64 dd.Zk 1=0))) else (some false):Option Bool)=some (sB dd.Has 2&& !sB dd.Zk 1):=by
    have a1:decide (ai .i64 dd.Has 2=0)=!sB dd.Has 2:=by
     cases e:sB dd.Has 2 with
     |false=>rw [W9 (h6.1.2 e)];rfl
     |true=>rw [Xa fun e2=>by rw [h6.1.1 e2] at e;cases e];rfl
    have a2:decide (ai .i64 dd.Zk 1=0)=!sB dd.Zk 1:=by
     cases e:sB dd.Zk 1 with
     |false=>rw [W9 (h6a.2.2 e)];rfl
     |true=>rw [Xa fun e2=>by rw [h6a.2.1 e2] at e;cases e];rfl
    rw [a1,a2,Bool.not_not];cases sB dd.Has 2<;>rfl
   have hz1:decide (ai .i64 z.1.Zk 1=0)=(bif sB dd.Has 2 then !sB dd.Zk 1 else d.Zz):=by
    cases e:(bif sB dd.Has 2 then !sB dd.Zk 1 else d.Zz) with
    |true=>exact W9 (hw.2 e)
    |false=>exact Xa fun e2=>by rw [hw.1 e2] at e;cases e
   rw [hz1];by_cases hs:ai .i64 dd.Has 1=0
   ·rw [W9 hs,nt,nf,ct,cf];unfold km kl;rw [hfix,bs];obtain ⟨w',p,⟨c',s⟩,fr⟩:=SD hN hv hvN hk I h
    cases e2:sB dd.Has 2 with
    | false=>
     rw [cf];show Sat (bif d.Zz then _ else _) _
     cases eF:d.Zz with
     |false=>
      rw [cf]
      have ed:IM d false=d:=by unfold IM;rw [<-eF]
      exact ad ⟨IM d false,J,by rw [ed];omega,by rw [ed];omega,c,by rw [ed];exact h.up I I,FrW.refl w⟩
     |true=>
      rw [ct,vS hv hvN I I h,bs];show Sat (Option.bind (aA N w v ⟨c.Zh,c.Zq,cO .i64 c.Zm 32,c.Zn,c.Zj,c.Zi⟩) _) _;rw [p,bs];exact ad ⟨IM d true,J,by show d.Zs.length<=_;omega,by show d.Zt.length<=_;omega,c',s.up I I,fr⟩
    | true=>
     rw [ct,Xs]
     cases e1:sB dd.Zk 1 with
     |true=>
      rw [nt,cf,cf];exact ad ⟨d,J,by omega,by omega,c,h.up I I,FrW.refl w⟩
     |false=>
      rw [nf,ct,ct,vS hv hvN I I h,bs];show Sat (Option.bind (aA N w v ⟨c.Zh,c.Zq,cO .i64 c.Zm 32,c.Zn,c.Zj,c.Zi⟩) _) _;rw [p,bs];exact ad ⟨IM d true,J,by show d.Zs.length<=_;omega,by show d.Zt.length<=_;omega,c',s.up I I,fr⟩
   rw [Xa hs,nf,nt,ct,cf]
   refine Sat.bind (Jn hN hv hvN hk hq I hL h hval) fun r hr=> ?_
   obtain ⟨d1,e1,l1,l2,c1,s1,f1⟩:=hr;rw [e1,bs];unfold km kl;rw [hfix,bs];obtain ⟨w',p,⟨c',s⟩,fr⟩:=SD hN hv hvN (by omega:k+8+8<=580) I s1;have hfx1:d1.Zz=d.Zz:=Ik hN I I h.wf e1;have stay: ∃d',some ((⟨d1.Ext,d1.Zz,d1.Zs,d1.Zt⟩:W6),r.1,false)=some (d',r.1,false)/\Oy N i k q w d d' r.2:=⟨d1,rfl,l1,by omega,c1,s1,f1⟩
   have go:Sat ((ca N r.2 v).bind fun a6=>(aA N r.2 v (⟨a6.1.Zh,a6.1.Zq,cO .i64 a6.1.Zm 32,a6.1.Zn,a6.1.Zj,a6.1.Zi⟩:W3)).bind fun a7=>some (r.1,false,a7)) fun z=> ∃d',some ((⟨d1.Ext,true,d1.Zs,d1.Zt⟩:W6),r.1,false)=some (d',z.1,z.2.1)/\Oy N i k q w d d' z.2.2:=by
    rw [vS hv hvN I I s1,bs];show Sat (Option.bind (aA N r.2 v ⟨c1.Zh,c1.Zq,cO .i64 c1.Zm 32,c1.Zn,c1.Zj,c1.Zi⟩) _) _;rw [p,bs];exact ad ⟨IM d1 true,J,l1,by show d1.Zt.length<=_;omega,c',s,f1.trans fr⟩
   cases e2:sB dd.Has 2 with
   | false=>
    rw [cf];show Sat (bif d.Zz then _ else _) _
    cases eF:d.Zz with
    |false=>
     rw [cf];exact ad stay
    |true=>
     have e:d1.Zz=true:=by rw [hfx1,eF]
     rw [ct,Xq,cf,e];exact go
   | true=>
    rw [ct,Xs]
    cases e1:sB dd.Zk 1 with
    |true=>
     rw [nt,cf,cf];exact ad stay
    |false=>
     rw [nf,ct,ct];exact go
end
end
section
open Go.RowKit
set_option maxRecDepth 20000
def PrimB (x:WZ):Prop:=(x.Zh<7/\ln x=true)\/x=cN
theorem PrimB.prim (h:PrimB x)(hi:in64 x.N):Prim x:=by
 rcases h with ⟨h1,h2⟩|rfl
 ·refine ⟨h2,hi,?_⟩;unfold bO;rw [Xa (show¬x.Zh=7 by omega),Xa (show¬x.Zh=9 by omega)];rfl
 exact ut
theorem Vv (h:ln x=true)(h0:x.Zh=0):x=v0:=by
 obtain ⟨a,b,s⟩:=x;simp only at h0;subst h0;unfold ln dN at h
 cases e:(s.toList==(⟨#[]⟩:ByteArray).toList) with
 |false=>
  rw [show ((⟨0,b,s⟩:WZ).S.toList==(⟨#[]⟩:ByteArray).toList)=false from e] at h;exact absurd h (by show¬(Option.getD (some false) false)=true;decide)
 |true=>
  have hs:=oY.1 (eq_of_beq e);subst hs;rw [show ((⟨0,b,⟨#[]⟩⟩:WZ).S.toList==(⟨#[]⟩:ByteArray).toList)=true from e] at h;have h2:(Option.getD (some (decide (b=0))) false)=true:=h;have:b=0:=Y8 h2;subst this;rfl
theorem PrimB.half (h:PrimB x)(hk:x.Zh=0\/x.Zh=7):x=v0:=by
 rcases h with ⟨h1,h2⟩|rfl
 ·rcases hk with h0|h7
  ·exact Vv h2 h0
  omega
 rcases hk with h0|h7
 ·cases h0
 cases h7
structure PDesc (dd:WW):Prop where
 i:in64 dd.Has
 a:in64 dd.Zk
 n:in64 dd.Value.N
 v:PrimB dd.Value
 g:PrimB dd.Zx
 s:PrimB dd.Zy
theorem PDesc.pd (h:PDesc dd)(r:R25 dd):PD dd:=by
 refine ⟨r,h.v.prim h.n,fun e=>by have:=r.vk;omega,?_,?_⟩
 ·cases e:sB dd.Has 4 with
  |false=>exact r.g.1 e
  |true=>exact h.g.half (r.g.2 e)
 cases e:sB dd.Has 8 with
 |false=>exact r.s.1 e
 |true=>exact h.s.half (r.s.2 e)
section
variable {N:Nat}(hN:20000<=N)(hv:v.Zh=7)(hvN:v.N=i){k:Nat}(hk:k+16<=580)(hq:q+1024*1000<=1000000000){w:WP}(hM:d.Zs.length<=2190)(hL:d.Zt.length<1000)(h:Sim N i k q w c d)
include hN hv hvN hk hq hM hL h
theorem PZ (hkey:key.Zh=0->key.N<=2100\/4096<=key.N)(hd:PDesc dd)(hval:dd.Value.N<=2100\/4096<dd.Value.N):Sat (eC N w v key dd) fun r=> ∃d',gC N d key dd=some (d',r.1,r.2.1)/\Oy N i k q w d d' r.2.2:=by
 have same: ∃d',some (d,false,false)=some (d',false,false)/\Oy N i k q w d d' w:=⟨d,rfl,by omega,by omega,c,h.up I I,FrW.refl w⟩;have eL:cg N=some lenK:=rfl;have eL':cE N=some lenK:=rfl;have a7:=Ew N hN key;have b0:=KI N (d:=dd) hd.i hd.a;obtain ⟨b,hb, -⟩:=Dl N I key;obtain ⟨b2,a6,h25⟩:=QM N dd;have hdr:fA N dd=some b2:=b0.symm.trans a6
 have hh: ∀{ρ:Type} (F:W3×Bool->Bool->Option ρ),((ca N w v).bind fun a8=>(bif !a8.2 then (some true) else ((bd N key).bind fun b5=>some (!b5))).bind fun b6=>F a8 b6)=F (c,true) (!b):=fun F=>by
  rw [vS hv hvN I I h,bs];show Option.bind (Option.bind (bd N key) _) _=_;rw [hb,bs,bs]
 cases b with
 |false=>
  unfold gC eC;rw [hh,a7,hb,bs];exact ad same
 | true=>
  cases b2 with
  |false=>
   unfold gC eC;rw [hh,a7,hb,bs]
   show Sat (Option.bind (Option.bind (fA N dd) _) _) fun r=> ∃d',Option.bind (Option.bind (dZ N dd) _) _=_/\_
   rw [hdr,a6,bs];exact ad same
  | true=>
   have hR:keyR N key:=hb;have hp:=hd.pd (h25 rfl);by_cases hl:key=lenK
   ·have hx:=PY hN hv hvN I hq hM hL h hk hp hval;unfold gC eC;rw [hh,a7,hb,bs]
    show Sat (Option.bind (Option.bind (fA N dd) _) _) fun r=> ∃d',Option.bind (Option.bind (dZ N dd) _) _=_/\_
    rw [hdr,a6,bs,bs,bs,nt,cf,cf,eL,eL',bs,bs,W9 hl,ct,ct]
    refine hx.bind fun r hr=>ad ?_
    obtain ⟨d',r1,r2⟩:=hr;exact ⟨d',by rw [r1];rfl,r2⟩
   refine Sat.mono (Of hN hv hvN I I I hL h hR hl hkey hp a6 hdr) fun r hr=> ?_
   obtain ⟨d',r1,r2,r3,c',r4,r5⟩:=hr;exact ⟨d',r1,r2,r3,c',r4.up (YM _) I,r5⟩
end
end
section
open Go.RowKit
set_option maxRecDepth 20000
theorem Pf (h:bO x=false):fW ρ f x=x:=by
 unfold fW;rw [h];rfl
theorem Dg (ρ:Int->Int)(f:List Int)(x:WZ):(fW ρ f x).Zh=x.Zh:=by
 unfold fW;cases bO x&&decide (x.N∈f)<;>rfl
theorem Prim.mov (h:Prim x)(ρ:Int->Int)(f:List Int):fW ρ f x=x:=Pf h.no
theorem SQ (ρ:Int->Int)(f:List Int):fW ρ f v0=v0:=Pf rfl
section
variable {N:Nat}{k:Nat}{w:WP}(h:Sim N i k q w c d)
include h
theorem Mv.sim {g':W4}(m:Mv w.Zv g' ρ f)(hi:i∈f): ∃c',Sim N (ρ i) k q (Il w g') c' d:=by
 obtain ⟨m1,age,m2⟩:=m.at_ i hi;obtain ⟨in1,in2⟩:=m.cin i hi;rw [h.ob.at_] at in1 in2 m2;have hpl:=m.pl h.ob.wd.pl
 have eM:c.Zi.map (fW ρ f)=c.Zi:=by
  rw [h.el];exact (List.map_congr_left fun x hx=>(h.ev x hx).mov ρ f).trans (List.map_id' _)
 have hm2:cp g'.m_ (ρ i)=⟨c.Zh,c.Zq,c.Zm,age,c.Zj.map (fW ρ f),c.Zi⟩:=by
  rw [m2];show (⟨c.Zh,c.Zq,c.Zm,age,c.Zj.map (fW ρ f),c.Zi.map (fW ρ f)⟩:W3)=_;rw [eM]
 have hin:cp g'.m_ (ρ i)∈g'.m_.Zp++g'.m_.Zr:=pn m1
 have hb:Hb k c.Zi.length g':=by
  have a1:=h.ob.wd.hb.hw;have a2:=h.ob.wd.hb.hm;have a3:=h.ob.wd.hb.hr;have e1:=G5 w.Zv.m_.Zp;have e2:=G5 w.Zv.m_.Zr;have e3:=G5 g'.m_.Zp;have e4:=G5 g'.m_.Zr;have b1:=m.sum;have b2:=m.wts
  have hx:c.Zi.length<=mS g'.m_.Zp+mS g'.m_.Zr:=by
   rcases Yi.1 hin with hc|hc
   ·have b:=ub (fun c:W3=>c.Zi.length) hc;have b:(cp g'.m_ (ρ i)).Zi.length<=mS g'.m_.Zp:=b;rw [hm2] at b;show c.Zi.length<=_;have b:c.Zi.length<=mS g'.m_.Zp:=b;omega
   have b:=ub (fun c:W3=>c.Zi.length) hc;have b:(cp g'.m_ (ρ i)).Zi.length<=mS g'.m_.Zr:=b;rw [hm2] at b;have b:c.Zi.length<=mS g'.m_.Zr:=b;omega
  refine ⟨by omega,by omega,?_⟩;rw [m.roots,Zc];exact a3
 refine ⟨⟨c.Zh,c.Zq,c.Zm,age,c.Zj.map (fW ρ f),c.Zi⟩,⟨⟨hpl,hb,h.ob.wd.ti,h.ob.wd.tb⟩,m1,hm2,⟨h.ob.oc.kind,?_,h.ob.oc.plain,h.ob.oc.row,?_,h.ob.oc.nd,h.ob.oc.noP⟩,?_,?_⟩,h.ar,h.el,h.ex,h.fx,h.wf,h.pv,h.ev⟩
 ·obtain ⟨z,z1,z2⟩:=h.ob.oc.proto;exact ⟨fW ρ f z,by rw [X0,z1];rfl,by rw [Dg];exact z2⟩
 ·rw [Zc];exact h.ob.oc.num
 ·intro n p hp;obtain ⟨x,x1,x2⟩:=h.ob.each n p hp;have hpv:=h.pv p (Yo hp);refine ⟨fW ρ f x,by rw [X0,x1];rfl,?_⟩;rcases x2 with ⟨a1,a2,a3,a4,a5⟩|⟨a1,a2,a,ag,rfl,a4,a5⟩
  ·refine .inl ⟨a1,?_,a3,a4,by rw [Dg];exact a5⟩;rw [a2,(a2▸hpv.v:Prim x).mov]
  have ha:a∈f:=in1 _ (Yo x1) rfl;obtain ⟨b1,age2,b2⟩:=m.at_ a ha;refine .inr ⟨a1,a2,ρ a,age2,Df J ha,b1,?_⟩;refine b2.trans ?_;show Im (sm ρ f (cp w.Zv.m_ a)) age2=_;rw [a5,hpv.g,hpv.s];show (⟨5,0,0,age2,[fW ρ f v0,fW ρ f v0],[]⟩:W3)=_;rw [SQ]
 intro n n2 x y hne hx hy kx ky;rw [X0] at hx hy;obtain ⟨x0,a6,rfl⟩:=Option.map_eq_some_iff.1 hx;obtain ⟨y0,a7,rfl⟩:=Option.map_eq_some_iff.1 hy;rw [Dg] at kx ky
 have bx:bO x0=true:=by unfold bO;rw [kx];rfl
 have by_:bO y0=true:=by unfold bO;rw [ky];rfl
 have fx:=in1 _ (Yo a6) bx;have fy:=in1 _ (Yo a7) by_;rw [Df bx fx,Df by_ fy];intro e;exact h.ob.inj n n2 x0 y0 hne a6 a7 kx ky (m.inj _ fx _ fy e)
theorem Re (hN:6500<N)(hr:w.Zv.ZA=R++ [⟨7,i,⟨#[]⟩⟩]): ∃g' i' R' c',dv N w.Zv=some (0,g')/\R'.length=R.length/\g'.ZA=R'++ [⟨7,i',⟨#[]⟩⟩]/\Sim N i' k q (Il w g') c' d:=by
 obtain ⟨g',ρ,f,e,m⟩:=Pm hN h.ob.wd.pl;have hi:i∈f:=m.rin ⟨7,i,⟨#[]⟩⟩ (by rw [hr];exact Xe _ (Ys.2 rfl)) rfl;obtain ⟨c',s⟩:=Mv.sim h m hi;refine ⟨g',ρ i,R.map (fW ρ f),c',e,Zc ..,?_,s⟩;rw [m.roots,hr,Yf];show _++ [fW ρ f ⟨7,i,⟨#[]⟩⟩]=_;rw [Df rfl hi]
end
end
section
open Go.RowKit
def rk (k:WX):Int:=if k.Zh=0 then k.N else 8589934592*k.Zh
structure RKey (k:WX):Prop where
 kd:0<=k.Zh/\k.Zh<=2
 n:k.Zh=0->0<=k.N/\k.N<=4294967294
def SoK (l:List WX):Prop:=l.Pairwise (fun a b=>rk a<=rk b)
def EvK (l z:List WX):Prop:= ∀r:Int,l.filter (fun x=>decide (rk x=r))=z.filter (fun x=>decide (rk x=r))
theorem EvK.refl (l:List WX):EvK l l:=fun _=>rfl
theorem EvK.symm {z:List WX}(h:EvK l z):EvK z l:=fun r=>(h r).symm
theorem EvK.trans {y z:List WX}(h:EvK l y)(h2:EvK y z):EvK l z:=fun r=>(h r).trans (h2 r)
theorem EvK.app {a b c d:List WX}(h:EvK a b)(h2:EvK c d):EvK (a++c) (b++d):=fun r=>by
 rw [XM,XM,h r,h2 r]
theorem J1 {r:Int}(h:∀x∈l,rk x≠r):l.filter (fun x=>decide (rk x=r))=[]:=by
 rw [List.filter_eq_nil_iff];intro x hx e;exact h x hx (Y8 e)
theorem EvK.swap {U V:List WX}(h:∀x∈U, ∀y∈V,rk x≠rk y):EvK (U++V) (V++U):=fun r=>by
 rw [XM,XM];by_cases e: ∃x∈U,rk x=r
 ·obtain ⟨x,hx,rfl⟩:=e;rw [J1 (l:=V) fun y hy e=>h x hx y hy e.symm,XB,Zf]
 rw [J1 (l:=U) fun x hx e2=>e ⟨x,hx,e2⟩,XB,Zf]
theorem EvK.perm {z:List WX}(h:EvK l z):l.Perm z:=by
 rw [List.perm_iff_count];intro x
 have e: ∀l:List WX,l.count x=(l.filter (fun y=>decide (rk y=rk x))).count x:=fun l=>by
  rw [List.count_filter (by simp)]
 rw [e l,e z,h]
theorem EvK.len {z:List WX}(h:EvK l z):l.length=z.length:=h.perm.length_eq
theorem EvK.mem {z:List WX}(h:EvK l z){x:WX}:x∈l↔x∈z:=h.perm.mem_iff
theorem SoK.uniq: ∀{l z:List WX},SoK l->SoK z->EvK l z->l=z
 | [],z,_,_,h=>by
  have:=h.len;exact (List.length_eq_zero_iff.1 this.symm).symm
 |a::l,[],_,_,h=>by
  have:=h.len;cases this
 | a::l,b::z,h1,h2,h=>by
  obtain ⟨p1,p2⟩:=Yv.1 h1;obtain ⟨q1,q2⟩:=Yv.1 h2
  have e1:rk a=rk b:=by
   have m1:a∈b::z:=h.mem.1 (Yl ..);have m2:b∈a::l:=h.mem.2 (Yl ..);rcases Yj.1 m1 with rfl|m1
   ·rfl
   rcases Yj.1 m2 with rfl|m2
   ·rfl
   have:=p1 b m2;have:=q1 a m1;omega
  have e2:=h (rk a);rw [List.filter_cons_of_pos (by simp),List.filter_cons_of_pos (by simp [e1])] at e2;obtain ⟨rfl,e3⟩:=XC e2;refine congrArg (a:: ·) (SoK.uniq p2 q2 fun r=> ?_);by_cases e:rk a=r
  ·subst e;exact e3
  have:=h r
  rwa [List.filter_cons_of_neg (by simpa using e),List.filter_cons_of_neg (by simpa using e)] at this
theorem SoK.app {a b:List WX}(h1:SoK a)(h2:SoK b)(h:∀x∈a, ∀y∈b,rk x<=rk y):SoK (a++b):=List.pairwise_append.2 ⟨h1,h2,h⟩
theorem SoK.parts {a b:List WX}(h:SoK (a++b)):SoK a/\SoK b/\ ∀x∈a, ∀y∈b,rk x<=rk y:=List.pairwise_append.1 h
theorem SoK.nil:SoK []:=List.Pairwise.nil
theorem SoK.one (x:WX):SoK [x]:=List.pairwise_singleton ..
theorem SH (N:Nat)(a b:Int): ∃z,oV N a b=some z/\(z<0↔a<b):=by
 unfold oV vm;rw [bs,bs,W9 rfl,W9 rfl];simp only [nt,cf];by_cases h:a<b
 ·rw [W9 h,ct];exact ⟨-1,J,by omega⟩
 rw [Xa h,cf];by_cases h2:b<a
 ·rw [W9 h2,ct];exact ⟨1,J,by omega⟩
 rw [Xa h2,cf];exact ⟨0,J,by omega⟩
theorem ED (N:Nat){a b:WX}(ha:RKey a)(hb:RKey b):Sat (nC N a b) fun z=>z<0↔rk a<rk b:=by
 obtain ⟨⟨a1,a2⟩,a3⟩:=ha;obtain ⟨⟨b1,b2⟩,b3⟩:=hb;obtain ⟨z,z1,z2⟩:=SH N a.N b.N;obtain ⟨y,y1,y2⟩:=SH N a.Zh b.Zh;unfold nC rk;by_cases ha:a.Zh=0
 ·rw [W9 ha,ct,bs,if_pos ha];have:=a3 ha;by_cases hb:b.Zh=0
  ·rw [W9 hb,ct,if_pos hb,z1,bs];exact ad z2
  rw [Xa hb,cf,if_neg hb,y1,bs];refine ad (y2.trans ?_);omega
 rw [Xa ha,cf,bs,cf,if_neg ha,y1,bs];refine ad (y2.trans ?_);by_cases hb:b.Zh=0
 ·rw [if_pos hb];have:=b3 hb;omega
 rw [if_neg hb];omega
theorem Gw {l P S:List α}{x:α}(e:l=P++x::S):l[P.length]? =some x:=by
 rw [e,XT (YM _),YR];rfl
theorem fR {ρ:Type}{l P S:List α}{x:α}{f:α->Option ρ}{Q:ρ->Prop}(e:l=P++x::S)(hi:i=(P.length:Int))(k:Sat (f x) Q):Sat ((aq l i).bind f) Q:=by
 subst hi
 refine qe I (by rw [e,Za];simp only [X9];omega) fun y hy=> ?_
 rw [Xy,Gw e] at hy;cases hy;exact k
theorem zq {P S:List α}{x y:α}:(P++x::S).set P.length y=P++y::S:=by
 rw [List.set_append_right _ _ (YM _),YR];rfl
theorem Vp {l P M S:List α}{x y:α}{j:Int}(e:l=P++x::(M++y::S))(hi:i=(P.length:Int))(hj:j=(P.length:Int)+1+M.length):(l.set i.toNat y).set j.toNat x=P++y::(M++x::S):=by
 subst e hi;rw [Xy,zq]
 have e1:P++y::(M++y::S)=(P++y::M)++y::S:=by simp
 have e2:j.toNat=(P++y::M).length:=by simp;omega
 rw [e1,e2,zq];simp
theorem Ul {l P M S:List α}{x y:α}{j:Int}(e:l=P++x::(M++y::S))(hi:i=(P.length:Int))(hj:j=(P.length:Int)+1+M.length):(l.set j.toNat x).set i.toNat y=P++y::(M++x::S):=by
 rw [List.set_comm _ _ I];exact Vp e hi hj
theorem DP (N:Nat)(x y k:Int): ∀(m:Nat) (U V P M S l:List WX) (t:Int),V.length=U.length->U.length<m->x+t=P.length->y+t=P.length+U.length+M.length->k - t=U.length->0<=t->t<=10000->k<=10000->l.length<=10000->l=P++(U++(M++(V++S)))->Sat (cA N x y k m l t) fun r=>r=P++(V++(M++(U++S)))
 |0,U,V,P,M,S,l,t,h1,h2,_,_,_,_,_,_,_,_=>by omega
 | m +1,U,V,P,M,S,l,t,h1,h2,h3,h4,h5,h6,h7,h8,h9,h10=>by
  rw [cA.eq_2]
  cases U with
  |nil=>
   cases V with
   |cons v V=>cases h1
   |nil=>exact aC (fun h=>by simp only [Yc] at h5;omega) fun _=>ad h10
  | cons u U=>
   cases V with
   |nil=>cases h1
   | cons v V=>
    simp only [X9] at h1 h2 h4 h5;have hlen:=congrArg List.length h10;simp only [Za,X9] at hlen
    refine aC (fun h=> ?_) fun h=>by omega
    have ea:l=P++u::((U++M)++v::(V++S)):=by rw [h10];simp
    have eb:l=(P++u::(U++M))++v::(V++S):=by rw [h10];simp
    have ec:l.set ((x+t).toNat) v=P++v::((U++M)++v::(V++S)):=by
     rw [h3,ea,Xy,zq]
    refine av (by constructor<;>omega) (av (by constructor<;>omega) (av (by constructor<;>omega) (fR eb (by simp only [Za,X9];omega) (av (by constructor<;>omega) (fR ea h3 (fR ea h3 ?_))))));refine fR (l:=l.set ((x+t).toNat) v) (P:=P++v::(U++M)) (x:=v) (S:=V++S) (by rw [ec];simp) (by simp only [Za,X9];omega) (av (by constructor<;>omega) ?_);have e:=Vp (i:=x+t) (j:=y+t) ea h3 (by simp only [Za];omega);have hi:=DP N x y k m U V (P++ [v]) (M++ [u]) S (P++v::((U++M)++u::(V++S))) (t+1) I I (by simp only [Za,X9,Yc];omega) (by simp only [Za,X9,Yc];omega) I I I h8 (by simp only [Za,X9];omega) (by simp)
    have:Sat (cA N x y k m ((l.set ((x+t).toNat) v).set ((y+t).toNat) u) (t+1)) fun r=>r=P++((v::V)++(M++((u::U)++S))):=by
     rw [e]
     exact hi.mono fun r hr=>by rw [hr];simp
    exact this
theorem KC (N:Nat)(hN:20000<=N){U V M:List WX}{x y k:Int}(h1:V.length=U.length)(hx:x=P.length)(hy:y=(P.length:Int)+U.length+M.length)(hk:k=U.length)(hl:l.length<=6000)(e:l=P++(U++(M++(V++S)))):Sat (cH N l x y k) fun r=>r=P++(V++(M++(U++S))):=by
 have hlen:=congrArg List.length e;simp only [Za] at hlen;exact DP N x y k N U V P M S l 0 h1 I I I I I I I I e
theorem Gn {j:Nat}(h:j<=l.length): ∃A B,l=A++B/\A.length=j:=⟨l.take j,l.drop j,(YB j l).symm,by rw [Zb];omega⟩
theorem AG (N:Nat)(hN:20000<=N)(q:Int): ∀(m:Nat) (U V P S l:List WX) (i j:Int),i=U.length->j=V.length->i+j<m->0<i->0<j->q=(P.length:Int)+U.length->l.length<=6000->l=P++(U++(V++S))->Sat (cT N q m l i j) fun r=>r=P++(V++(U++S))
 |0,U,V,P,S,l,i,j,h1,h2,h3,h4,h5,_,_,_=>by omega
 | m+1,U,V,P,S,l,i,j,h1,h2,h3,h4,h5,h6,h7,h8=>by
  have hlen:=congrArg List.length h8;simp only [Za] at hlen;rw [cT.eq_2]
  refine Eu (fun e=>aC (fun h=> ?_) fun h=> ?_) fun e=> ?_
  ·obtain ⟨U1,U2,rfl,hU⟩:=Gn (l:=U) (j:=j.toNat) I;simp only [Za] at h1 h6 hlen;refine av (by constructor<;>omega) ((KC N hN (U:=U1) (V:=V) (P:=P) (M:=U2) (S:=S) I I I I h7 (by rw [h8];simp)).bind fun r hr=>av (by constructor<;>omega) ?_)
   exact (AG N hN q m U2 U1 (P++V) S r (i - j) j I I I I h5 (by simp only [Za];omega) (by rw [hr];simp only [Za];omega) (by rw [hr];simp)).mono fun z hz=>by rw [hz];simp
  ·have:=Y7 e;obtain ⟨V1,V2,rfl,hV⟩:=Gn (l:=V) (j:=(j - i).toNat) I;simp only [Za] at h2 hlen;refine av (by constructor<;>omega) (av (by constructor<;>omega) (av (by constructor<;>omega) ((KC N hN (U:=U) (V:=V2) (P:=P) (M:=V1) (S:=S) I I I I h7 (by rw [h8];simp)).bind fun r hr=>av (by constructor<;>omega) ?_)))
   exact (AG N hN q m V2 V1 P (U++S) r i (j - i) I I I h4 I I (by rw [hr];simp only [Za];omega) (by rw [hr])).mono fun z hz=>by rw [hz];simp
  have:=Y8 e;unfold gL;exact av (by constructor<;>omega) ((KC N hN (U:=U) (V:=V) (P:=P) (M:=[]) (S:=S) I I (by simp only [Yc];omega) I h7 h8).bind fun r hr=>ad (by rw [hr];simp))
theorem Un (N:Nat)(hN:20000<=N){U V:List WX}{q b:Int}(ha:a=P.length)(hq:q=(P.length:Int)+U.length)(hb:b=(P.length:Int)+U.length+V.length)(hU:0<U.length)(hV:0<V.length)(hl:l.length<=6000)(e:l=P++(U++(V++S))):Sat (eD N l a q b) fun r=>r=P++(V++(U++S)):=by
 have hlen:=congrArg List.length e;simp only [Za] at hlen;unfold eD;exact av (by constructor<;>omega) (av (by constructor<;>omega) (AG N hN q N U V P S l _ _ I I I I I hq hl e))
theorem Jq (N:Nat)(kb:List WX->Int->Option W7)(a b p5:Int)(h5:0<=p5/\p5<10000)(R:List WX->Prop)(P S:List WX)(hP:a=P.length)(x:WX)(hx:RKey x):
  ∀(m:Nat) (A B l:List WX) (j:Int),j=(P.length:Int)+A.length->A.length<m->l.length<=6000->l=P++(A++x::(B++S))->(∀y∈A,RKey y)->
  (∀A1 A2:List WX,A=A1++A2->(∀y∈A2,rk x<rk y)->(∀y,A1.getLast? =some y->rk y<=rk x)->Sat (kb (P++(A1++x::(A2++(B++S)))) (p5+1)) R)->Sat (bV N kb a b p5 m l j) R
 |0,A,B,l,j,_,h,_,_,_,_=>by omega
 | m +1,A,B,l,j,hj,h,hl,e,hA,hk=>by
  have hlen:=congrArg List.length e;simp only [Za,X9] at hlen;rw [bV.eq_2]
  have stop:(∀y,A.getLast? =some y->rk y<=rk x)->Sat (cL N kb a b p5 l) R:=fun hy=>by
   unfold cL;have:=hk A [] (by simp) (fun y hy=>by cases hy) hy;exact av (by constructor<;>omega) (by rw [e];exact this)
  rcases List.eq_nil_or_concat A with rfl|⟨A',y,rfl⟩
  ·rw [Xa (show¬a<j by simp only [Yc] at hj;omega),cf,bs,cf]
   exact stop fun y hy=>by cases hy
  rw [List.concat_eq_append] at*;simp only [Za,X9,Yc] at hj h hlen
  have ex:l=(P++(A'++ [y]))++x::(B++S):=by rw [e];simp
  have ey:l=(P++A')++y::([]++x::(B++S)):=by rw [e];simp
  have lx:j=(((P++(A'++ [y])).length:Nat):Int):=by simp only [Za,X9,Yc];omega
  have ly:j - 1=(((P++A').length:Nat):Int):=by simp only [Za];omega
  rw [W9 (show a<j by omega),ct]
  refine Sat.bind (P:=fun c=>c=true↔rk x<rk y) (fR ex lx (av (by constructor<;>omega) (fR ey ly ((ED N hx (hA y (by simp))).bind fun z hz=>ad (by rw [decide_eq_true_iff];exact hz))))) fun c hc=>dB (fun h1=> ?_) fun h1=> ?_
  ·have hxy:=hc.1 h1;have es:=Ul (i:=j - 1) (j:=j) ey ly (by rw [<-ly];simp only [Yc];omega)
   have e2:l.set j.toNat y=(P++A')++y::(y::(B++S)):=by
    rw [ex,lx,Xy,zq];simp
   refine av (by constructor<;>omega) (av (by constructor<;>omega) (fR ey ly (fR ex lx (fR ex lx (fR (l:=l.set j.toNat y) e2 ly (av (by constructor<;>omega) ?_))))))
   have hi:=Jq N kb a b p5 h5 R P S hP x hx m A' (y::B) ((P++A')++x::([]++y::(B++S))) (j - 1) I I (by simp only [Za,X9,Yc];omega) (by simp) (fun z hz=>hA z (by simp [hz])) fun A1 A2 h1 h2 h3=>by
    have:=hk A1 (A2++ [y]) (by rw [h1];simp) (fun z hz=>by
     rcases Yi.1 hz with hz|hz
     ·exact h2 z hz
     ·rw [Ys.1 hz];exact hxy) h3
    simpa using this
   have:Sat (bV N kb a b p5 m ((l.set j.toNat y).set ((j - 1).toNat) x) (j - 1)) R:=by
    rw [es];exact hi
   exact this
  refine stop fun z hz=> ?_
  rw [List.getLast?_append] at hz
  have:z=y:=by simpa using hz.symm
  subst this
  have: ¬rk x<rk z:=fun h=>by rw [hc.2 h] at h1;cases h1
  omega
theorem SoK.ins {x:WX}(h:SoK (A1++A2))(h1:∀y,A1.getLast? =some y->rk y<=rk x)(h2:∀y∈A2,rk x<rk y):SoK (A1++x::A2):=by
 obtain ⟨s1,s2,s3⟩:=h.parts
 refine s1.app (Yv.2 ⟨fun y hy=>by have:=h2 y hy;omega,s2⟩) fun y hy z hz=> ?_
 rcases Yj.1 hz with rfl|hz
 ·rcases List.eq_nil_or_concat A1 with rfl|⟨A',w,rfl⟩
  ·cases hy
  rw [List.concat_eq_append] at*;have hw:=h1 w (by simp);rcases Yi.1 hy with hy|hy
  ·have:=s1.parts.2.2 y hy w (by simp);omega
  rw [Ys.1 hy];exact hw
 exact s3 y hy z hz
theorem EvK.ins {x:WX}(h2:∀y∈A2,rk x<rk y):EvK (A1++x::A2) ((A1++A2)++ [x]):=by
 rw [Xc]
 exact (EvK.refl A1).app (EvK.swap (U:=[x]) (V:=A2) fun y hy z hz=>by
  rw [Ys.1 hy];have:=h2 z hz
  omega)
theorem Hc (N:Nat)(hN:20000<=N)(a b:Int)(hb:b<=6000)(P S:List WX)(hP:a=P.length): ∀(m:Nat) (A X l:List WX) (i:Int),i=(P.length:Int)+A.length->b=i+X.length->X.length<m->l.length<=6000->l=P++(A++(X++S))->(∀y∈A++X,RKey y)->SoK A->Sat (bw N a b m l i) fun r=> ∃C,r=P++(C++S)/\SoK C/\EvK C (A++X)
 |0,A,X,l,i,_,_,h,_,_,_,_=>by omega
 | m+1,A,X,l,i,hi,hbi,h,hl,e,hR,hs=>by
  have hlen:=congrArg List.length e;simp only [Za] at hlen;rw [bw.eq_2]
  cases X with
  |nil=>exact aC (fun h=>by simp only [Yc] at hbi;omega) fun _=>ad ⟨A,by rw [e];simp,hs,by rw [XB];exact EvK.refl A⟩
  |cons x X=>
   simp only [X9] at hbi h hlen
   refine aC (fun _=> ?_) fun h=>by omega
   refine Jq N _ a b i I _ P (X++S) hP x (hR x (by simp)) N A [] l i hi I hl (by rw [e];simp) (fun y hy=>hR y (by simp [hy])) fun A1 A2 h1 h2 h3=> ?_
   subst h1;simp only [Za] at hi hlen
   refine (Hc N hN a b hb P S hP m (A1++x::A2) X _ (i+1) (by simp only [Za,X9];omega) I I (by simp only [Za,X9,Yc];omega) (by simp) (fun y hy=>hR y (by simp at hy⊢;rcases hy with h|h|h|h<;>simp [h])) (SoK.ins hs h3 h2)).mono fun r hr=> ?_
   obtain ⟨C,c1,c2,c3⟩:=hr;refine ⟨C,c1,c2,c3.trans ?_⟩;have:=(EvK.ins (A1:=A1) h2).app (EvK.refl X);simpa using this
theorem Sx (N:Nat)(hN:20000<=N){X:List WX}{b:Int}(ha:a=P.length)(hb:b=a+X.length)(hl:l.length<=6000)(e:l=P++(X++S))(hR:∀y∈X,RKey y):Sat (bC N l a b) fun r=> ∃C,r=P++(C++S)/\SoK C/\EvK C X:=by
 have hlen:=congrArg List.length e;simp only [Za] at hlen;unfold bC;refine av (by constructor<;>omega) ?_
 cases X with
 |nil=>
  obtain ⟨n,rfl⟩: ∃n,N=n+1:=⟨N - 1,by omega⟩;rw [bw.eq_2];simp only [Yc] at hb
  exact aC (fun h=>by omega) fun _=>ad ⟨[],e,SoK.nil,EvK.refl _⟩
 |cons x X=>
  simp only [X9] at hb hlen;exact Hc N hN a b I P S ha N [x] X l (a+1) (by simp only [X9,Yc];omega) I I hl e hR (SoK.one x)
def Vg (kb:List WX->Int->Int->Int->Option W7)(n:Int):Prop:= ∀(P A B S l:List WX) (x y z:Int),x=P.length->y=x+A.length->z=y+B.length->0<A.length->0<B.length->z - x<n->l.length<=6000->l=P++(A++(B++S))->(∀k∈A++B,RKey k)->SoK A->SoK B->Sat (kb l x y z) fun r=> ∃C,r=P++(C++S)/\SoK C/\EvK C (A++B)
theorem Su (N:Nat)(kb:List WX->Int->Int->Int->Option W7)(a q b p7:Int)(x:WX): ∀(m:Nat) (hO P T l:List WX) (k:Int),k=P.length->p7=k+1+hO.length->hO.length<m->l.length<=6000->l=P++x::(hO++T)->Sat (cx N kb a q b p7 m l k) fun r=>r=P++(hO++x::T)
 |0,hO,P,T,l,k,_,_,h,_,_=>by omega
 | m+1,hO,P,T,l,k,hk,hp,h,hl,e=>by
  have hlen:=congrArg List.length e;simp only [Za,X9] at hlen;rw [cx.eq_2];refine av (by constructor<;>omega) ?_
  cases hO with
  |nil=>exact aC (fun h=>by simp only [Yc] at hp;omega) fun _=>ad e
  | cons y hO=>
   simp only [X9] at hp h hlen
   have e':l=P++x::([]++y::(hO++T)):=by rw [e];simp
   have ey:l=(P++ [x])++y::(hO++T):=by rw [e];simp
   have ly:k+1=(((P++ [x]).length:Nat):Int):=by simp only [Za,X9,Yc];omega
   have es:=Vp (i:=k) (j:=k+1) e' hk (by simp only [Yc];omega)
   have e2:l.set k.toNat y=(P++ [y])++y::(hO++T):=by
    rw [e',hk,Xy,zq];simp
   refine aC (fun _=> ?_) fun h=>by omega
   refine av (by constructor<;>omega) (av (by constructor<;>omega) (fR ey ly (fR e' hk (fR e' hk (fR (l:=l.set k.toNat y) e2 (by simp only [Za,X9,Yc];omega) (av (by constructor<;>omega) ?_))))));have hi:=Su N kb a q b p7 x m hO (P++ [y]) T (P++y::([]++x::(hO++T))) (k+1) (by simp only [Za,X9,Yc];omega) I I (by simp only [Za,X9,Yc];omega) (by simp)
   have:Sat (cx N kb a q b p7 m ((l.set k.toNat y).set ((k+1).toNat) x) (k+1)) fun r=>r=P++(y::hO++x::T):=by
    rw [es]
    exact hi.mono fun r hr=>by rw [hr];simp
   exact this
theorem St (N:Nat)(kb:List WX->Int->Int->Int->Option W7)(a q b p:Int)(x:WX): ∀(m:Nat) (hO P T l:List WX) (k:Int),p=P.length->k=p+hO.length->hO.length<m->l.length<=6000->l=P++(hO++x::T)->Sat (cr N kb a q b p m l k) fun r=>r=P++x::(hO++T)
 |0,hO,P,T,l,k,_,_,h,_,_=>by omega
 | m+1,hO,P,T,l,k,hp,hk,h,hl,e=>by
  have hlen:=congrArg List.length e;simp only [Za,X9] at hlen;rw [cr.eq_2];rcases List.eq_nil_or_concat hO with rfl|⟨Y',y,rfl⟩
  ·exact aC (fun h=>by simp only [Yc] at hk;omega) fun _=>ad e
  rw [List.concat_eq_append] at*;simp only [Za,X9,Yc] at hk h hlen
  have ey:l=(P++Y')++y::([]++x::T):=by rw [e];simp
  have ex:l=(P++(Y'++ [y]))++x::T:=by rw [e];simp
  have ly:k - 1=(((P++Y').length:Nat):Int):=by simp only [Za];omega
  have lx:k=(((P++(Y'++ [y])).length:Nat):Int):=by simp only [Za,X9,Yc];omega
  have es:=Ul (i:=k - 1) (j:=k) ey ly (by rw [<-ly];simp only [Yc];omega)
  have e2:l.set k.toNat y=(P++Y')++y::(y::T):=by
   rw [ex,lx,Xy,zq];simp
  refine aC (fun _=> ?_) fun h=>by omega
  refine av (by constructor<;>omega) (av (by constructor<;>omega) (fR ey ly (fR ex lx (fR ex lx (fR (l:=l.set k.toNat y) e2 ly (av (by constructor<;>omega) ?_))))));have hi:=St N kb a q b p x m Y' P (y::T) ((P++Y')++x::([]++y::T)) (k - 1) hp I I (by simp only [Za,X9,Yc];omega) (by simp)
  have:Sat (cr N kb a q b p m ((l.set k.toNat y).set ((k - 1).toNat) x) (k - 1)) fun r=>r=P++x::((Y'++ [y])++T):=by
   rw [es]
   exact hi.mono fun r hr=>by rw [hr];simp
  exact this
theorem EF {M:List WX}{n:Nat}(h:n<M.length): ∃M1 y M2,M=M1++y::M2/\M1.length=n:=by
 refine ⟨M.take n,M[n],M.drop (n+1),?_,by rw [Zb];omega⟩;rw [<-XF h,YB]
section
variable (N:Nat)(hN:20000<=N)(kb:List WX->Int->Int->Int->Option W7)(a q b:Int){A B:List WX}(ha:a=P.length)(hq:q=a+A.length)(hb:b=q+B.length)(hA:0<A.length)(hB:0<B.length)(hl:l.length<=6000)(e:l=P++(A++(B++S)))(hR:∀k∈A++B,RKey k)(sA:SoK A)(sB:SoK B)
include hN ha hq hb hA hB hl e hR sA sB
theorem SU (hA1:A.length=1): ∀(m:Nat) (B1 Bm B2:List WX) (i j:Int),B=B1++(Bm++B2)->i=q+B1.length->j=i+Bm.length->Bm.length<m->(∀x∈A, ∀y∈B1,rk y<rk x)->(∀x∈A, ∀y∈B2,rk x<=rk y)->Sat (bY N kb a q b l m i j) fun r=> ∃C,r=P++(C++S)/\SoK C/\EvK C (A++B)
 |0,B1,Bm,B2,i,j,_,_,_,h,_,_=>by have _:=hA;have _:=sA;omega
 | m +1,B1,Bm,B2,i,j,eB,hi,hj,h,h1,h2=>by
  obtain ⟨x,eA⟩:=List.length_eq_one_iff.1 hA1
  have hxA:x∈A:=by rw [eA];simp
  have e:l=P++([x]++(B++S)):=by rw [e,eA]
  have hlen:=congrArg List.length e;have hlB:=congrArg List.length eB;simp only [Za,X9,Yc] at hlen hlB;rw [bY.eq_2]
  cases hM:Bm with
  | nil=>
   subst hM
   refine aC (fun h=>by simp only [Yc] at hj;omega) fun _=> ?_
   unfold fQ;rw [Zf] at eB
   refine (Su N kb a q b i x N B1 P (B2++S) l a ha I I hl (by rw [e,eB];simp)).mono fun r hr=> ?_
   rw [eB] at sB;obtain ⟨t1,t2,t3⟩:=sB.parts;refine ⟨B1++x::B2,by rw [hr];simp,t1.app (Yv.2 ⟨h2 x hxA,t2⟩) fun y hy z hz=> ?_,?_⟩
   ·rcases Yj.1 hz with rfl|hz
    ·have:=h1 z hxA y hy;omega
    exact t3 y hy z hz
   have:=(EvK.swap (U:=B1) (V:=[x]) fun y hy z hz=>by
     rw [Ys.1 hz];have:=h1 x hxA y hy
     omega).app (EvK.refl B2)
   rw [eA,eB];simpa using this
  | cons y0 Bm0=>
   have hpos:0<Bm.length:=by rw [hM];simp
   refine aC (fun _=> ?_) fun h=>by omega
   rw [pB I I I];obtain ⟨M1,y,M2,eM,lM⟩:=EF (M:=Bm) (n:=((i+j) / 2 - i).toNat) I
   have eh:l=(P++(x::(B1++M1)))++y::(M2++(B2++S)):=by rw [e,eB,eM];simp
   have lh:(i+j) / 2=(((P++(x::(B1++M1))).length:Nat):Int):=by simp only [Za,X9];omega
   have ex:l=P++x::(B++S):=by rw [e];simp
   have hlM:=congrArg List.length eM;simp only [Za,X9] at hlM
   have sB':SoK ((B1++M1)++y::(M2++B2)):=by
    have:B=(B1++M1)++y::(M2++B2):=by rw [eB,eM];simp
    rw [<-this];exact sB
   obtain ⟨-,t2,t3⟩:=sB'.parts;refine av (by constructor<;>omega) (fR eh lh (fR ex ha ((ED N (hR y (by rw [eB,eM];simp)) (hR x (Xd _ hxA))).bind fun z hz=>dB (fun c=>av (by constructor<;>omega) ?_) fun c=> ?_)))
   ·have hyx:=hz.1 (Y8 c);refine SU hA1 m (B1++(M1++ [y])) M2 B2 _ j (by rw [eB,eM];simp) (by simp only [Za,X9,Yc];omega) I I (fun x' hx' y' hy'=> ?_) h2;rw [eA] at hx';rw [Ys.1 hx']
    have:y'∈B1++M1\/y'=y:=by simpa [or_assoc] using hy'
    rcases this with h|rfl
    ·have:=t3 y' h y (by simp);omega
    exact hyx
   have hyx: ¬rk y<rk x:=fun h=>Y7 c (hz.2 h)
   refine SU hA1 m B1 M1 (y::(M2++B2)) i _ (by rw [eB,eM];simp) hi I I h1 fun x' hx' y' hy'=> ?_
   rw [eA] at hx';rw [Ys.1 hx'];rcases Yj.1 hy' with rfl|h
   ·omega
   have:=(Yv.1 t2).1 y' h;omega
theorem OP (hB1:B.length=1): ∀(m:Nat) (A1 Am A2:List WX) (i j:Int),A=A1++(Am++A2)->i=a+A1.length->j=i+Am.length->Am.length<m->(∀y∈B, ∀x∈A1,rk x<=rk y)->(∀y∈B, ∀x∈A2,rk y<rk x)->Sat (cu N kb a q b l m i j) fun r=> ∃C,r=P++(C++S)/\SoK C/\EvK C (A++B)
 |0,A1,Am,A2,i,j,_,_,_,h,_,_=>by have _:=hB;have _:=sB;omega
 | m+1,A1,Am,A2,i,j,eA,hi,hj,h,h1,h2=>by
  obtain ⟨x,eB⟩:=List.length_eq_one_iff.1 hB1
  have hxB:x∈B:=by rw [eB];simp
  have e:l=P++(A++([x]++S)):=by rw [e,eB]
  have hlen:=congrArg List.length e;have hlA:=congrArg List.length eA;simp only [Za,X9,Yc] at hlen hlA;rw [cu.eq_2]
  cases hM:Am with
  |nil=>
   subst hM
   refine aC (fun h=>by simp only [Yc] at hj;omega) fun _=> ?_
   unfold fg;rw [Zf] at eA;rw [eA] at sA⊢;rw [eB]
   refine (St N kb a q b i x N A2 (P++A1) S l q (by simp only [Za];omega) I I hl (by rw [e,eA];simp)).mono fun r hr=> ?_
   refine ⟨A1++x::A2,by rw [hr];simp,sA.ins (fun y hy=>h1 x hxB y (List.mem_of_getLast? hy)) (h2 x hxB),EvK.ins (h2 x hxB)⟩
  | cons y0 Bm0=>
   have hpos:0<Am.length:=by rw [hM];simp
   refine aC (fun _=> ?_) fun h=>by omega
   rw [pB I I I];obtain ⟨M1,y,M2,eM,lM⟩:=EF (M:=Am) (n:=((i+j) / 2 - i).toNat) I
   have eh:l=(P++(A1++M1))++y::(M2++(A2++x::S)):=by rw [e,eA,eM];simp
   have lh:(i+j) / 2=(((P++(A1++M1)).length:Nat):Int):=by simp only [Za];omega
   have ex:l=(P++A)++x::S:=by rw [e];simp
   have hlM:=congrArg List.length eM;simp only [Za,X9] at hlM
   have sA':SoK ((A1++M1)++y::(M2++A2)):=by
    have:A=(A1++M1)++y::(M2++A2):=by rw [eA,eM];simp
    rw [<-this];exact sA
   obtain ⟨-,t2,t3⟩:=sA'.parts;refine av (by constructor<;>omega) (fR ex (by simp only [Za];omega) (fR eh lh ((ED N (hR x (Xe _ hxB)) (hR y (by rw [eA,eM];simp))).bind fun z hz=>Eu (fun c=>av (by constructor<;>omega) ?_) fun c=> ?_)))
   ·have hyx: ¬rk x<rk y:=fun h=>Y7 c (hz.2 h)
    refine OP hB1 m (A1++(M1++ [y])) M2 A2 _ j (by rw [eA,eM];simp) (by simp only [Za,X9,Yc];omega) I I (fun x' hx' y' hy'=> ?_) h2;rw [eB] at hx';rw [Ys.1 hx']
    have:y'∈A1++M1\/y'=y:=by simpa [or_assoc] using hy'
    rcases this with h|rfl
    ·have:=t3 y' h y (by simp);omega
    omega
   have hyx:=hz.1 (Y8 c)
   refine OP hB1 m A1 M1 (y::(M2++A2)) i _ (by rw [eA,eM];simp) hi I I h1 fun x' hx' y' hy'=> ?_
   rw [eB] at hx';rw [Ys.1 hx'];rcases Yj.1 hy' with rfl|h
   ·exact hyx
   have:=(Yv.1 t2).1 y' h;omega
end
end
section
open Go.RowKit
theorem Mn (h:SoK l)(e:l=A1++A2){i:Nat}(hx:l[i]? =some x0)(hi:A1.length=i+1): ∀x∈A1,rk x<=rk x0:=by
 subst e;obtain ⟨s1, -, -⟩:=h.parts;rw [XS I] at hx;obtain ⟨h1,h2⟩:=XZ.1 hx;intro x hx;obtain ⟨j,hj,rfl⟩:=X8 hx;rw [<-h2];by_cases hji:j=i
 ·subst hji;exact Xu _
 exact Yw.1 s1 j i hj h1 I
theorem JV (h:SoK l)(e:l=A1++A2){i:Nat}(hx:l[i]? =some x0)(hi:A1.length=i): ∀x∈A2,rk x0<=rk x:=by
 subst e;obtain ⟨-,s1, -⟩:=h.parts;rw [XT I,hi,YR] at hx;obtain ⟨h1,h2⟩:=XZ.1 hx;intro x hx;obtain ⟨j,hj,rfl⟩:=X8 hx;rw [<-h2];by_cases hji:j=0
 ·subst hji;exact Xu _
 exact Yw.1 s1 0 j h1 hj I
theorem FU (h:l.length=0):l=[]:=List.length_eq_zero_iff.1 h
section
variable (N:Nat)(hN:20000<=N)(kb:List WX->Int->Int->Int->Option W7)(a q b p:Int){B1 B2:List WX}(ha:a=P.length)(hq:q=a+A1.length+A2.length)(hp:p=a+A1.length)(h1:a<q)(h2:q<b)(hB:(B1.length:Int)=(a+b) / 2 - p)(hb:b=q+B1.length+B2.length)(hk:Vg kb (b - a))(hR:∀k∈(A1++A2)++(B1++B2),RKey k)(sA:SoK (A1++A2))(sB:SoK (B1++B2))(hsz:(P.length:Int)+A1.length+A2.length+B1.length+B2.length+S.length<=6000)
include hN ha hq hp h1 h2 hB hb hk hR sA sB hsz
theorem Sv {C:List WX}(hC:C.length=A1.length+B1.length)(e:l=P++(C++(A2++(B2++S)))):Sat (cy N kb b a q p l) fun r=> ∃C2,r=P++(C++(C2++S))/\SoK C2/\EvK C2 (A2++B2):=by
 have _:=hN
 have hlen:=congrArg List.length e;simp only [Za] at hlen;unfold cy;rw [pB I I I]
 refine cB (P:=fun c=>c=true↔(a+b) / 2<(a+b) / 2+q - p/\(a+b) / 2+q - p<b) (fun e=>ad ⟨fun e2=>⟨Y8 e,Y8 e2⟩,fun h=>W9 h.2⟩) (fun e=>ad ⟨fun h=>(by cases h),fun h=>absurd h.1 (Y7 e)⟩) fun c hc=>dB (fun e2=> ?_) fun e2=> ?_
 ·obtain ⟨h4,h5⟩:=hc.1 e2
  refine (hk (P++C) A2 B2 S l _ _ _ (by simp only [Za];omega) I I I I I I (by rw [e];simp) (fun k hk=>hR k (by simp at hk⊢;rcases hk with h|h<;>simp [h])) sA.parts.2.1 sB.parts.2.1).bind fun r hr=>ad ?_
  obtain ⟨C2,c1,c2,c3⟩:=hr;exact ⟨C2,by rw [c1];simp,c2,c3⟩
 have hn: ¬((a+b) / 2<(a+b) / 2+q - p/\(a+b) / 2+q - p<b):=fun h=>by rw [hc.2 h] at e2;cases e2
 have:A2=[]\/B2=[]:=by
  by_cases hz:A2.length=0
  ·exact .inl (FU hz)
  exact .inr (FU I)
 refine ad ⟨A2++B2,by rw [e];simp,?_,EvK.refl _⟩;rcases this with rfl|rfl
 ·exact sB.parts.2.1
 rw [XB];exact sA.parts.2.1
theorem Sw (e:l=P++(A1++(B1++(A2++(B2++S))))):Sat (cz N kb a b p q l) fun r=> ∃C1 C2,r=P++(C1++(C2++S))/\SoK C1/\EvK C1 (A1++B1)/\SoK C2/\EvK C2 (A2++B2):=by
 have hlen:=congrArg List.length e;simp only [Za] at hlen;unfold cz;rw [pB I I I]
 refine cB (P:=fun c=>c=true↔a<p/\p<(a+b) / 2) (fun e=>ad ⟨fun e2=>⟨Y8 e,Y8 e2⟩,fun h=>W9 h.2⟩) (fun e=>ad ⟨fun h=>(by cases h),fun h=>absurd h.1 (Y7 e)⟩) fun c hc=>dB (fun e2=> ?_) fun e2=> ?_
 ·obtain ⟨h4,h5⟩:=hc.1 e2
  refine (hk P A1 B1 (A2++(B2++S)) l _ _ _ ha hp I I I I I (by rw [e]) (fun k hk=>hR k (by simp at hk⊢;rcases hk with h|h<;>simp [h])) sA.parts.1 sB.parts.1).bind fun r hr=> ?_
  obtain ⟨C1,c1,c2,c3⟩:=hr
  refine (Sv N hN kb a q b p ha hq hp h1 h2 hB hb hk hR sA sB hsz (C:=C1) (by rw [c3.len,Za]) c1).mono fun z hz=> ?_
  obtain ⟨C2,d1,d2,d3⟩:=hz;exact ⟨C1,C2,d1,c2,c3,d2,d3⟩
 have hn: ¬(a<p/\p<(a+b) / 2):=fun h=>by rw [hc.2 h] at e2;cases e2
 have:A1=[]\/B1=[]:=by
  by_cases hz:A1.length=0
  ·exact .inl (FU hz)
  exact .inr (FU I)
 refine (Sv N hN kb a q b p ha hq hp h1 h2 hB hb hk hR sA sB hsz (C:=A1++B1) Za (by rw [e];simp)).mono fun z hz=> ?_
 obtain ⟨C2,d1,d2,d3⟩:=hz;refine ⟨A1++B1,C2,d1,?_,EvK.refl _,d2,d3⟩;rcases this with h|h
 ·rw [h];exact sB.parts.1
 rw [h,XB];exact sA.parts.1
theorem Uo (e:l=P++(A1++(A2++(B1++(B2++S)))))(f1:∀x∈A1, ∀y∈B2,rk x<=rk y)(f2:∀y∈B1, ∀x∈A2,rk y<rk x):Sat (dm N kb a q b l p) fun r=> ∃C,r=P++(C++S)/\SoK C/\EvK C ((A1++A2)++(B1++B2)):=by
 have hlen:=congrArg List.length e;simp only [Za] at hlen
 have fin: ∀r,(∃C1 C2,r=P++(C1++(C2++S))/\SoK C1/\EvK C1 (A1++B1)/\SoK C2/\EvK C2 (A2++B2))-> ∃C,r=P++(C++S)/\SoK C/\EvK C ((A1++A2)++(B1++B2)):=fun r hr=>by
  obtain ⟨C1,C2,c1,c2,c3,c4,c5⟩:=hr;refine ⟨C1++C2,by rw [c1];simp,c2.app c4 fun x hx y hy=> ?_,(c3.app c5).trans ?_⟩
  ·rcases Yi.1 (c3.mem.1 hx) with hx|hx<;>rcases Yi.1 (c5.mem.1 hy) with hy|hy
   ·exact sA.parts.2.2 x hx y hy
   ·exact f1 x hx y hy
   ·have:=f2 x hx y hy;omega
   exact sB.parts.2.2 x hx y hy
  have:=((EvK.refl A1).app (EvK.swap (U:=B1) (V:=A2) fun y hy x hx=>by have:=f2 y hy x hx;omega)).app (EvK.refl B2);simpa using this
 unfold dm;rw [pB I I I];refine av (by constructor<;>omega) (cB (P:=fun c=>c=true↔p<q/\q<(a+b) / 2+q - p) (fun e=>ad ⟨fun e2=>⟨Y8 e,Y8 e2⟩,fun h=>W9 h.2⟩) (fun e=>ad ⟨fun h=>(by cases h),fun h=>absurd h.1 (Y7 e)⟩) fun c hc=>dB (fun e2=> ?_) fun e2=> ?_)
 ·obtain ⟨h4,h5⟩:=hc.1 e2
  refine (Un N hN (P:=P++A1) (U:=A2) (V:=B1) (S:=B2++S) (by simp only [Za];omega) (by simp only [Za];omega) (by simp only [Za];omega) I I I (by rw [e];simp)).bind fun r hr=> ?_
  exact (Sw N hN kb a q b p ha hq hp h1 h2 hB hb hk hR sA sB hsz (by rw [hr];simp)).mono fin
 have hn: ¬(p<q/\q<(a+b) / 2+q - p):=fun h=>by rw [hc.2 h] at e2;cases e2
 have:A2=[]\/B1=[]:=by
  by_cases hz:A2.length=0
  ·exact .inl (FU hz)
  exact .inr (FU I)
 refine (Sw N hN kb a q b p ha hq hp h1 h2 hB hb hk hR sA sB hsz ?_).mono fin;rw [e];rcases this with h|h
 ·rw [h];simp
 rw [h];simp
end
section
variable (N:Nat)(hN:20000<=N)(kb:List WX->Int->Int->Int->Option W7)(a q b:Int){A B:List WX}(ha:a=P.length)(hq:q=a+A.length)(hb:b=q+B.length)(hA:0<A.length)(hB:0<B.length)(hk:Vg kb (b - a))(hl:l.length<=6000)(e:l=P++(A++(B++S)))(hR:∀k∈A++B,RKey k)(sA:SoK A)(sB:SoK B)
include hN ha hq hb hA hB hk hl e hR sA sB
theorem LV: ∀(m:Nat) (i j:Int),j - i<m->a<=i->(a+b) / 2+q - b<=i->i<=j->j<=q->j<=(a+b) / 2->
  (i=a\/i=(a+b) / 2+q - b\/ ∃x y,A[(i - 1 - a).toNat]? =some x/\B[((a+b) / 2 - i).toNat]? =some y/\rk x<=rk y)->
  (j=q\/j=(a+b) / 2\/ ∃x y,A[(j - a).toNat]? =some x/\B[((a+b) / 2 - j - 1).toNat]? =some y/\rk y<rk x)->
  Sat (cq N kb a q b l m i j) fun r=> ∃C,r=P++(C++S)/\SoK C/\EvK C (A++B)
 |0,i,j,h,_,_,_,_,_,_,_=>by omega
 | m+1,i,j,h,h1,h2,h3,h4,h5,hL,hH=>by
  have hlen:=congrArg List.length e;simp only [Za] at hlen;rw [cq.eq_2]
  refine aC (fun h8=> ?_) fun h8=> ?_
  ·rw [pB (a:=a) (b:=b) I I I,pB (a:=i) (b:=j) I I I];obtain ⟨X1,x,X2,eX,lX⟩:=EF (M:=A) (n:=((i+j) / 2 - a).toNat) I;obtain ⟨Y1,y,Y2,eY,lY⟩:=EF (M:=B) (n:=((a+b) / 2 - (i+j) / 2 - 1).toNat) I
   have gx:A[((i+j) / 2 - a).toNat]? =some x:=by rw [<-lX];exact Gw eX
   have gy:B[((a+b) / 2 - (i+j) / 2 - 1).toNat]? =some y:=by rw [<-lY];exact Gw eY
   have ex:l=(P++X1)++x::(X2++(B++S)):=by rw [e,eX];simp
   have ey:l=(P++(A++Y1))++y::(Y2++S):=by rw [e,eY];simp
   refine av (by constructor<;>omega) (av (by constructor<;>omega) (fR ey (by simp only [Za];omega) (fR ex (by simp only [Za];omega) ((ED N (hR y (by rw [eY];simp)) (hR x (by rw [eX];simp))).bind fun z hz=>Eu (fun c=>av (by constructor<;>omega) ?_) fun c=> ?_))))
   ·have hyx: ¬rk y<rk x:=fun h=>Y7 c (hz.2 h)
    refine LV m _ _ I I I I h4 h5 (.inr (.inr ⟨x,y,?_,?_,by omega⟩)) hH
    ·rw [show (i+j) / 2+1 - 1 - a=(i+j) / 2 - a by omega];exact gx
    rw [show (a+b) / 2 - ((i+j) / 2+1)=(a+b) / 2 - (i+j) / 2 - 1 by omega];exact gy
   have hyx:=hz.1 (Y8 c);exact LV m _ _ I h1 h2 I I I hL (.inr (.inr ⟨x,y,gx,gy,hyx⟩))
  have hij:i=j:=by omega
  subst hij;obtain ⟨A1,A2,eA,lA⟩:=Gn (l:=A) (j:=(i - a).toNat) I;obtain ⟨B1,B2,eB,lB⟩:=Gn (l:=B) (j:=((a+b) / 2 - i).toNat) I;have hlA:=congrArg List.length eA;have hlB:=congrArg List.length eB;simp only [Za] at hlA hlB
  have f1: ∀x∈A1, ∀y∈B2,rk x<=rk y:=by
   rcases hL with h|h|⟨x,y,gx,gy,hxy⟩
   ·rw [FU (l:=A1) I];exact fun x hx=>by cases hx
   ·rw [FU (l:=B2) I];exact fun x hx y hy=>by cases hy
   intro x' hx' y' hy';have hA0:0<A1.length:=List.length_pos_of_mem hx';have t1:=Mn sA eA gx I x' hx';have t2:=JV sB eB gy lB y' hy';omega
  have f2: ∀y∈B1, ∀x∈A2,rk y<rk x:=by
   rcases hH with h|h|⟨x,y,gx,gy,hxy⟩
   ·rw [FU (l:=A2) I];exact fun y hy x hx=>by cases hx
   ·rw [FU (l:=B1) I];exact fun x hx=>by cases hx
   intro y' hy' x' hx';have hB0:0<B1.length:=List.length_pos_of_mem hy';have t1:=Mn sB eB gy I y' hy';have t2:=JV sA eA gx lA x' hx';omega
  rw [eA,eB] at hR e⊢;rw [eA] at sA;rw [eB] at sB;exact Uo N hN kb a q b i ha I I I I I I hk hR sA sB I (by rw [e];simp) f1 f2
theorem Uq:Sat (dq N kb a q b l) fun r=> ∃C,r=P++(C++S)/\SoK C/\EvK C (A++B):=by
 have hlen:=congrArg List.length e;simp only [Za] at hlen;unfold dq dp;rw [pB I I I];refine av (by constructor<;>omega) (av (by constructor<;>omega) (aC (fun h4=> ?_) fun h4=> ?_))
 ·exact av (by constructor<;>omega) (av (by constructor<;>omega) (LV N hN kb a q b ha hq hb hA hB hk hl e hR sA sB N _ _ I I I I I I (.inr (.inl J)) (.inr (.inl J))))
 exact av (by constructor<;>omega) (LV N hN kb a q b ha hq hb hA hB hk hl e hR sA sB N _ _ I I I I I I (.inl J) (.inl J))
end
theorem LU (N:Nat)(hN:20000<=N): ∀m:Nat,Vg (am N m) m
 |0=>fun P A B S l x y z h1 h2 h3 h4 h5 h6=>by omega
 |m+1=>fun P A B S l x y z h1 h2 h3 h4 h5 h6 h7 h8 h9 s1 s2=>by
  have hlen:=congrArg List.length h8;simp only [Za] at hlen;have ih:=LU N hN m
  have hk:Vg (am N m) (z - x):=fun P A B S l x' y' z' g1 g2 g3 g4 g5 g6=>ih P A B S l x' y' z' g1 g2 g3 g4 g5 I
  rw [ke];refine av (by constructor<;>omega) (aC (fun g=> ?_) fun _=> ?_)
  ·exact SU N hN _ x y z h1 h2 h3 h4 h5 h7 h8 h9 s1 s2 I N [] B [] y z (by simp) (by simp) I I (fun x hx y hy=>by cases hy) (fun x hx y hy=>by cases hy)
  unfold dx;refine av (by constructor<;>omega) (aC (fun g=> ?_) fun _=>Uq N hN _ x y z h1 h2 h3 h4 h5 hk h7 h8 h9 s1 s2);exact OP N hN _ x y z h1 h2 h3 h4 h5 h7 h8 h9 s1 s2 I N [] A [] x y (by simp) (by simp) I I (fun x hx y hy=>by cases hy) (fun x hx y hy=>by cases hy)
theorem Ss (N:Nat)(hN:20000<=N){A B:List WX}{x y z:Int}(h1:x=P.length)(h2:y=x+A.length)(h3:z=y+B.length)(h4:0<A.length)(h5:0<B.length)(h7:l.length<=6000)(h8:l=P++(A++(B++S)))(h9:∀k∈A++B,RKey k)(s1:SoK A)(s2:SoK B):Sat (bq N l x y z) fun r=> ∃C,r=P++(C++S)/\SoK C/\EvK C (A++B):=by
 have hlen:=congrArg List.length h8;simp only [Za] at hlen;exact LU N hN N P A B S l x y z h1 h2 h3 h4 h5 I h7 h8 h9 s1 s2
end
section
open Go.RowKit
inductive Ch (z:Nat):List WX->Prop
 |last {l:List WX}:l.length<=z->SoK l->Ch z l
 |cons {c l:List WX}:c.length=z->SoK c->Ch z l->Ch z (c++l)
theorem Ch.one (h:Ch z l)(hz:l.length<=z):SoK l:=by
 cases h with
 |last _ h=>exact h
 |cons h1 h2 h3=>
  rename_i c l
  rw [Za] at hz;rw [FU (l:=l) I,XB];exact h2
theorem Ch.rest (h:Ch z l)(h1:z<l.length)(h2:l.length<=2*z): ∃c d,l=c++d/\c.length=z/\SoK c/\SoK d:=by
 cases h with
 |last h=>omega
 |cons a1 a2 a3=>
  rename_i c l
  rw [Za] at h2;exact ⟨c,l,J,a1,a2,a3.one I⟩
theorem Ch.two (hz:0<z)(h:Ch z l)(h1:2*z<=l.length): ∃c d t,l=c++(d++t)/\c.length=z/\d.length=z/\SoK c/\SoK d/\Ch z t:=by
 cases h with
 |last h=>omega
 | cons a1 a2 a3=>
  rename_i c l
  rw [Za] at h1
  cases a3 with
  |last b1 b2=>exact ⟨c,l,[],by simp,a1,by omega,a2,b2,.last (YT _) SoK.nil⟩
  |cons b1 b2 b3=>
   rename_i d t
   exact ⟨c,d,t,J,a1,b1,a2,b2,b3⟩
section
variable (N:Nat)(hN:20000<=N)(n:Nat)(hn:n<=6000)
include hN hn
theorem E7 (kb:List WX->Int->Option W7)(z:Nat)(hz:0<z)(hz2:z<=n)(R:List WX->Prop): ∀(m:Nat) (P X l:List WX) (a b:Int),X.length<m->a=P.length->b=a+2*z->l.length=n->l=P++X->Ch z X->(∀k∈X,RKey k)->(∀hO,Ch (z*2) hO->EvK hO X->Sat (kb (P++hO) ((z:Int)*2)) R)->Sat (dL N kb n z m l a b) R
 |0,P,X,l,a,b,h,_,_,_,_,_,_,_=>by omega
 | m+1,P,X,l,a,b,h,ha,hb,hl,e,hc,hR,hk=>by
  have hlen:=congrArg List.length e;simp only [Za] at hlen;rw [dL.eq_2]
  refine aC (fun h4=> ?_) fun h4=> ?_
  ·obtain ⟨c,d,t,rfl,l1,l2,s1,s2,h3⟩:=hc.two hz I;simp only [Za] at hlen h;refine av (by constructor<;>omega) ((Ss N hN (P:=P) (A:=c) (B:=d) (S:=t) ha I I I I I e (fun k hk=>hR k (by simp at hk⊢;rcases hk with h|h<;>simp [h])) s1 s2).bind fun r hr=>av (by constructor<;>omega) (av (by constructor<;>omega) ?_));obtain ⟨C,c1,c2,c3⟩:=hr;have hC:=c3.len;simp only [Za] at hC
   refine E7 kb z hz hz2 R m (P++C) t r b _ I (by simp only [Za];omega) I (by rw [c1];simp only [Za];omega) (by rw [c1];simp) h3 (fun k hk=>hR k (by simp [hk])) fun hO y1 y2=> ?_
   have:=hk (C++hO) (.cons I c2 y1) (by have:=c3.app y2;simpa using this)
   rwa [<-Xc] at this
  unfold gb dM;refine av (by constructor<;>omega) (aC (fun h5=> ?_) fun h5=> ?_)
  ·obtain ⟨c,d,rfl,l1,s1,s2⟩:=hc.rest I I;simp only [Za] at hlen h
   refine (Ss N hN (P:=P) (A:=c) (B:=d) (S:=[]) ha I I I I I (by rw [e];simp) hR s1 s2).bind fun r hr=>av (by constructor<;>omega) ?_
   obtain ⟨C,c1,c2,c3⟩:=hr;have hC:=c3.len;simp only [Za] at hC;rw [XB] at c1;rw [c1];exact hk C (.last I c2) c3
  refine av (by constructor<;>omega) ?_;rw [e];exact hk X (.last I (hc.one I)) (EvK.refl X)
theorem E8: ∀(m:Nat) (X:List WX) (z:Nat),n - z<m->0<z->X.length=n->Ch z X->(∀k∈X,RKey k)->Sat (aK N n m X z) fun r=>SoK r/\EvK r X
 |0,X,z,h,_,_,_,_=>by omega
 |m+1,X,z,h,h0,h1,hc,hR=>by
  rw [aK.eq_2]
  refine aC (fun h4=> ?_) fun h4=>ad ⟨hc.one I,EvK.refl X⟩
  refine av (by constructor<;>omega) (E7 N hN n hn _ z h0 I _ N [] X X 0 _ I (by simp) I h1 (by simp) hc hR fun hO y1 y2=> ?_)
  have e:((z*2:Nat):Int)=(z:Int)*2:=by omega
  have:=E8 m hO (z*2) I I (by rw [y2.len];exact h1) y1 fun k hk=>hR k (y2.mem.1 hk)
  rw [Zf, <-e]
  exact this.mono fun r hr=>⟨hr.1,hr.2.trans y2⟩
theorem Ha (R:List WX->Prop): ∀(m:Nat) (P X l:List WX) (a b:Int),X.length<m->a=P.length->b=a+20->l.length=n->l=P++X->(∀k∈X,RKey k)->(∀hO,Ch 20 hO->EvK hO X->Sat (aK N n N (P++hO) 20) R)->Sat (dW N n m l a b) R
 |0,P,X,l,a,b,h,_,_,_,_,_,_=>by omega
 | m+1,P,X,l,a,b,h,ha,hb,hl,e,hR,hk=>by
  have hlen:=congrArg List.length e;simp only [Za] at hlen;rw [dW.eq_2]
  refine aC (fun h4=> ?_) fun h4=> ?_
  ·obtain ⟨c,t,rfl,l1⟩:=Gn (l:=X) (j:=20) I;simp only [Za] at hlen h
   refine (Sx N hN (P:=P) (X:=c) (S:=t) ha I I e fun k hk=>hR k (by simp [hk])).bind fun r hr=>av (by constructor<;>omega) ?_
   obtain ⟨C,c1,c2,c3⟩:=hr;have hC:=c3.len
   refine Ha R m (P++C) t r b _ I (by simp only [Za];omega) J (by rw [c1];simp only [Za];omega) (by rw [c1];simp) (fun k hk=>hR k (by simp [hk])) fun hO y1 y2=> ?_
   have:=hk (C++hO) (.cons I c2 y1) (c3.app y2)
   rwa [<-Xc] at this
  unfold gK
  refine (Sx N hN (P:=P) (X:=X) (S:=[]) ha I I (by rw [e];simp) hR).bind fun r hr=> ?_
  obtain ⟨C,c1,c2,c3⟩:=hr;have hC:=c3.len;rw [XB] at c1;rw [c1];exact hk C (.last I c2) c3
end
theorem SS (N:Nat)(hN:20000<=N)(l:List WX)(hl:l.length<=6000)(hR:∀k∈l,RKey k):Sat (dX N l) fun r=>SoK r/\EvK r l:=by
 unfold dX io
 refine Sat.bind (Ha N hN l.length hl (fun r=>SoK r/\EvK r l) N [] l l 0 20 I (by simp) I J (by simp) hR fun hO y1 y2=> ?_) fun r hr=>ad hr
 rw [Zf]
 exact (E8 N hN l.length hl N hO 20 I I y2.len y1 fun k hk=>hR k (y2.mem.1 hk)).mono fun r hr=>⟨hr.1,hr.2.trans y2⟩
end
section
open Go.RowKit
theorem keyR.rk {N:Nat}(hN:5000<=N)(h:keyR N k):RKey k:=by
 refine ⟨?_,h.b hN⟩;unfold keyR bd at h;by_cases h0:k.Zh=0
 ·omega
 by_cases h1:k.Zh=1
 ·omega
 by_cases h2:k.Zh=2
 ·omega
 rw [Xa h0,cf,Xa h1,cf,Xa h2,cf] at h;cases h
theorem qf {ρ:Type}{xs:List α}{n:Nat}{f:α->Option ρ}{R:ρ->Prop}(h1:n<xs.length)(k:∀x,xs[n]? =some x->Sat (f x) R):Sat ((aq xs (n:Int)).bind f) R:=qe I I fun x hx=>k x (by rw [Xy] at hx;exact hx)
theorem Hz (N:Nat)(hN:20000<=N)(a:List WX)(ha:a.length<=6000)(hR:∀x∈a,keyR N x): ∀(m i:Nat) (p:List WX),a.length<m+i->i<=a.length->p=a.take i->Sat (nV N a m p (i:Int)) fun r=>SoK r/\EvK r a
 |0,i,p,h,h1,h2=>by omega
 | m+1,i,p,h,h1,h2=>by
  rw [nV.eq_2]
  have hp:p.length<=i:=by rw [h2,Zb];omega
  refine aC (fun h4=> ?_) fun h4=> ?_
  ·refine qf I fun x hx=> ?_
   rw [show bd N x=some true from hR x (Yo hx),bs];unfold ts;rw [ct];refine av (by unfold bm;rw [Ye];omega) (av (by constructor<;>omega) ?_);refine Hz N hN a ha hR m (i+1) _ I I ?_;rw [h2,List.take_add_one,hx];rfl
  unfold wZ;rw [YC I] at h2;subst h2
  exact (SS N hN p ha fun k hk=>(hR k hk).rk I).bind fun r hr=>ad hr
theorem Tu (N:Nat)(hN:20000<=N)(a:List WX)(ha:a.length<=6000)(hR:∀x∈a,keyR N x):Sat (pP N a) fun r=>SoK r/\EvK r a:=
 Hz N hN a ha hR N 0 [] I I (by simp)
section
variable (N:Nat)(hN:20000<=N)(a b:List WX)(ha:a.length+b.length<=6000)(a0:∀x∈a++b,x.Zh=0)(sa:SoK a)(sb:SoK b)
structure Mst (a b out A1 A2 B1 B2:List WX):Prop where
 ea:a=A1++A2
 eb:b=B1++B2
 so:SoK out
 ev:EvK out (A1++B1)
 la: ∀x∈out, ∀y∈A2,rk x<=rk y
 lb: ∀x∈out, ∀y∈B2,rk x<=rk y
 st: ∀y∈B1, ∀x∈A2,rk y<rk x
include ha a0 sa sb
omit ha a0 sb in
theorem Mst.stepA {out B1 B2:List WX}{x:WX}(h:Mst a b out A1 (x::A2) B1 B2)(hx:∀y∈B2,rk x<=rk y):Mst a b (out++ [x]) (A1++ [x]) A2 B1 B2:=by
 have sa':=sa;rw [h.ea] at sa';obtain ⟨-,t2, -⟩:=sa'.parts;obtain ⟨t3, -⟩:=Yv.1 t2;refine ⟨by rw [h.ea];simp,h.eb,h.so.app (SoK.one x) fun y hy z hz=>by rw [Ys.1 hz];exact h.la y hy x (by simp),?_,?_,?_,fun y hy z hz=>h.st y hy z (by simp [hz])⟩
 ·have e1:=h.ev.app (EvK.refl [x])
  have e2:=(EvK.refl A1).app (EvK.swap (U:=B1) (V:=[x]) fun y hy z hz=>by
   rw [Ys.1 hz];have:=h.st y hy x (by simp)
   omega)
  rw [<-Xc] at e2;exact e1.trans (by simpa using e2)
 ·intro y hy z hz;rcases Yi.1 hy with hy|hy
  ·exact h.la y hy z (by simp [hz])
  rw [Ys.1 hy];exact t3 z hz
 intro y hy z hz;rcases Yi.1 hy with hy|hy
 ·exact h.lb y hy z hz
 rw [Ys.1 hy];exact hx z hz
omit ha a0 in
theorem Mst.stepB {out B1 B2:List WX}(h:Mst a b out A1 A2 B1 (y::B2))(hy:∀x,A2.head? =some x->rk y<rk x):Mst a b (out++ [y]) A1 A2 (B1++ [y]) B2:=by
 have sa':=sa;have sb':=sb;rw [h.ea] at sa';rw [h.eb] at sb';obtain ⟨-,t2, -⟩:=sa'.parts;obtain ⟨-,u2, -⟩:=sb'.parts;obtain ⟨u3, -⟩:=Yv.1 u2
 have hA: ∀x∈A2,rk y<rk x:=by
  cases A2 with
  |nil=>exact fun x hx=>by cases hx
  |cons x0 A2=>
   have h0:=hy x0 rfl;intro x hx;rcases Yj.1 hx with rfl|hx
   ·exact h0
   have:=(Yv.1 t2).1 x hx;omega
 refine ⟨h.ea,by rw [h.eb];simp,h.so.app (SoK.one y) fun x hx z hz=>by rw [Ys.1 hz];exact h.lb x hx y (by simp),?_,?_,?_,?_⟩
 ·have:=h.ev.app (EvK.refl [y]);simpa using this
 ·intro x hx z hz;rcases Yi.1 hx with hx|hx
  ·exact h.la x hx z hz
  rw [Ys.1 hx];have:=hA z hz;omega
 ·intro x hx z hz;rcases Yi.1 hx with hx|hx
  ·exact h.lb x hx z (by simp [hz])
  rw [Ys.1 hx];exact u3 z hz
 intro x hx z hz;rcases Yi.1 hx with hx|hx
 ·exact h.st x hx z hz
 rw [Ys.1 hx];exact hA z hz
theorem Hw (kb:List WX->Int->Int->Option W7){R:List WX->Prop}{B1 B2:List WX}(hk:∀out A1 A2,Mst a b out A1 A2 (B1++ [y]) B2->Sat (kb out (A1.length:Int) ((B1.length:Int)+1)) R): ∀(m:Nat) (A2 out A1:List WX),A2.length<m->Mst a b out A1 A2 B1 (y::B2)->Sat (qm N kb (B1.length:Int) a b m out (A1.length:Int)) R
 |0,A2,out,A1,h,_=>by omega
 | m +1,A2,out,A1,h,hs=>by
  rw [qm.eq_2];have hla:=congrArg List.length hs.ea;have hlb:=congrArg List.length hs.eb;have hlo:=hs.ev.len;simp only [Za,X9] at hla hlb hlo;have gy:b[B1.length]? =some y:=Gw hs.eb;have hyb:y.Zh=0:=a0 y (by rw [hs.eb];simp)
  have stop:(∀x,A2.head? =some x->rk y<rk x)->Sat (qn N kb (B1.length:Int) a b out (A1.length:Int)) R:=fun hh=>by
   unfold qn uq;refine fR hs.eb J (av (by unfold bm;rw [Ye];omega) (av (by constructor<;>omega) ?_));exact hk _ _ _ (hs.stepB a b sa sb hh)
  cases A2 with
  |nil=>
   simp only [Yc] at hla;rw [Xa (show¬((A1.length:Int)<(a.length:Int)) by omega),cf,bs,cf]
   exact stop fun x hx=>by cases hx
  | cons x A2=>
   simp only [X9] at hla h;have hxa:x.Zh=0:=a0 x (by rw [hs.ea];simp)
   have rx:rk x=x.N:=by unfold rk;rw [if_pos hxa]
   have ry:rk y=y.N:=by unfold rk;rw [if_pos hyb]
   rw [W9 (show ((A1.length:Int)<(a.length:Int)) by omega),ct]
   refine Sat.bind (P:=fun c=>c=true↔rk x<=rk y) (fR hs.ea J (fR hs.eb J (ad (by rw [decide_eq_true_iff,rx,ry])))) fun c hc=>dB (fun h1=> ?_) fun h1=> ?_
   ·refine fR hs.ea J (av (by unfold bm;rw [Ye];omega) (av (by constructor<;>omega) ?_));have hxy:=hc.1 h1;have sb':=sb;rw [hs.eb] at sb';obtain ⟨u3, -⟩:=Yv.1 sb'.parts.2.1
    have hs':=hs.stepA a b sa fun z hz=>by
     rcases Yj.1 hz with rfl|hz
     ·exact hxy
     have:=u3 z hz;omega
    have:=Hw kb hk m A2 _ _ I hs';rw [show (((A1++ [x]).length:Nat):Int)=(A1.length:Int)+1 by simp] at this;exact this
   refine stop fun z hz=> ?_
   cases hz
   have: ¬rk x<=rk y:=fun h=>by rw [hc.2 h] at h1;cases h1
   omega
theorem DX (hN:20000<=N): ∀(m:Nat) (B2 out A1 A2 B1:List WX),B2.length<m->Mst a b out A1 A2 B1 B2->Sat (kF N a b m out (A1.length:Int) (B1.length:Int)) fun r=>SoK r/\EvK r (a++b)
 |0,B2,out,A1,A2,B1,h,_=>by omega
 | m+1,B2,out,A1,A2,B1,h,hs=>by
  rw [kF.eq_2];have hla:=congrArg List.length hs.ea;have hlb:=congrArg List.length hs.eb;have hlo:=hs.ev.len;simp only [Za] at hla hlb hlo
  cases B2 with
  | nil=>
   simp only [Yc] at hlb
   refine aC (fun h=>by omega) fun _=> ?_
   unfold vG;rw [Xy]
   have e2:(a.drop A1.length).take (a.length - A1.length)=A2:=by
    rw [YC (by rw [Ya];omega),hs.ea,List.drop_left]
   rw [e2];refine av ⟨by omega,by omega,YM _⟩ (av (by unfold bm;omega) (ad ?_));have sa':=sa;rw [hs.ea] at sa';refine ⟨hs.so.app sa'.parts.2.1 hs.la,?_⟩;have e3:=hs.ev.app (EvK.refl A2);have e4:=(EvK.refl A1).app (EvK.swap (U:=B1) (V:=A2) fun y hy z hz=>by have:=hs.st y hy z hz;omega);rw [hs.ea,hs.eb,XB];rw [Xc] at e3⊢;exact e3.trans e4
  |cons y B2=>
   simp only [X9] at hlb h
   refine aC (fun _=> ?_) fun h=>by omega
   refine Hw N a b ha a0 sa sb _ (B1:=B1) (B2:=B2) (y:=y) (fun out A1 A2 hs'=> ?_) N A2 out A1 I hs;have:=DX hN m B2 out A1 A2 (B1++ [y]) I hs';rw [show (((B1++ [y]).length:Nat):Int)=(B1.length:Int)+1 by simp] at this;exact this
theorem Pi (hN:20000<=N):Sat (qo N a b) fun r=>SoK r/\EvK r (a++b):=by
 unfold qo;exact DX N a b ha a0 sa sb hN N b [] [] a [] I ⟨J,J,SoK.nil,EvK.refl _,fun x hx=>(by cases hx),fun x hx=>(by cases hx),fun x hx=>by cases hx⟩
end
theorem E0 (N:Nat)(hN:20000<=N): ∀(m:Nat) (a:List WX),a.length<m->a.length<=6000->(∀x∈a,x.Zh=0)->Sat (ko N m a) fun r=>SoK r/\EvK r a
 |0,a,h,_,_=>by omega
 | m+1,a,h,hl,h0=>by
  rw [yv]
  refine aC (fun h1=>ad ⟨?_,EvK.refl a⟩) fun h1=> ?_
  ·match a,h1 with
   | [],_=>exact SoK.nil
   | [x],_=>exact SoK.one x
   |x::y::t,h1=>simp only [X9] at h1;omega
  have hd:((a.length:Int).tdiv 2).toNat=a.length / 2:=by
   rw [Xw I];omega
  have hd0:0<=(a.length:Int).tdiv 2:=by rw [Xw I];omega
  have hd1:(a.length:Int).tdiv 2<=a.length:=by rw [Xw I];omega
  rw [hd];refine av (by constructor<;>omega) (av ⟨hd0,by omega,by omega⟩ (av ⟨hd0,by omega,YM _⟩ ?_))
  have e1:(a.drop 0).take (a.length / 2 - 0)=a.take (a.length / 2):=by rw [XJ,Nat.sub_zero]
  have e2:(a.drop (a.length / 2)).take (a.length - a.length / 2)=a.drop (a.length / 2):=YC (by rw [Ya];omega);rw [e1,e2]
  refine (E0 N hN m _ (by rw [Zb];omega) (by rw [Zb];omega) fun x hx=>h0 x (Yp hx)).bind fun r hr=>(E0 N hN m _ (by rw [Ya];omega) (by rw [Ya];omega) fun x hx=>h0 x (List.mem_of_mem_drop hx)).bind fun z hz=> ?_
  have l1:=hr.2.len;have l2:=hz.2.len;rw [Zb] at l1;rw [Ya] at l2
  refine (Pi N r z I (fun x hx=> ?_) hr.1 hz.1 hN).bind fun y hy=>ad ⟨hy.1,?_⟩
  ·rcases Yi.1 hx with hx|hx
   ·exact h0 x (Yp (hr.2.mem.1 hx))
   exact h0 x (List.mem_of_mem_drop (hz.2.mem.1 hx))
  have:=hr.2.app hz.2;rw [YB] at this;exact hy.2.trans this
end
section
open Go.RowKit
set_option maxRecDepth 20000
theorem Us (h:k.Zh=1):rk k=8589934592:=by unfold rk;rw [if_neg I,h];rfl
theorem Ur (h:k.Zh=2):rk k=17179869184:=by unfold rk;rw [if_neg I,h];rfl
theorem VT (h:k.Zh=0)(hb:RKey k):0<=rk k/\rk k<=4294967294:=by unfold rk;rw [if_pos h];exact hb.n h
theorem Mz {r:Int}(h:∀x∈l,rk x=r):SoK l:=by
 refine Yw.2 fun i j hi hj hij=> ?_
 have h1:=h _ (Zg hi);have h2:=h _ (Zg hj);omega
theorem NI (N:Nat)(hN:20000<=N)(a p7 p8 p9:List WX)(hl:p7.length+p8.length+p9.length<=6000)(h7:∀x∈p7,x.Zh=0/\RKey x)(h8:∀x∈p8,x.Zh=1)(h9:∀x∈p9,x.Zh=2)(he:EvK (p7++(p8++p9)) a):Sat (tk N p7 p8 p9) fun r=>SoK r/\EvK r a:=by
 unfold tk wR
 refine (E0 N hN N p7 I I fun x hx=>(h7 x hx).1).bind fun r hr=> ?_
 have l1:=hr.2.len;refine av (by unfold bm;rw [Yc];omega) (av (by unfold bm;rw [Zf];omega) (av (by unfold bm;rw [Zf,Za];omega) (ad ?_)));rw [Zf,Xc];refine ⟨hr.1.app ((Mz fun x hx=>Us (h8 x hx)).app (Mz fun x hx=>Ur (h9 x hx)) fun x hx y hy=>by rw [Us (h8 x hx),Ur (h9 y hy)];omega) fun x hx y hy=> ?_,(hr.2.app (EvK.refl _)).trans he⟩;have hx':=h7 x (hr.2.mem.1 hx);have:=VT hx'.1 hx'.2;rcases Yi.1 hy with hy|hy
 ·rw [Us (h8 y hy)];omega
 rw [Ur (h9 y hy)];omega
theorem wU (N:Nat)(hN:20000<=N)(a:List WX)(ha:a.length<=6000)(hR:∀x∈a,keyR N x): ∀(m i:Nat) (p7 p8 p9:List WX),a.length<m+i->i<=a.length->p7.length+p8.length+p9.length<=i->(∀x∈p7,x.Zh=0/\RKey x)->(∀x∈p8,x.Zh=1)->(∀x∈p9,x.Zh=2)->EvK (p7++(p8++p9)) (a.take i)->Sat (kp N a m p7 p8 p9 (i:Int)) fun r=>SoK r/\EvK r a
 |0,i,p7,p8,p9,h,h1,_,_,_,_,_=>by omega
 | m +1,i,p7,p8,p9,h,h1,hl,h7,h8,h9,he=>by
  rw [kp.eq_2]
  refine aC (fun h4=> ?_) fun h4=> ?_
  ·refine qf I fun x hx=> ?_
   have hxa:=Yo hx;have hxr:=hR x hxa;have hrk:=hxr.rk I;have a6:pM N x=some true:=(Ew N hN x).trans hxr
   have gx:aq a (i:Int)=some x:=by
    unfold aq;rw [if_neg I,Xy];exact hx
   have et:a.take (i+1)=a.take i++ [x]:=by rw [List.take_add_one,hx];rfl
   have e1:((i:Int)+1)=((i+1:Nat):Int):=by omega
   rw [a6,bs,nt,cf,gx,bs];unfold mD;by_cases k0:x.Zh=0
   ·rw [W9 k0,ct,bs];refine av (by unfold bm;rw [Ye];omega) (av (by constructor<;>omega) ?_);rw [e1];refine wU N hN a ha hR m (i+1) _ p8 p9 I I (by rw [Za,Ye];omega) (fun y hy=> ?_) h8 h9 ?_
    ·rcases Yi.1 hy with hy|hy
     ·exact h7 y hy
     rw [Ys.1 hy];exact ⟨k0,hrk⟩
    rw [et]
    have s1:=(EvK.refl p7).app (EvK.swap (U:=[x]) (V:=p8++p9) fun y hy z hz=>by
     rw [Ys.1 hy];have:=VT k0 hrk;rcases Yi.1 hz with hz|hz
     ·rw [Us (h8 z hz)];omega
     ·rw [Ur (h9 z hz)];omega)
    have s2:=he.app (EvK.refl [x]);rw [Xc];refine s1.trans ?_;rw [<-Xc];exact s2
   rw [Xa k0,cf];by_cases k1:x.Zh=1
   ·rw [W9 k1,ct,bs];refine av (by unfold bm;rw [Ye];omega) (av (by constructor<;>omega) ?_);rw [e1];refine wU N hN a ha hR m (i+1) p7 _ p9 I I (by rw [Za,Ye];omega) h7 (fun y hy=> ?_) h9 ?_
    ·rcases Yi.1 hy with hy|hy
     ·exact h8 y hy
     rw [Ys.1 hy];exact k1
    rw [et]
    have s1:=(EvK.refl (p7++p8)).app (EvK.swap (U:=[x]) (V:=p9) fun y hy z hz=>by
     rw [Ys.1 hy,Us k1,Ur (h9 z hz)];omega)
    have s2:=he.app (EvK.refl [x]);simp only [Xc] at s1 s2⊢;exact s1.trans s2
   have k2:x.Zh=2:=by have:=hrk.kd;omega
   rw [Xa k1,cf,bs];refine av (by unfold bm;rw [Ye];omega) (av (by constructor<;>omega) ?_);rw [e1];refine wU N hN a ha hR m (i+1) p7 p8 _ I I (by rw [Za,Ye];omega) h7 h8 (fun y hy=> ?_) ?_
   ·rcases Yi.1 hy with hy|hy
    ·exact h9 y hy
    rw [Ys.1 hy];exact k2
   rw [et];have s2:=he.app (EvK.refl [x]);simp only [Xc] at s2⊢;exact s2
  rw [YC I] at he;exact NI N hN a p7 p8 p9 I h7 h8 h9 he
theorem QW (N:Nat)(hN:20000<=N)(a:List WX)(ha:a.length<=6000)(hR:∀x∈a,keyR N x):Sat (yy N a) fun r=>SoK r/\EvK r a:=
 wU N hN a ha hR N 0 [] [] [] I I (by simp) (fun x hx=>by cases hx) (fun x hx=>by cases hx) (fun x hx=>by cases hx) (by simpa using EvK.refl [])
theorem Sq (N:Nat)(hN:20000<=N)(r:List WX)(hr:r.length<=6000)(hs:SoK r): ∀(m i:Nat),r.length+1<m+i->1<=i->i<=r.length+1->lZ N m r (i:Int)=some r
 |0,i,h,_,_=>by omega
 | m+1,i,h,h0,h1=>by
  apply Sat.eq;rw [lZ.eq_2]
  refine aC (fun h4=> ?_) fun _=>by unfold wO;exact ad J
  obtain ⟨n,rfl⟩: ∃n,N=n+1:=⟨N - 1,by omega⟩;rw [wN.eq_2,W9 (show 0<(i:Int) by omega),ct]
  have e1:((i:Int)+1)=((i+1:Nat):Int):=by omega
  have e2:(i:Int) - 1=((i - 1:Nat):Int):=by omega
  have stop:Sat (te (n+1) (lZ (n+1) m) (i:Int) r) (· =r):=by
   unfold te;refine av (by constructor<;>omega) ?_;rw [e1,Sq (n+1) hN r hr hs m (i+1) I I I];exact ad J
  refine Sat.bind (P:=fun b=>b=true-> ∀x,r[i]? =some x->x.Zh=0) (qf I fun x hx=>ad fun h y hy=>by rw [hx] at hy;cases hy;exact Y8 h) fun b hb=> ?_
  refine cB (P:=fun c=>c=true->b=true/\ ∀x,r[i - 1]? =some x->x.Zh=0) (fun e=>av (by constructor<;>omega) (by rw [e2];exact qf I fun x hx=>ad fun h=>⟨e,fun y hy=>by rw [hx] at hy;cases hy;exact Y8 h⟩)) (fun _=>ad fun h=>by cases h) fun c hc=> ?_
  refine cB (P:=fun z=>z=false) (fun e=>av (by constructor<;>omega) (by
   rw [e2]
   refine qf I fun x hx=>qf I fun y hy=>ad ?_
   obtain ⟨a6,a7⟩:=hc e;have kx:=a7 x hx;have ky:=hb a6 y hy;obtain ⟨a1,rfl⟩:=XZ.1 hx;obtain ⟨a2,rfl⟩:=XZ.1 hy;have:=Yw.1 hs (i - 1) i a1 a2 I;unfold rk at this;rw [if_pos kx,if_pos ky] at this
   exact Xa I)) (fun _=>ad J) fun z hz=> ?_
  rw [hz,cf];exact stop
set_option maxRecDepth 20000
def iH:Nat->List WZ->List WX
 |_,[]=> []
 |j,x::m=>bif decide (x=cN) then iH (j+1) m else lD (j:Int)::iH (j+1) m
theorem tw: ∀(j:Nat) (m:List WZ),(iH j m).length<=m.length
 |_,[]=>YM _
 |j,x::m=>by
  unfold iH;have:=tw (j+1) m;cases decide (x=cN)
  ·rw [cf,X9,X9];omega
  rw [ct,X9];omega
theorem xe: ∀(j:Nat) (m:List WZ) (k:WX),k∈iH j m-> ∃n:Nat,k=lD (n:Int)/\n<j+m.length
 |_,[],k,h=>by cases h
 | j,x::m,k,h=>by
  unfold iH at h;rw [X9]
  cases e:decide (x=cN) with
  |true=>
   rw [e,ct] at h;obtain ⟨n,h1,h2⟩:=xe (j+1) m k h;exact ⟨n,h1,by omega⟩
  |false=>
   rw [e,cf] at h;rcases Yj.1 h with h|h
   ·exact ⟨j,h,by omega⟩
   obtain ⟨n,h1,h2⟩:=xe (j+1) m k h;exact ⟨n,h1,by omega⟩
def DY (d:W6):List WX:=(iH 0 d.Zs++ [lenK])++d.Zt.map (·.Zo)
theorem P8 {ρ:Type}{n r:Option ρ}{x:Nat->Option ρ}:rc none n r x=n:=rfl
theorem Dw (N:Nat)(c:W3)(hc:c.Zi.length<=4096)(w':WP)(v':WZ): ∀(m j:Nat) (l:List WX),c.Zi.length<m+j->j<=c.Zi.length->l.length<=j->Sat (eV N (cM (fun x st=>ig N w' v' x st)) c m (j:Int) (none,l)) fun r=>r=(none,l++iH j (c.Zi.drop j))
 |0,j,l,h1,h2,_=>by omega
 | m +1,j,l,h1,h2,h3=>by
  rw [eV.eq_2];by_cases h4:j<c.Zi.length
  ·rw [W9 I,ct,aM h4,bs,XF h4];unfold iH
   cases e:decide (c.Zi[j]=(⟨8,0,(⟨#[]⟩:ByteArray)⟩:WZ)) with
   |true=>
    rw [nt,cf,show decide (c.Zi[j]=cN)=true from e,ct];exact av (by constructor<;>omega) (Dw N c hc w' v' m (j+1) _ I I I)
   | false=>
    have e2:cM (fun x st=>ig N w' v' x st) ((j:Int),c.Zi[j]) (none,l)=some (true,(none,l++([(⟨0,(j:Int),⟨#[]⟩⟩:WX)]:List WX))):=by
     show Option.map _ (ig N w' v' ((j:Int),c.Zi[j]) l)=_;unfold ig;simp only;rw [cj (by unfold bm;rw [Ye];omega)];rfl
    rw [nf,ct,e2,bs,nt,cf,show decide (c.Zi[j]=cN)=false from e,cf];refine av (by constructor<;>omega) ((Dw N c hc w' v' m (j+1) _ I I (by rw [Za,Ye];omega)).mono fun r hr=> ?_);rw [hr,Xc];rfl
  rw [Xa I,cf];exact ad (by rw [XH I,show iH j []=[] from rfl,XB])
theorem H4 (N:Nat)(w:WP)(y:List WS)(hy:y.length<=1024): ∀(m j:Nat) (l:List WX),y.length<m+j->j<=y.length->l.length<=4097+j->qN N y m (j:Int) l=pP N (l++(y.drop j).map (·.Zo))
 |0,j,l,h1,h2,_=>by omega
 | m+1,j,l,h1,h2,h3=>by
  rw [qN.eq_2];by_cases h4:j<y.length
  ·rw [W9 I,ct,aM h4,bs,cj (by unfold bm;rw [Ye];omega),cj (by constructor<;>omega),XF h4];have:=H4 N w y hy m (j+1) (l++ [y[j].Zo]) I I (by rw [Za,Ye];omega);simp only [Xv,Xt] at this;rw [this,Xc];rfl
  rw [Xa I,cf,XH I,List.map_nil,XB];unfold uF;cases pP N l<;>rfl
theorem DS (N:Nat)(d:W6)(hy:d.Zt.length<=1024): ∀(m j:Nat) (l:List WX),d.Zt.length<m+j->j<=d.Zt.length->l.length<=5000+j->td N d m l (j:Int)=qk N (l++(d.Zt.drop j).map (·.Zo))
 |0,j,l,h1,h2,_=>by omega
 | m+1,j,l,h1,h2,h3=>by
  rw [td.eq_2];by_cases h4:j<d.Zt.length
  ·rw [W9 I,ct,aM h4,bs,cj (by unfold bm;rw [Ye];omega),cj (by constructor<;>omega),XF h4];have:=DS N d hy m (j+1) (l++ [d.Zt[j].Zo]) I I (by rw [Za,Ye];omega);simp only [Xv,Xt] at this;rw [this,Xc];rfl
  rw [Xa I,cf,XH I,List.map_nil,XB]
theorem AL (N:Nat)(d:W6)(hE:d.Zs.length<=5000)(hh:∀x∈d.Zs,x.Zh=8->x=cN): ∀(m j:Nat) (l:List WX),d.Zs.length<m+j->j<=d.Zs.length->l.length<=j->pJ N d m l (j:Int)=uU N d (l++iH j (d.Zs.drop j))
 |0,j,l,h1,h2,_=>by omega
 | m+1,j,l,h1,h2,h3=>by
  rw [pJ.eq_2];by_cases h4:j<d.Zs.length
  ·have e1:((j:Int)+1)=((j+1:Nat):Int):=by omega
   have ed:decide (d.Zs[j].Zh=8)=decide (d.Zs[j]=cN):=by
    by_cases e:d.Zs[j].Zh=8
    ·rw [W9 e,W9 (hh _ (Zg h4) e)]
    rw [Xa e,Xa fun e2=>e (by rw [e2];rfl)]
   rw [W9 I,ct,aM h4,bs,XF h4,ed];unfold iH tf
   cases e:decide (d.Zs[j]=cN) with
   |true=>
    rw [nt,cf,ct,cj (by constructor<;>omega),e1];exact AL N d hE hh m (j+1) l I I I
   |false=>
    rw [nf,ct,cf,cj (by unfold bm;rw [Ye];omega),cj (by constructor<;>omega),e1];have:=AL N d hE hh m (j+1) (l++ [lD (j:Int)]) I I (by rw [Za,Ye];omega);rw [Xc] at this;exact this
  rw [Xa I,cf,XH I,show iH j []=[] from rfl,XB]
section
variable {N:Nat}(hN:20000<=N)(hv:v.Zh=7)(hvN:v.N=i){k:Nat}(hk:k<=580){w:WP}(hM:d.Zs.length<=2200)(h:Sim N i k q w c d)
include hN hM h
theorem JO: ∀x∈DY d,keyR N x:=fun x hx=>by
 rcases Yi.1 hx with hx|hx
 ·rcases Yi.1 hx with hx|hx
  ·obtain ⟨n,rfl,h2⟩:=xe _ _ _ hx;unfold keyR bd lD;rw [show decide ((0:Int)=0)=true from rfl,ct];show Option.bind (bif (⟨#[]⟩:ByteArray).toList==(⟨#[]⟩:ByteArray).toList then some (decide (0<=(n:Int))) else some false) _=_;rw [beq_self_eq_true,ct,W9 (show 0<=(n:Int) by omega),bs,ct,W9 (show (n:Int)<=4294967294 by omega),bs]
  rw [Ys.1 hx];unfold keyR bd;show Option.bind (iZ N lenK.S) _=_
  have:iZ N lenK.S=some (0,false):=by
   obtain ⟨n,rfl⟩: ∃n,N=n+64:=⟨N - 64,by omega⟩;kernel_rfl
  rw [this];rfl
 obtain ⟨p,hp,rfl⟩:=Yn.1 hx;exact (h.pv p hp).k
theorem HC:(DY d).length<=3300:=by
 have _:=hN
 have h1:=tw 0 d.Zs;have h2:=h.ob.len;unfold DY;rw [Za,Za,Zc,Ye];omega
include hv hvN hk in
theorem Qn:mi N w v=pP N (DY d):=by
 have hel:=tw 0 c.Zi
 have hML:c.Zi.length<=2200:=by rw [h.el];exact hM
 have hle:=h.ob.len;have eL:cg N=some lenK:=rfl;unfold mi rJ;rw [vS hv hvN hk hM h,bs,nt,cf,bs];have he:=(Dw N c I w v N 0 [] I I (by simp)).eq;show Option.bind (eV N (cM (fun x st=>ig N w v x st)) c N ((0:Nat):Int) (none,[])) _=_;rw [he,bs,P8,eL,bs,XJ,Zf,cj (by show (iH 0 c.Zi).length+1<=1099511627776;omega),BY hN hv hvN hk hML h.ob,bs];have:=H4 N w d.Zt hle N 0 (iH 0 c.Zi++ [lenK]) I I (by rw [Za,Ye];omega);rw [XJ] at this;rw [h.el] at this⊢;exact this
theorem OT:uo N d=qk N (DY d):=by
 have hel:=tw 0 d.Zs;have hle:=h.ob.len;have eL:cE N=some lenK:=rfl;unfold uo;have e1:=AL N d I h.wf.hole N 0 [] I I (by simp);rw [show ((0:Nat):Int)=0 from rfl,XJ,Zf] at e1;rw [e1];unfold uU;rw [eL,bs,cj (by unfold bm;rw [Ye];omega)];have e2:=DS N d hle N 0 (iH 0 d.Zs++ [lenK]) I I (by rw [Za,Ye];omega);rw [XJ] at e2;exact e2
include hv hvN hk in
theorem Tv: ∃ks,mi N w v=some ks/\uo N d=some ks/\SoK ks/\EvK ks (DY d):=by
 have hR:=JO hN hM h;have hl:=HC hN hM h;obtain ⟨r,e1,s1,s2⟩:=Tu N hN (DY d) I hR;obtain ⟨z,f1,t1,t2⟩:=QW N hN (DY d) I hR;have e:r=z:=s1.uniq t1 (s2.trans t2.symm);subst e;refine ⟨r,(Qn hN hv hvN hk hM h).trans e1,?_,s1,s2⟩;rw [OT hN hM h];unfold qk;rw [f1,bs];have hz:=s2.len;exact Sq N hN r I s1 N 1 I I I
end
end
section
open Go.RowKit
set_option maxRecDepth 20000
structure Sta (N k q:Nat) (w:WP) (d:W6):Prop where
 ex: ∃i R c,w.Zv.ZA=R++ [(⟨7,i,⟨#[]⟩⟩:WZ)]/\R.length<=29/\Sim N i k q w c d
theorem Sta.at_ {N k:Nat}{w:WP}(h:Sta N k q w d): ∃i R c,w.Zv.ZA=R++ [(⟨7,i,⟨#[]⟩⟩:WZ)]/\R.length<=29/\Sim N i k q w c d/\eO N w=some ((R.length:Int)+1)/\jd N w ((R.length:Int)+1 - 1)=some ⟨7,i,⟨#[]⟩⟩:=by
 obtain ⟨i,R,c,h1,h2,h3⟩:=h.ex;refine ⟨i,R,c,h1,h2,h3,?_,?_⟩
 ·rw [NU N (by rw [h1,Za,Ye];omega),h1,Za,Ye];rfl
 unfold jd;rw [show (R.length:Int)+1 - 1=((R.length:Nat):Int) by omega,LW N (v:=⟨7,i,⟨#[]⟩⟩) (by rw [h1];exact Gw rfl),bs]
theorem E6 (N:Nat)(a:List WX)(ha:a.length<=6000): ∀(m j:Nat),a.length<m+j->j<=a.length->uX N a a m (j:Int)=some true
 |0,j,h,h2=>by omega
 | m+1,j,h,h2=>by
  rw [uX.eq_2];by_cases h4:j<a.length
  ·rw [W9 I,ct,aM h4,bs,bs,W9 rfl,nt,cf,cj (by constructor<;>omega)];exact E6 N a ha m (j+1) I I
  rw [Xa I,cf];rfl
theorem E5 (N:Nat)(a:List WZ)(ha:a.length<=6000): ∀(m j:Nat),a.length<m+j->j<=a.length->mV N a a m (j:Int)=some true
 |0,j,h,h2=>by omega
 | m+1,j,h,h2=>by
  rw [mV.eq_2];by_cases h4:j<a.length
  ·rw [W9 I,ct,aM h4,bs,bs,W9 rfl,nt,cf,cj (by constructor<;>omega)];exact E5 N a ha m (j+1) I I
  rw [Xa I,cf];rfl
theorem MY {N:Nat}(hN:20000<=N){k:Nat}(hk:k<=580){w:WP}(hM:d.Zs.length<=2200)(h:Sta N k q w d)(key:WX):np N w d key=some true:=by
 obtain ⟨i,R,c,h1,h2,s,e1,e2⟩:=h.at_;obtain ⟨ks,k1,k2, -,k4⟩:=Tv hN (v:=⟨7,i,⟨#[]⟩⟩) rfl rfl hk hM s
 have hkl:ks.length<=3300:=by rw [k4.len];exact HC hN hM s
 have hle:=s.ob.len
 have hown: ∀key,lI N w ⟨7,i,⟨#[]⟩⟩ key=some (ni d key):=fun key=>LI hN rfl rfl hk hM s key
 have hown': ∀key,ll N d key=some (ni d key):=fun key=>Fj hN I hle s.wf key
 have hs1:rl N ks ks=some true:=by
  unfold rl;rw [W9 rfl,nt,cf];exact E6 N ks I N 0 I I
 have hs2:nQ N d.Zs d.Zs=some true:=by
  unfold nQ;rw [W9 rfl,nt,cf];exact E5 N d.Zs I N 0 I I
 have loop: ∀(l:List WX),l=(([]:List WX)++ks)++ [key]-> ∀(m j:Nat),l.length<m+j->j<=l.length->rL N ks key l w d ⟨7,i,⟨#[]⟩⟩ m (j:Int)=some true:=by
  intro l hl m
  have hll:l.length<=3301:=by rw [hl,Za,Zf,Ye];omega
  induction m with
  |zero=>
   intro j h h2;omega
  | succ m ih=>
   intro j h h2;rw [rL.eq_2, <-hl];by_cases h4:j<l.length
   ·rw [W9 I,ct,aM h4,bs,hown,bs,hown',bs,W9 rfl,nt,cf,beq_self_eq_true,nt,bs,cf,cj (by constructor<;>omega)];exact ih (j+1) I I
   rw [Xa I,cf];rfl
 unfold np vC;rw [e1,bs,cj (by constructor<;>omega),e2,bs,k2,bs,TO rfl rfl hk hM s,bs,W9 rfl,nt,cf,UT rfl rfl hk hM s,bs,bs,nt,cf,k1,bs,hs1,bs,bs,nt,cf,TQ rfl rfl hk hM s,bs,hs2,bs,bs,nt,cf,cj (by unfold bm;rw [Yc];omega),cj (by unfold bm;rw [Zf,Ye];omega)];exact loop _ J N 0 (by rw [Za,Zf,Ye];omega) (YT _)
set_option maxRecDepth 20000
structure ActOk (a:WQ):Prop where
 v:PrimB a.V
 vn:in64 a.V.N
 d:PDesc a.D
 n:a.N<=2000\/4096<a.N
 kn:a.K.N<=2000\/4096<=a.K.N
 dn:a.D.Value.N<=2000\/4096<a.D.Value.N
theorem Sta.of {N k k' q':Nat}{w w':WP}{d':W6}(h1:w.Zv.ZA=R++ [(⟨7,i,⟨#[]⟩⟩:WZ)])(h2:R.length<=29)(h:CR N i k' q' w d' w')(hk:k'<=k)(hq:q'<=q):Sta N k q w' d':=by
 obtain ⟨c',s,f⟩:=h;exact ⟨i,R,c',by rw [f.roots];exact h1,h2,s.up hk hq⟩
def UZ (N k q:Nat)(d:W6)(r:W6×Bool×WP):Prop:=r.2.1=true/\r.1.Zs.length<=max (d.Zs.length+1) 2101/\r.1.Zt.length<=d.Zt.length+1/\Sta N (k+8) (q+1024*1000) r.2.2 r.1
theorem TE {N:Nat}(hN:20000<=N){k:Nat}(hk:k+16<=580)(hq:q+1024*1000<=1000000000){w:WP}(hM:d.Zs.length<=2190)(hL:d.Zt.length<1000)(h:Sta N k q w d){a:WQ}(ha:ActOk a):Sat (t6 N w d a) (UZ N k q d):=by
 obtain ⟨i,R,c,h1,h2,s,e1,e2⟩:=h.at_;unfold t6;rw [e1,bs,cj (by constructor<;>omega),e2,bs]
 refine aC (fun _=> ?_) fun _=>aC (fun _=> ?_) fun _=>aC (fun _=> ?_) fun _=>aC (fun _=> ?_) fun _=>aC (fun _=> ?_) fun _=> ?_
 ·refine (PZ hN (v:=⟨7,i,⟨#[]⟩⟩) J J hk hq hM hL s (key:=a.K) (fun _=>by have:=ha.kn;omega) ha.d (by have:=ha.dn;omega)).bind fun r hr=> ?_
  obtain ⟨d',r1,r2,r3,r4⟩:=hr;rw [r1,bs,beq_self_eq_true,beq_self_eq_true,ct,bs];exact ad ⟨J,by show d'.Zs.length<=_;omega,r3,Sta.of h1 h2 r4 (YM _) (YM _)⟩
 ·obtain ⟨r,f1,d',r1,r2,r3,r4⟩:=PX hN (v:=⟨7,i,⟨#[]⟩⟩) rfl rfl I I I hL s a.K;rw [r1,bs,f1,bs,beq_self_eq_true];exact ad ⟨J,by show d'.Zs.length<=_;omega,by show d'.Zt.length<=_;omega,Sta.of h1 h2 r4 I I⟩
 ·obtain ⟨r,f1,d',r1,r2,r3,r4⟩:=Jn hN (v:=⟨7,i,⟨#[]⟩⟩) rfl rfl I hq I hL s (n:=a.N) (by have:=ha.n;omega);rw [r1,bs,f1,bs,beq_self_eq_true];exact ad ⟨J,by show d'.Zs.length<=_;omega,by show d'.Zt.length<=_;omega,Sta.of h1 h2 r4 (YM _) (YM _)⟩
 ·obtain ⟨r,f1,d',r1,r2,r3,r4⟩:=SW hN (v:=⟨7,i,⟨#[]⟩⟩) rfl rfl I I s (ha.v.prim ha.vn) I;rw [r1,bs,f1,bs,beq_self_eq_true];exact ad ⟨J,by show d'.Zs.length<=_;omega,by show d'.Zt.length<=_;omega,Sta.of h1 h2 r4 I I⟩
 ·obtain ⟨w',p,st,fr⟩:=Q7 hN (v:=⟨7,i,⟨#[]⟩⟩) rfl rfl I I s;obtain ⟨c',st⟩:=st;rw [p,bs];exact ad ⟨J,by show d.Zs.length<=_;omega,by show d.Zt.length<=_;omega,Sta.of h1 h2 ⟨c',st,fr⟩ I I⟩
 obtain ⟨g',i',R',c',m1,m2,m3,m4⟩:=Re s I h1;unfold lT;rw [bs,m1,bs,W9 rfl];exact ad ⟨J,by show d.Zs.length<=_;omega,by show d.Zt.length<=_;omega,⟨i',R',c',m3,by omega,m4.up I I⟩⟩
set_option maxRecDepth 20000
def TG:WO:=⟨0,1048576,50,100,0,0,0⟩
def wN0:WP:=match pG 64 TG with
 |some (.inr w)=>w.1
 |_=>default
theorem UB (K:Nat):pG (K+64) TG=some (.inr (wN0,0)):=by kernel_rfl
def HE (v:WZ):Bool:=decide (-9223372036854775808<=v.N)&&decide (v.N<=9223372036854775807)
theorem Ll (h:HE v=true):in64 v.N:=by
 unfold HE at h;rw [Ze,Y6,Y6] at h;exact h
def SI (g:W4)(c:W3):Bool:=bQ c&&((fP c).all (aZ g.m_)&&(!decide (c.Zh=8)&&(!decide (c.Zh=10)&&(c.Zj++c.Zi).all HE)))
def Pw (g:W4):Bool:=decide (ws g.m_.Zp+ws g.m_.Zr<=50)&&(decide (mS g.m_.Zp+mS g.m_.Zr<=0)&&(decide (g.ZA.length=20)&&(g.ZC.isEmpty&&(decide (g.ZD.at_.map Prod.fst=oo g.m_)&&((g.m_.Zp++g.m_.Zr).all (SI g)&&(g.ZA.all HE&&(dJ g.ZA).all (aZ g.m_)))))))
theorem Pv:Pw wN0.Zv=true:=by kernel_rfl
theorem Pu (h:Pw g=true):Pl g/\Hb 50 0 g/\g.ZA.length=20:=by
 unfold Pw at h;simp only [Ze,Y6,XA,List.isEmpty_iff] at h;obtain ⟨h1,h2,h3,h4,h5,h6,h7,h8⟩:=h
 have hc: ∀c∈g.m_.Zp++g.m_.Zr,bQ c=true/\(∀x∈fP c,aZ g.m_ x=true)/\c.Zh≠8/\c.Zh≠10/\ ∀v∈c.Zj++c.Zi,HE v=true:=fun c hc=>by
  have:=h6 c hc;unfold SI at this;simpa only [Ze,Y6,XA,Bool.not_eq_true',Y5] using this
 obtain ⟨n1,n2⟩:=JP h5;have hb:Hb 50 0 g:=⟨h1,h2,by omega⟩;exact ⟨⟨Rs I I hb h4 (fun c h v hv=>Ll ((hc c h).2.2.2.2 v hv)) (fun v hv=>Ll (h7 v hv)) n1 n2,h4,fun c h=>⟨(hc c h).1,(hc c h).2.1,(hc c h).2.2.1,(hc c h).2.2.2.1⟩,h8,Um h5⟩,hb,h3⟩
theorem Pl.root {k M:Nat}(hk:k<=580)(hM:M<=2200)(h:Pl g)(s:Hb k M ⟨g.m_,g.ZA++ [v],g.ZC,g.ZD⟩)(hv:aZ g.m_ v.N=true)(hi:in64 v.N):Pl ⟨g.m_,g.ZA++ [v],g.ZC,g.ZD⟩:=by
 refine ⟨Rs hk hM s h.pend h.hb.w64 (fun x hx=> ?_) h.hb.nd h.hb.keys,h.pend,h.cells,fun x hx=> ?_,h.set⟩
 ·rcases Yi.1 hx with hx|hx
  ·exact h.hb.r64 x (Xd _ hx)
  rw [Ys.1 hx];exact hi
 obtain ⟨y,hy,hb,rfl⟩:=tS.1 hx;rcases Yi.1 hy with hy|hy
 ·exact h.roots _ (tS.2 ⟨y,hy,hb,J⟩)
 rw [Ys.1 hy];exact hv
def p0:WZ:=rY wN0.Zv.ZA 2
theorem QT:wN0.Zv.ZA[2]? =some p0:=by kernel_rfl
theorem Uu:(decide (p0.Zh=7)&&(ln p0&&(HE p0&&aZ wN0.Zv.m_ p0.N)))=true:=by kernel_rfl
theorem MS:wN0.ZB=TG/\wN0.ZI=⟨0,0,0⟩:=⟨by kernel_rfl,by kernel_rfl⟩
theorem OJ:wN0.Zw=⟨[(⟨-1,⟨0,0,⟨#[]⟩⟩,0,0⟩:W2)],[]⟩:=by kernel_rfl
def tbN:WR:=⟨[(⟨-1,⟨0,0,⟨#[]⟩⟩,0,0⟩:W2)],[]⟩
theorem QJ {s:W2}(h:Has tbN i s):i=0/\s=⟨-1,⟨0,0,⟨#[]⟩⟩,0,0⟩:=by
 have h1:=h.lt
 have h0:i=0:=by
  have:((tbN.Zw.length:Nat):Int)=1:=rfl;omega
 subst h0;exact ⟨J,(YX h.2).symm⟩
theorem SR (N:Nat):TI N tbN:=by
 refine ⟨fun i s h=> ?_,fun k j h=>by cases h⟩;obtain ⟨-,rfl⟩:=QJ h;exact ⟨Xu _,by show (0:Int)<=1024;omega,fun h=>absurd h (by show¬(0:Int)<0;omega)⟩
def c0 (a0:List WZ):W3:=⟨2,0,1,0,[p0],a0⟩
def gA (a0:List WZ):W4:=⟨(xO wN0.Zv (c0 a0)).m_,wN0.Zv.ZA++ [(⟨7,om wN0.Zv,⟨#[]⟩⟩:WZ)],wN0.Zv.ZC,wN0.Zv.ZD⟩
theorem To {a0:List WZ}{N:Nat}(hN:20000<=N)(hl:a0.length<=200)(hp:∀x∈a0,PrimB x/\in64 x.N): ∃w v,tY N a0=some (.inr (w,v,true))/\ ∃r,gl N w v=some r/\Sta N 52 1 r.2 ⟨true,false,a0,[]⟩:=by
 obtain ⟨K,rfl⟩: ∃K,N=K+64:=⟨N - 64,by omega⟩;obtain ⟨pl,hb,hr⟩:=Pu Pv;have hp0:=Uu;simp only [Ze,Y6] at hp0;obtain ⟨q1,q2,q3,q4⟩:=hp0
 have hPr: ∀x∈a0,Prim x:=fun x hx=>(hp x hx).1.prim (hp x hx).2
 have hright:bQ (c0 a0)=true:=zt (.inr rfl) (by show (0:Int)<=0;omega) (by constructor<;>(first|(show (0:Int)<=1;omega)|(show (1:Int)<=63;omega))) (by constructor<;>(first|(show (0:Int)<=0;omega)|(show (0:Int)<=1;omega))) (fun x hx=>by rw [Ys.1 (show x∈[p0] from hx)];exact q2) (fun x hx=>(hPr x hx).may) (by show 1<=1025;omega) (z:=p0) rfl (.inr q1) (by show a0.length<=4096;omega) (fun h=>by cases h)
 have hrefs:Oz wN0.Zv.m_ (c0 a0):=fun x hx=>by
  rcases Yi.1 hx with hx|hx
  ·rw [Ys.1 (show x∈[p0] from hx)];exact ⟨Ll q3,fun _=>q4⟩
  exact ⟨(hPr x hx).i64,fun e=>by rw [(hPr x hx).no] at e;cases e⟩
 have a6:Hb 52 a0.length (xO wN0.Zv (c0 a0)):=Na hb _ (by show 50+1+1<=52;omega) (by show 0+a0.length<=a0.length;omega);obtain ⟨p1,p2,p3,p4⟩:=pl.addK I I hright ⟨by show (2:Int)≠8;decide,by show (2:Int)≠10;decide⟩ hrefs a6;have hi:=xa p1.hb.small p3;have a7:Hb 52 a0.length (gA a0):=⟨a6.hw,a6.hm,by show (wN0.Zv.ZA++ [_]).length<=30;rw [Za,hr,Ye];omega⟩;have p5:Pl (gA a0):=p1.root I I (v:=⟨7,om wN0.Zv,⟨#[]⟩⟩) a7 p3 hi
 have e1:eT (K+64) wN0 2=some p0:=by
  unfold eT;rw [show decide ((2:Int)<0)=false from rfl,cf,bs,show decide ((18:Int)<=2)=false from rfl,cf];have:=LW (K+64) QT;rw [show ((2:Nat):Int)=2 from rfl] at this;rw [this,bs]
 let w1:WP:=⟨⟨wN0.ZI.ZY,wN0.ZI.ZS+1,wN0.ZI.ZZ⟩,wN0.ZB,(),xO wN0.Zv (c0 a0),wN0.Zw,wN0.ZF,wN0.ZL,wN0.ZM,wN0.ZN,wN0.ZG,wN0.ZH⟩
 have hyl:=pl.hb.small.young;have hsz:(c0 a0).Zj.length<=600/\(c0 a0).Zi.length<=2900:=⟨by show 1<=600;omega,by show a0.length<=2900;omega⟩
 have e2:gm (K+64) wN0 (c0 a0)=some (⟨7,om wN0.Zv,⟨#[]⟩⟩,true,w1):=by
  have el:(((wN0.Zv.m_.Zp++ [c0 a0]).length:Nat):Int)=(wN0.Zv.m_.Zp.length:Int)+1:=by simp
  have em:eU (K+64) wN0.Zv (c0 a0)=some (om wN0.Zv,0,xO wN0.Zv (c0 a0)):=by
   unfold eU aR;rw [bs,cf,yW I I,bs,hright,nt,cf,pS _ _ hsz,bs];show aI (bm (wN0.Zv.m_.Zp.length+ [c0 a0].length)) (aI (in64 (2*((wN0.Zv.m_.Zp++ [c0 a0]).length:Int))) (aI (in64 (2*((wN0.Zv.m_.Zp++ [c0 a0]).length:Int) - 1)) (some (2*((wN0.Zv.m_.Zp++ [c0 a0]).length:Int) - 1,0,xO wN0.Zv (c0 a0)))))=_;rw [rF (by simp only [X9,Yc];omega),el,r64 I I,r64 I I,show 2*((wN0.Zv.m_.Zp.length:Int)+1) - 1=om wN0.Zv by unfold om;omega]
  unfold gm;rw [MS.1,MS.2,em];show (bif decide ((100:Int)<=0) then _ else _)=_;rw [show decide ((100:Int)<=0)=false from rfl,cf,bs];show (bif !decide ((0:Int)=0) then _ else _)=_;rw [W9 rfl,nt,cf,cj (by constructor<;>decide)];show some (_,true,(⟨⟨_,_,_⟩,_,_,_,_,_,_,_,_,_,_⟩:WP))=some (_,true,w1);show _=some (_,true,(⟨⟨wN0.ZI.ZY,wN0.ZI.ZS+1,wN0.ZI.ZZ⟩,wN0.ZB,(),xO wN0.Zv (c0 a0),wN0.Zw,wN0.ZF,wN0.ZL,wN0.ZM,wN0.ZN,wN0.ZG,wN0.ZH⟩:WP));rw [MS.1,MS.2]
 refine ⟨w1,⟨7,om wN0.Zv,⟨#[]⟩⟩,?_,?_⟩
 ·unfold tY;have en:pG (K+64) (⟨0,1048576,50,100,0,0,0⟩:WO)=some (.inr (wN0,0)):=UB K;rw [en,bs];show Option.bind (vq (K+64) wN0 a0) _=_;unfold vq;rw [e1,bs];show Option.bind (Option.bind (gm (K+64) wN0 (c0 a0)) _) _=_;rw [e2];rfl
 refine ⟨((((wN0.Zv.ZA++ [(⟨7,om wN0.Zv,⟨#[]⟩⟩:WZ)]).length:Nat):Int) - 1,⟨w1.ZI,w1.ZB,(),gA a0,w1.Zw,w1.ZF,w1.ZL,w1.ZM,w1.ZN,w1.ZG,w1.ZH⟩),?_,om wN0.Zv,wN0.Zv.ZA,c0 a0,J,by omega,⟨⟨p5,a7,?_,?_⟩,p3,p4,⟨.inr rfl,⟨p0,rfl,.inr q1⟩,(fun h=>by cases h),.nil (s:=⟨-1,⟨0,0,⟨#[]⟩⟩,0,0⟩) ?_ rfl,rfl,List.nodup_nil,by show ai .i64 1 16=0;decide+kernel⟩,(fun n p h=>by cases h),fun n m x y _ h=>by cases h⟩,rfl,rfl,by kernel_rfl,by kernel_rfl,⟨(fun p h=>by cases h),(fun p h=>by cases h),List.nodup_nil,fun x hx h8=>HF (hPr x hx).may h8⟩,(fun p h=>by cases h),hPr⟩
 ·unfold gl gt aR
  have hlen:(wN0.Zv.ZA++ [(⟨7,om wN0.Zv,⟨#[]⟩⟩:WZ)]).length=21:=by rw [Za,hr];rfl
  rw [bs,cf];show Option.bind (aI (bm (wN0.Zv.ZA.length+1)) (aI (in64 (((wN0.Zv.ZA++ [(⟨7,om wN0.Zv,⟨#[]⟩⟩:WZ)]).length:Int) - 1)) _)) _=_;rw [rF I,cj (by rw [hlen];constructor<;>decide)];rfl
 ·show TI _ wN0.Zw;rw [OJ];exact SR _
 ·show wN0.Zw.Zw.length<=1;rw [OJ];exact YM _
 show Has wN0.Zw 0 _;rw [OJ];exact ⟨Xu _,J⟩
set_option maxRecDepth 20000
theorem Ru (K:Nat):pt (K+200)=some true:=by kernel_rfl
theorem Lm {N:Nat}(hN:20000<=N):pt N=some true:=by
 obtain ⟨K,rfl⟩: ∃K,N=K+200:=⟨N - 200,by omega⟩;exact Ru K
set_option maxRecDepth 20000
theorem FA (N:Nat)(x:WZ):Sat (nl N x) fun b=>b=true->PrimB x:=by
 have eH:iq N=some cN:=rfl;unfold nl
 refine cB (P:=fun b=>b=true->PrimB x) (fun e=>by rw [FN,bs];exact ad fun h=> .inl ⟨Y8 e,h⟩) (fun _=>ad fun h=>by cases h) fun b hb=> ?_
 exact cB (P:=fun b=>b=true->PrimB x) (fun e=>ad fun _=>hb e) (fun _=>by rw [eH,bs];exact ad fun h=> .inr (Y8 h)) fun c hc=>ad hc
structure A64 (a:WQ):Prop where
 fv:in64 a.V.N
 fh:in64 a.D.Has
 fa:in64 a.D.Zk
 fn:in64 a.D.Value.N
theorem Hu {b:Bool}(h:(!b)=false):b=true:=by cases b<;>first|rfl|cases h
theorem HI {N:Nat}(a0:List WQ)(h64:∀a∈a0,A64 a): ∀(m j:Nat),40<m+j->j<=40->(∀jj x,jj<j->a0[jj]? =some x->ActOk x)->Sat (uN N a0 m (j:Int)) fun b=>b=true-> ∀jj x,jj<40->a0[jj]? =some x->ActOk x
 |0,j,h,h2,_=>by omega
 | m +1,j,h,h2,hk=>by
  rw [uN.eq_2]
  refine cB (P:=fun b=>b=true↔((j:Int)<(a0.length:Int)/\(j:Int)<40)) (fun e=>ad ⟨fun e2=>⟨Y8 e,Y8 e2⟩,fun h=>W9 h.2⟩) (fun e=>ad ⟨fun h=>(by cases h),fun h=>absurd h.1 (Y7 e)⟩) fun c hc=>dB (fun e2=> ?_) fun e2=> ?_
  ·obtain ⟨h4,h5⟩:=hc.1 e2
   refine qf I fun x hx=> ?_
   have hxm:=Yo hx;have h6:=h64 x hxm
   refine (FA N x.V).bind fun y9 h9=> ?_
   refine cB (P:=fun b=>b=false->PrimB x.V/\PrimB x.D.Value) (fun _=>ad fun h=>by cases h) (fun e=>(FA N x.D.Value).bind fun y hy=>ad fun h=>⟨h9 (Hu e),hy (Hu h)⟩) fun a8 h10=> ?_
   refine cB (P:=fun b=>b=false->(PrimB x.V/\PrimB x.D.Value)/\PrimB x.D.Zx) (fun _=>ad fun h=>by cases h) (fun e=>(FA N x.D.Zx).bind fun y hy=>ad fun h=>⟨h10 e,hy (Hu h)⟩) fun b12 h12=> ?_
   refine cB (P:=fun b=>b=false->((PrimB x.V/\PrimB x.D.Value)/\PrimB x.D.Zx)/\PrimB x.D.Zy) (fun _=>ad fun h=>by cases h) (fun e=>(FA N x.D.Zy).bind fun y hy=>ad fun h=>⟨h12 e,hy (Hu h)⟩) fun b0 h14=> ?_
   refine cB (P:=fun b=>b=false->((PrimB x.V/\PrimB x.D.Value)/\PrimB x.D.Zx)/\PrimB x.D.Zy) (fun _=>ad fun h=>by cases h) (fun e=>ad fun _=>h14 e) fun b16 h16=>dB (fun _=>ad fun h=>by cases h) fun a6=> ?_
   refine cB (P:=fun b=>b=false->x.N<=2000\/4096<x.N) (fun _=>ad fun h=>by have:=Y7 h;omega) (fun e=>ad fun _=>by have:=Y7 e;omega) fun b5 h18=> ?_
   refine cB (P:=fun b=>b=false->(x.N<=2000\/4096<x.N)/\(x.K.N<=2000\/4096<=x.K.N)) (fun _=>ad fun h=>by cases h) (fun e=>cB (P:=fun b=>b=false->x.K.N<=2000\/4096<=x.K.N) (fun _=>ad fun h=>by have:=Y7 h;omega) (fun e=>ad fun _=>by have:=Y7 e;omega) fun b6 h20=>ad fun h=>⟨h18 e,h20 h⟩) fun b7 h19=> ?_
   refine cB (P:=fun b=>b=false->((x.N<=2000\/4096<x.N)/\(x.K.N<=2000\/4096<=x.K.N))/\(x.D.Value.N<=2000\/4096<x.D.Value.N)) (fun _=>ad fun h=>by cases h) (fun e=>cB (P:=fun b=>b=false->x.D.Value.N<=2000\/4096<x.D.Value.N) (fun _=>ad fun h=>by have:=Y7 h;omega) (fun e=>ad fun _=>by have:=Y7 e;omega) fun b9 h22=>ad fun h=>⟨h19 e,h22 h⟩) fun c7 h21=>dB (fun _=>ad fun h=>by cases h) fun a7=> ?_
   obtain ⟨⟨⟨v1,v2⟩,v3⟩,v4⟩:=h16 a6;obtain ⟨⟨n1,n2⟩,n3⟩:=h21 a7;refine av (by constructor<;>omega) ?_
   have:=HI (N:=N) a0 h64 m (j+1) I I fun jj y hj hy=>by
    by_cases e:jj=j
    ·subst e;rw [hx] at hy;cases hy;exact ⟨v1,h6.fv,⟨h6.fh,h6.fa,h6.fn,v2,v3,v4⟩,n1,n2,n3⟩
    exact hk jj y I hy
   exact this
  have hn: ¬((j:Int)<(a0.length:Int)/\(j:Int)<40):=fun h=>by rw [hc.2 h] at e2;cases e2
  exact ad fun _ jj x hj hx=>by
   have:=(XZ.1 hx).1;exact hk jj x I hx
def VN (N:Nat)(a1:List WQ)(m:Nat)(j:Int)(w:WP)(d:W6):Option Bool:=jo N a1 m j w d.Ext d.Zz d.Zs d.Zt
theorem TU (N:Nat)(a1:List WQ)(m:Nat)(j:Int)(w:WP)(d:W6):VN N a1 (m+1) j w d=(bif decide (j<(a1.length:Int)) then (some (decide (j<40))) else (some false)).bind fun a6=>bif a6 then ((aq a1 j).bind fun a7=>(t6 N w d a7).bind fun y=>(bif !y.2.1 then (some true) else ((aq a1 j).bind fun b7=>(np N y.2.2 y.1 b7.K).bind fun b9=>some (!b9))).bind fun c7=>bif c7 then (some false) else (aI (in64 (j+1)) (VN N a1 m (j+1) y.2.2 y.1))) else ((cE N).bind fun a8=>(np N w d a8).bind fun b0=>(bif b0 then ((pt N).bind fun b5=>some b5) else (some false)).bind fun b6=>some b6):=rfl
theorem H6 {N:Nat}(hN:20000<=N)(a1:List WQ)(hok:∀jj x,jj<40->a1[jj]? =some x->ActOk x): ∀(m j:Nat) (w:WP) (d:W6),40<m+j->j<=40->d.Zs.length<=2101+j->d.Zt.length<=j->Sta N (52+8*j) (1+1024*1000*j) w d->Sat (VN N a1 m (j:Int) w d) (· =true)
 |0,j,w,d,h,h2,_,_,_=>by omega
 | m+1,j,w,d,h,h2,hE,hP,hS=>by
  rw [TU]
  refine cB (P:=fun b=>b=true↔((j:Int)<(a1.length:Int)/\(j:Int)<40)) (fun e=>ad ⟨fun e2=>⟨Y8 e,Y8 e2⟩,fun h=>W9 h.2⟩) (fun e=>ad ⟨fun h=>(by cases h),fun h=>absurd h.1 (Y7 e)⟩) fun c hc=>dB (fun e2=> ?_) fun e2=> ?_
  ·obtain ⟨h4,h5⟩:=hc.1 e2
   refine qf I fun x hx=> ?_
   refine (TE hN I I I I hS (hok j x I hx)).bind fun r hr=> ?_
   obtain ⟨r1,r2,r3,r4⟩:=hr;rw [r1,nt,cf,aM I,bs,MY hN I I r4,bs,bs,nt,cf];refine av (by constructor<;>omega) ?_
   have:=H6 hN a1 hok m (j+1) r.2.2 r.1 I I I I (by
    rw [show 52+8*(j+1)=52+8*j+8 by omega,show 1+1024*1000*(j+1)=1+1024*1000*j+1024*1000 by omega]
    exact r4)
   exact this
  have eL:cE N=some lenK:=rfl;rw [eL,bs,MY hN I I hS lenK,bs,ct,Lm hN,bs,bs];exact ad J
theorem DL {N:Nat}(hN:20000<=N)(a0:List WZ)(h64:∀x∈a0,in64 x.N)(a1:List WQ)(hl:a0.length<=200)(hok:∀jj x,jj<40->a1[jj]? =some x->ActOk x): ∀(m j:Nat),a0.length<m+j->j<=a0.length->(∀jj x,jj<j->a0[jj]? =some x->PrimB x)->Sat (mQ N a0 a1 m (j:Int)) (· =true)
 |0,j,h,h2,_=>by omega
 | m +1,j,h,h2,hk=>by
  rw [mQ.eq_2]
  refine aC (fun h4=> ?_) fun h4=> ?_
  ·refine qf I fun x hx=>(FA N x).bind fun b hb=>dB (fun _=> ?_) fun e=> ?_
   ·rw [Lm hN,bs];exact ad J
   refine av (by constructor<;>omega) ?_
   have:=DL hN a0 h64 a1 hl hok m (j+1) I I fun jj y hj hy=>by
    by_cases e2:jj=j
    ·subst e2;rw [hx] at hy;cases hy;exact hb (Hu e)
    exact hk jj y I hy
   exact this
  have hp: ∀x∈a0,PrimB x/\in64 x.N:=fun x hx=>by
   obtain ⟨jj,hj,e⟩:=X8 hx;exact ⟨hk jj x I (by rw [XX hj,e]),h64 x hx⟩
  obtain ⟨w,v,e1,r,e2,hS⟩:=To hN hl hp
  have eN:zv N a0=some ⟨true,false,a0,[]⟩:=by
   unfold zv;rw [rF (by rw [Yc];omega),Zf]
  unfold qa;rw [e1,bs];show Sat (bif !true then some false else _) _;rw [nt,cf];show Sat (Option.bind (gl N w v) _) _;rw [e2,bs,eN,bs];have:=H6 hN a1 hok N 0 r.2 ⟨true,false,a0,[]⟩ I I (by show a0.length<=_;omega) (YM _) hS;exact this
theorem QQ {N:Nat}(hN:20000<=N)(a0:List WZ)(a1:List WQ)(h0:∀x∈a0,in64 x.N)(h1:∀a∈a1,A64 a):nL N a0 a1=some true:=by
 apply Sat.eq;unfold nL
 refine cB (P:=fun b=>b=false->a0.length<=200/\ ∀jj x,jj<40->a1[jj]? =some x->ActOk x) (fun _=>ad fun h=>by cases h) (fun e=> ?_) fun b hb=>dB (fun _=> ?_) fun e=> ?_
 ·unfold AB
  refine (HI (N:=N) a1 h1 N 0 I I fun jj x h=>by omega).bind fun y hy=>ad fun h=>⟨by have:=Y7 e;omega,hy (Hu h)⟩
 ·rw [Lm hN,bs];exact ad J
 obtain ⟨hl,hok⟩:=hb e
 exact DL hN a0 h0 a1 hl hok N 0 I I fun jj x h=>by omega
theorem NE {a0:List WZ} {a1:List WQ}(h0:UU (fun z=>rd z) a0)(h1:UU (fun z=>Ic z) a1):nL 20000 a0 a1=some true:=
 QQ (by decide) a0 a1 (fun x hx=>(h0.2 x hx).2.1) fun a ha=>by
  have h:=h1.2 a ha;exact ⟨h.2.2.2.2.2.1,h.2.2.2.1.1,h.2.2.2.1.2.1,h.2.2.2.1.2.2.1.2.1⟩
open Go.ChangeShapes Go.WideShapes Go.ChangeAt Go.RowKit Go.Deep
theorem gHole:Tryz.prog.globalNamed "pantomime/array.hole" =some 0:=by kernel_rfl
theorem tHole:(Tryz.prog.globals[0]?).map (·.type)=some 28:=by kernel_rfl
set_option maxRecDepth 100000 in
theorem N2 {hJ:World}(h:laidMetH Xk [("pantomime/array.hole",Rows.laid_pantomime_array_hole)] hJ):(aW 0 28 [.int .i64 8,.int .i64 0,.string ⟨#[]⟩]).ok (fun _=>False) (fun q=>q<hJ.heap.size) hJ:=by
 rw [MakeChecks.laidMetH_plain _ _ _ O] at h;obtain ⟨ps,⟨g0,t0,cs0,f0,p0,q0,hg0,ht0,hv0,hd0, -⟩, -, -⟩:=h;obtain rfl:=YX (gHole.symm.trans hg0);obtain rfl:=YX (tHole.symm.trans ht0);obtain ⟨xs,m,rfl,hx,hl,hn,hf⟩:=DataW.trod_struct WJ hd0
 have hc:Tryz.prog.cellsOf 28=3:=by kernel_rfl
 have z3:Tryz.prog.cellsOf 3=1:=by kernel_rfl
 have z9:Tryz.prog.cellsOf 9=1:=by kernel_rfl
 rw [hc] at hl;obtain ⟨l⟩:=cs0;have hn':xs.length=3:=hn
 match l,xs,hl,hn',hf,hv0,hx with
 | [c0,c1,c2],[x0,x1,x2],_,_,hf,hv0,hx=>
  have k0:DataW.trod (fun _=>()) Xk hJ 0 (fun _=>true) false m 3 (List.take (Tryz.prog.cellsOf 3) (List.drop 0 [c0,c1,c2]))=[x0,x1,x2][0]? :=hf 0 _ rfl;have k1:DataW.trod (fun _=>()) Xk hJ 0 (fun _=>true) false m 3 (List.take (Tryz.prog.cellsOf 3) (List.drop 1 [c0,c1,c2]))=[x0,x1,x2][1]? :=hf 1 _ rfl;have k2:DataW.trod (fun _=>()) Xk hJ 0 (fun _=>true) false m 9 (List.take (Tryz.prog.cellsOf 9) (List.drop 2 [c0,c1,c2]))=[x0,x1,x2][2]? :=hf 2 _ rfl;simp only [z3,z9,XI,XJ,YD,YE,XV,XU] at k0 k1 k2;obtain ⟨n0,e0,d0, -⟩:=DataW.trod_int WB k0;obtain ⟨n1,e1,d1, -⟩:=DataW.trod_int WB k1;obtain ⟨s2,e2,d2, -⟩:=DataW.trod_string Wz k2
  have hx':[(DataW.lit (.int .i64 8):DataW Unit),.lit (.int .i64 0),.lit (.string [])]=[x0.1,x1.1,x2.1]:=by
   have:=congrArg Prod.fst hx;exact DataW.agg.inj this
  rw [d0,d1,d2] at hx';simp only [XD,DataW.lit.injEq,Lit.int.injEq,Lit.string.injEq,and_true,true_and] at hx';obtain ⟨rfl,rfl,hs⟩:=hx';obtain rfl:=(XC e0).1;obtain rfl:=(XC e1).1;obtain rfl:=(XC e2).1
  have hs2:s2=⟨#[]⟩:=by
   obtain ⟨⟨a⟩⟩:=s2;simp only at hs;rw [<-hs]
  subst hs2;simp only [World.var?,gHole,YU] at hv0;split at hv0
  ·rename_i cs t p hh
   obtain rfl:=bJ hv0;have hr:RBlk hJ 0 #[.int .i64 8,.int .i64 0,.string ⟨#[]⟩]:=⟨t,p,hh⟩;exact ⟨hr.lt,hr⟩
  cases hv0
end
end Go.Proofs.YtmcifcmlojonnaaGreatDoor