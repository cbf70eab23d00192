/- Merged texts: part 8. No conditions of their own. -/
import Derived.Test.YtmcifcmlojonnaaGreatDoorG7
import Derived.ProofKit
import Derived.IntWalk
namespace Go.Proofs.YtmcifcmlojonnaaGreatDoor
variable (N:Nat){a x:Int}{p:Int->Bool}{ρ:Int->Int}{kv:List (Int×Bool)}{met:List (Int×Unit)}{f live lv row:List Int}{l:List WK}{i k:Nat}{F:Nat->WK->Bool}{α β σ:Type}{c:WI}{v:WK}{m:WO}
section
open Go.RowKit
theorem NR (N:Nat)(k:Int):wS N k=lr N k:=by
 unfold wS lr kk;by_cases h1:k=1
 ·subst h1;rfl
 by_cases h2:k=2
 ·subst h2;rfl
 by_cases h3:k=3
 ·subst h3;rfl
 by_cases h6:k=6
 ·subst h6;rfl
 by_cases h8:k=8
 ·subst h8;rfl
 by_cases h9:k=9
 ·subst h9;rfl
 by_cases h10:k=10
 ·subst h10;rfl
 rw [jg h1,jg h2,jg h3,jg h6,jg h8,jg h9,jg h10];rfl
theorem OA (N:Nat)(c:WI):kj N c=ke N c:=by
 unfold kj ke;rw [NR];rfl
theorem Tb (N:Nat)(v:WK):wR N v=dL N v:=by
 unfold wR dL rY;by_cases h5:v.Za=5
 ·rw [h5];rfl
 rw [jg h5];simp only [cf];by_cases hr:v.Za<0\/9<v.Za
 ·have h2:v.Za≠2:=by omega
  have h3:v.Za≠3:=by omega
  have h6:v.Za≠6:=by omega
  have h7:v.Za≠7:=by omega
  have h9:v.Za≠9:=by omega
  have e1:((bif decide (v.Za<0) then (some true) else (some (decide (9<v.Za)))):Option Bool)=some true:=by
   rcases hr with h|h
   ·rw [fO h];rfl
   rw [fO (a:=9) h];cases decide (v.Za<0)<;>rfl
  rw [e1,bs,ct,jg h2,jg h3,jg h6,jg h7,jg h9];simp only [cf]
  have e2:(((bif decide (v.N=0) then (some (decide (0<=v.Za))) else (some false)).bind fun a6=>(bif a6 then (some (decide (v.Za<=9))) else (some false)).bind fun a7=>some a7):Option Bool)=some false:=by
   cases decide (v.N=0)
   ·rfl
   rcases hr with h|h
   ·rw [Q8 (a:=0) (b:=v.Za) I];rfl
   rw [Q8 (a:=v.Za) (b:=9) I];cases decide (0<=v.Za)<;>rfl
  rw [e2];cases s:(v.S.toList==(⟨#[]⟩:ByteArray).toList)<;>rfl
 have e1:((bif decide (v.Za<0) then (some true) else (some (decide (9<v.Za)))):Option Bool)=some false:=by
  rw [fD (a:=v.Za) (b:=0) I,fD (a:=9) (b:=v.Za) I];rfl
 rw [e1,bs,cf];cases hs:(v.S.toList==(⟨#[]⟩:ByteArray).toList)
 ·rfl
 simp only [nt,cf];by_cases h2:v.Za=2
 ·rw [h2];rfl
 rw [jg h2];simp only [cf];by_cases h3:v.Za=3
 ·rw [h3];rfl
 rw [jg h3];simp only [cf];by_cases h6:v.Za=6
 ·rw [h6];rfl
 rw [jg h6];simp only [cf];by_cases h7:v.Za=7
 ·rw [h7];rfl
 rw [jg h7];simp only [cf];by_cases h9:v.Za=9
 ·rw [h9];rfl
 rw [jg h9,Q7 (a:=0) I,Q7 (a:=v.Za) I];cases decide (v.N=0)<;>rfl
theorem Jx (N:Nat)(v:WK): ∃b,dL N v=some b:=by
 unfold dL;cases decide (v.Za<0)<;>cases decide (9<v.Za)<;>cases decide (v.Za=5)<;>cases decide (v.N=0)<;>cases (v.S.toList==(⟨#[]⟩:ByteArray).toList)<;>cases decide (v.Za=2)<;>cases decide (v.Za=3)<;>cases decide ((-9007199254740992)<=v.N)<;>cases decide (v.Za=6)<;>cases decide (v.Za=7)<;>cases decide (v.Za=9)<;>exact ⟨_,rfl⟩
theorem Cs (N k:Nat)(hk:k=2\/k=4)(l:List WK)(hl:l.length<=2900): ∀(m i:Nat),l.length<m+i->i<=l.length->(l.length - i)%k=0-> ∃b,ia N (k:Int) l m (i:Int)=some b/\
  jM N (cM (fun x st=>bY N (k:Int) x st)) l (k:Int) m (i:Int) (none,())=some (bif b then (none,()) else (some .ret,()))
 |0,i,h,h2,_=>by omega
 | m + 1,i,h,h2,h3=>by
  by_cases hi:i<l.length
  ·have hik:i+k<=l.length:=by
    rcases hk with rfl|rfl<;>omega
   have hmin:(min (k:Int) (((l.drop (i:Int).toNat).take (l.length - (i:Int).toNat)).length:Int))=k:=by
    rw [YX,XW,Xm];omega
   have hto:((i:Int)+(k:Int)).toNat=i+k:=by omega
   have hx: ∀j,j<k->au ((l.drop i).take k) (j:Int)=l[i+j]? :=fun j hj=>by
    rw [oJ,XR,if_pos hj,XK]
   have a6:=hx 0 I;have a7:=hx 1 I;rw [XL I] at a6 a7;have c7:au l (i:Int)=some l[i]:=aK hi
   have c8:au l ((i:Int)+1)=some (l[i+1]'I):=by
    have:=aK (xs:=l) (i:=i+1) I;simpa using this
   obtain ⟨b,b0,b5⟩:=Cs N k hk l hl m (i+k) I hik (by rcases hk with rfl|rfl<;>omega);simp only [Xj] at b0 b5
   have fin: ∀b',(bif b' then some false else aG (in64 ((i:Int)+(k:Int))) (ia N (k:Int) l m ((i:Int)+(k:Int))))=some (bif b' then false else b):=fun b'=>by
    cases b'
    ·rw [cf,r64 I I,b0];rfl
    rfl
   have fin2: ∀b':Bool,((bif b' then (some (some Exit.ret,())) else (some (none,())):Option (Option Exit×Unit)).map fun r=>(r.1.isNone,r))=some (!b',(bif b' then some Exit.ret else none,())):=fun b'=>by cases b'<;>rfl
   have goal: ∀b',((some (!b',((bif b' then some Exit.ret else none:Option Exit),())):Option (Bool×(Option Exit×Unit))).bind fun a8=>bif !a8.1 then (some a8.2) else (aG (in64 ((i:Int)+(k:Int))) ((jM N (cM (fun x st=>bY N (k:Int) x st)) l (k:Int) m) ((i:Int)+(k:Int)) a8.2)))=some (bif (bif b' then false else b) then (none,()) else (some .ret,())):=fun b'=>by
    cases b'
    ·rw [bs];simp only [nf,nt,cf];rw [r64 I I];exact b5
    rfl
   have lift: ∀(x:List WK) (b':Bool),bY N (k:Int) x ()=(bif b' then (some (some Exit.ret,())) else (some (none,())))->cM (fun x st=>bY N (k:Int) x st) x (none,())=some (!b',(bif b' then some Exit.ret else none,())):=fun x b' hb=>by
    unfold cM;simp only [hb];exact fin2 b'
   have key: ∃b',((au l (i:Int)).bind fun x8=>(bif !decide (x8.Za=7) then (some true) else (aG (in64 ((i:Int)+1)) ((au l ((i:Int)+1)).bind fun c9=>some (decide (c9.Za=8))))).bind fun b9=>bif b9 then (some false) else ((bif decide ((k:Int)=4) then (aG (in64 ((i:Int)+2)) ((au l ((i:Int)+2)).bind fun d0=>(dU N d0 7).bind fun d1=>(bif !d1 then (some true) else (aG (in64 ((i:Int)+3)) ((au l ((i:Int)+3)).bind fun d2=>(io N d2 0 9007199254740992).bind fun d3=>some (!d3)))).bind fun d4=>some d4)) else (some false)).bind fun d6=>bif d6 then (some false) else (aG (in64 ((i:Int)+(k:Int))) ((ia N (k:Int) l m) ((i:Int)+(k:Int))))))=some (bif b' then false else b)/\bY N (k:Int) ((l.drop i).take k) ()=(bif b' then (some (some Exit.ret,())) else (some (none,()))):=by
    unfold bY;simp only [Xh,Int.natCast_zero,Int.natCast_one] at a6 a7;rw [c7,bs,r64 (a:=(i:Int)+1) I I,c8,bs];have hk0':au ((l.drop i).take k) 0=some l[i]:=a6;have hk1':au ((l.drop i).take k) 1=some (l[i+1]'I):=a7;simp only [hk0',bs,hk1'];cases h7:(!decide (l[i].Za=7))
    ·simp only [cf,bs];cases h8:decide ((l[i+1]'I).Za=8)
     ·simp only [cf];rcases hk with rfl|rfl
      ·simp only [show decide (((2:Nat):Int)=4)=false from rfl,cf,bs];have f:=fin false;rw [cf] at f;refine ⟨false,?_,J⟩;exact f
      have b6:=hx 2 I;have b7:=hx 3 I;rw [XL I] at b6 b7;have hk2':au ((l.drop i).take 4) 2=some (l[i+2]'I):=b6;have hk3':au ((l.drop i).take 4) 3=some (l[i+3]'I):=b7
      have e0:au l ((i:Int)+2)=some (l[i+2]'I):=by
       have:=aK (xs:=l) (i:=i+2) I;simpa using this
      have e3:au l ((i:Int)+3)=some (l[i+3]'I):=by
       have:=aK (xs:=l) (i:=i+3) I;simpa using this
      simp only [show decide (((4:Nat):Int)=4)=true from rfl,ct];rw [r64 (a:=(i:Int)+2) I I,e0,bs,hk2',bs,r64 (a:=(i:Int)+3) I I,e3,bs,hk3']
      have en: ∀v,iZ N v 7=dU N v 7:=fun v=>rfl
      have em: ∀v,ja N v 0 9007199254740992=io N v 0 9007199254740992:=fun v=>rfl
      have hn: ∃b1,dU N (l[i+2]'I) 7=some b1:=by unfold dU;cases decide ((l[i+2]'I).Za=0)<;>exact ⟨_,rfl⟩
      have hm: ∃b1,io N (l[i+3]'I) 0 9007199254740992=some b1:=by unfold io;cases decide ((l[i+3]'I).Za=3)<;>cases decide (0<=(l[i+3]'I).N)<;>exact ⟨_,rfl⟩
      obtain ⟨b1,hn⟩:=hn;obtain ⟨b2,hm⟩:=hm;simp only [bs,en,em,hn,hm];cases b1
      ·simp only [nf,ct,bs];exact ⟨true,J,J⟩
      simp only [nt,cf,bs];exact ⟨!b2,fin (!b2),by cases b2<;>rfl⟩
     exact ⟨true,J,J⟩
    exact ⟨true,J,J⟩
   obtain ⟨b',e1,e2⟩:=key;refine ⟨bif b' then false else b,?_,?_⟩
   ·rw [ia.eq_2,fO I,ct];exact e1
   rw [jM.eq_2,fO I,ct,hmin,cF (show (0:Int)<=(i:Int)/\(i:Int).toNat<=l.length/\l.length<=l.length from ⟨by omega,by omega,YA _⟩),r64 (a:=(i:Int)+(k:Int)) I I,r64 (a:=(i:Int)+(k:Int)) I I];rw [cF (show (0:Int)<=(i:Int)/\(0:Int)<=(i:Int)+(k:Int)/\(i:Int).toNat<=((i:Int)+(k:Int)).toNat/\((i:Int)+(k:Int)).toNat<=l.length from ⟨by omega,by omega,by omega,by omega⟩),hto,Xm,show i+k - i=k by omega,lift _ b' e2];exact goal b'
  rw [ia.eq_2,jM.eq_2,fD I,cf,cf];exact ⟨true,J,J⟩
theorem um (N:Nat)(hN:6500<N)(k:Nat)(hk:k=2\/k=4)(l:List WK)(hl:l.length<=2900): ∃b,dX N l (k:Int)=some b/\df N l (k:Int)=some b/\(b=true->l.length%k=0):=by
 unfold dX df
 have a6:(k:Int)≠0:=by rcases hk with rfl|rfl<;>decide
 rw [cF a6,cF a6]
 have ht:(l.length:Int).tmod (k:Int)=((l.length%k:Nat):Int):=by
  rw [Xl I];rfl
 rw [ht];by_cases h:l.length%k=0
 ·rw [tc I];obtain ⟨b,h1,h2⟩:=Cs N k hk l hl N 0 I I (by simpa using h)
  have e:lE N l (k:Int)=some ():=by
   unfold lE;rw [fD (by rcases hk with rfl|rfl<;>omega),cf]
  unfold tL;simp only [nt,cf,e,bs];have h1':ia N (k:Int) l N 0=some b:=h1;have h2':jM N (cM (fun x st=>bY N (k:Int) x st)) l (k:Int) N 0 (none,())=some (bif b then (none,()) else (some .ret,())):=h2;rw [h1',h2',bs];exact ⟨b,by cases b<;>rfl,rfl,fun _=>h⟩
 rw [jg I];exact ⟨false,J,J,fun h=>by cases h⟩
theorem QY (N:Nat)(hN:6500<N)(c:WI)(hc:c.Zb.length<=2900):lg N c.Za c.Zb=lS N c:=by
 obtain ⟨b2,h2,h2', -⟩:=um N hN 2 (.inl rfl) c.Zb hc;obtain ⟨b4,h4,h4', -⟩:=um N hN 4 (.inr rfl) ((c.Zb.drop ((1:Int).toNat)).take (c.Zb.length - (1:Int).toNat)) (by rw [YX,XW];omega);have e2:dX N c.Zb 2=df N c.Zb 2:=h2.trans h2'.symm;have e4:dX N ((c.Zb.drop ((1:Int).toNat)).take (c.Zb.length - (1:Int).toNat)) 4=df N ((c.Zb.drop ((1:Int).toNat)).take (c.Zb.length - (1:Int).toNat)) 4:=h4.trans h4'.symm;unfold lg lS mU lq;rw [e2,e4];rfl
theorem Jy (N:Nat)(c:WI)(b:Bool)(v:WK): ∃y,dL N v=some y/\cM (fun x st=>ij N c x st) (b,v) (none,())=some (y,(bif y then none else some Exit.ret,())):=by
 obtain ⟨y,hy⟩:=Jx N v;refine ⟨y,hy,?_⟩;unfold cM ij;simp only [Tb,hy,bs];cases y<;>rfl
theorem EV (N:Nat)(c:WI)(hc:c.Zb.length<=2900): ∀(m i:Nat),c.Zb.length<m+i->i<=c.Zb.length-> ∃b,oH N c m (i:Int)=(bif b then dg N c else some false)/\
  ms N (cM (fun x st=>ij N c x st)) c m (i:Int) (none,())=some (bif b then none else some Exit.ret,())
 |0,i,h,h2=>by omega
 | m+1,i,h,h2=>by
  rw [oH.eq_2,ms.eq_2];by_cases hi:i<c.Zb.length
  ·rw [fO I,ct,ct,aK hi,bs,bs]
   have hs:(bif !decide (c.Za=8) then ((bif !decide (c.Za=10) then (some true) else (some (decide ((i:Int).tmod 2=0)))).bind fun a6=>some a6) else (some false))=some (mL c.Za i):=by
    unfold mL;cases decide (c.Za=8)<;>cases decide (c.Za=10)<;>rfl
   obtain ⟨y,h3,h4⟩:=Jy N c (mL c.Za i) c.Zb[i];rw [hs,bs,h3,h4,bs,bs];cases y
   ·simp only [nf,nt,ct,cf];exact ⟨false,cf.symm,by rw [cf]⟩
   obtain ⟨b,h5,h6⟩:=EV N c hc m (i+1) I hi;simp only [Xj,Xh] at h5 h6;simp only [nt,cf,ct];rw [r64 I I,r64 I I];exact ⟨b,h5,h6⟩
  rw [fD I,cf,cf];exact ⟨true,ct.symm,by rw [ct]⟩
theorem uE (N:Nat)(hN:6500<N)(c:WI)(hS:c.Zc.length<=1000)(hc:c.Zb.length<=2900): ∀(m i:Nat),c.Zc.length<m+i->i<=c.Zc.length-> ∃b,iW N c m (i:Int)=(bif b then dg N c else some false)/\
  li N (cM (fun x st=>ij N c x st)) c m (i:Int) (none,())=some (bif b then none else some Exit.ret,())
 |0,i,h,h2=>by omega
 | m+1,i,h,h2=>by
  rw [iW.eq_2,li.eq_2];by_cases hi:i<c.Zc.length
  ·rw [fO I,ct,ct,aK hi,bs,bs];obtain ⟨y,h3,h4⟩:=Jy N c true c.Zc[i];rw [h3,h4,bs,bs];cases y
   ·simp only [nf,nt,ct,cf];exact ⟨false,cf.symm,by rw [cf]⟩
   obtain ⟨b,h5,h6⟩:=uE N hN c hS hc m (i+1) I hi;simp only [Xj,Xh] at h5 h6;simp only [nt,cf,ct];rw [r64 I I,r64 I I];exact ⟨b,h5,h6⟩
  rw [fD I,cf,cf];exact EV N c hc N 0 I I
theorem Bi (N:Nat)(hN:6500<N)(c:WI)(hS:c.Zc.length<=1000)(hc:c.Zb.length<=2900):gM N c=fQ N c:=by
 unfold gM fQ oN
 have hAge:((bif !decide (c.Zf=0) then (some (!decide (c.Zf=1))) else (some false)).bind fun a6=>some a6)=(some (decide (c.Zf<0)||decide (1<c.Zf)):Option Bool):=by
  by_cases h0:c.Zf=0
  ·rw [h0];rfl
  by_cases h1:c.Zf=1
  ·rw [h1];rfl
  rw [jg h0,jg h1];by_cases h2:c.Zf<0
  ·rw [fO h2];rfl
  rw [fO (a:=1) (b:=c.Zf) I,fD (a:=c.Zf) I];rfl
 obtain ⟨b,h1,h2⟩:=uE N hN c hS hc N 0 I I;have h1':iW N c N 0=(bif b then dg N c else some false):=h1;have h2':li N (cM (fun x st=>ij N c x st)) c N 0 (none,())=some (bif b then none else some Exit.ret,()):=h2;have e:ur N c=some ():=rfl;rw [hAge,h1',h2',e]
 have tail:((some ()).bind fun (b6:Unit)=>(some ((bif b then none else some Exit.ret:Option Exit),())).bind fun a7=>qN a7.1 ((kj N c).bind fun a8=>(bif a8 then ((lg N c.Za c.Zb).bind fun b0=>some b0) else (some false)).bind fun b5=>some b5) (some false) (fun _=>none))=(bif b then dg N c else some false):=by
  cases b
  ·rfl
  rw [OA,QY N hN c hc];rfl
 rw [tail];cases decide (c.Za<1)<;>cases decide (11<c.Za)<;>cases decide (c.Zi<0)<;>cases decide (c.Ze<0)<;>cases decide (63<c.Ze)<;>cases decide (c.Zf<0)<;>cases decide (1<c.Zf)<;>rfl
theorem OU {m:Option Bool}{x:Bool}:m=some x->(m.bind fun b=>some b)=some x:=fun h=>by rw [h];rfl
theorem Kq (N:Nat)(hN:6500<N)(c:WI)(hS:c.Zc.length<=1000)(hc:c.Zb.length<=2900)(h8:c.Za=8): ∃b,fQ N c=some b/\(b=true->c.Zb.length%2=0):=by
 obtain ⟨b1,g1, -⟩:=uE N hN c hS hc N 0 I I;have g1':iW N c N 0=(bif b1 then dg N c else some false):=g1;obtain ⟨b2, -,h2,h3⟩:=um N hN 2 (.inl rfl) c.Zb hc
 have hm:lS N c=some b2:=by
  unfold lS lq;rw [h8,fD I];show ((df N c.Zb 2).bind fun a6=>some a6)=_;exact OU h2
 have hs: ∃b3,ke N c=some b3:=by
  unfold ke;rw [h8];have:lr N 8=some true:=rfl;rw [this,bs,ct,bs,ct];by_cases hl:1<=(c.Zc.length:Int)
  ·rw [Q7 hl,ct,bs,Rj (xs:=c.Zc) (i:=0) I I,bs];cases decide ((c.Zc.length:Int)<=1025)
   ·exact ⟨_,J⟩
   cases decide (c.Zc[(0:Int).toNat].Za=1)<;>exact ⟨_,rfl⟩
  rw [Q8 I];exact ⟨_,J⟩
 obtain ⟨b3,hs⟩:=hs
 have hj:dg N c=some (b3&&b2):=by
  unfold dg;rw [hs,hm];cases b3<;>rfl
 unfold fQ;rw [g1',hj]
 have fin: ∃b,((bif b1 then some (b3&&b2) else some false):Option Bool)=some b/\(b=true->c.Zb.length%2=0):=by
  cases b1
  ·exact ⟨false,J,fun h=>by cases h⟩
  exact ⟨b3&&b2,J,fun h=>h3 (by cases b3<;>cases b2<;>first|rfl|cases h)⟩
 obtain ⟨b,e1,e2⟩:=fin;rw [e1];have ff: ∃b',(some false:Option Bool)=some b'/\(b'=true->c.Zb.length%2=0):=⟨false,rfl,fun h=>by cases h⟩
 cases decide (c.Za<1)<;>cases decide (11<c.Za)<;>cases decide (c.Zi<0)<;>cases decide (c.Ze<0)<;>cases decide (63<c.Ze)<;>cases decide (c.Zf<0)<;>cases decide (1<c.Zf)<;>first|exact ff|exact ⟨b,rfl,e2⟩
def uh (c:WI):Bool:=decide (c.Za=8)&&(fQ N c).getD false
theorem KZ (N:Nat)(hN:6500<N)(c:WI)(hS:c.Zc.length<=1000)(hc:c.Zb.length<=2900):Fa N c=some (uh N c)/\vC N c=some (uh N c)/\(uh N c=true->c.Zb.length%2=0):=by
 unfold Fa vC uh;rw [Bi N hN c hS hc];by_cases h8:c.Za=8
 ·obtain ⟨b,h1,h2⟩:=Kq N hN c hS hc h8;rw [h1,h8];exact ⟨J,J,h2⟩
 rw [jg h8];exact ⟨J,J,fun h=>by cases h⟩
abbrev IS {ρ:Type}(m:Option ρ):Prop:=Sat m fun _=>True
theorem bh {ρ:Type}(x:ρ):IS (some x):=ac trivial
theorem mK {ρ:Type}{b:Bool}{x y:Option ρ}(hx:b=true->IS x)(hy:b=false->IS y):IS (bif b then x else y):=dx hx hy
theorem BN (N:Nat)(v:WK)(a b:Int):IS (io N v a b):=by
 unfold io
 refine Sat.bind (P:=fun _=>True) (mK (fun _=>bh _) fun _=>bh _) fun x _=>Sat.bind (P:=fun _=>True) (mK (fun _=>bh _) fun _=>bh _) fun y _=>bh _
theorem yn (N:Nat)(v:WK)(a:Int):IS (dU N v a):=by
 unfold dU
 exact Sat.bind (P:=fun _=>True) (mK (fun _=>bh _) fun _=>bh _) fun x _=>bh _
theorem yV {c:Bool}{m:Option Bool}(h:c=true->IS m):IS (bif c then m else some false):=mK h fun _=>bh _
theorem xD {f:WK->Option Bool}(hi:i<l.length)(h:∀v,IS (f v)):IS ((au l (i:Int)).bind f):=by
 rw [aK hi,bs];exact h _
theorem fi {m:Option Bool}{f:Bool->Option Bool}(h:IS m)(k:∀b,IS (f b)):IS (m.bind f):=Sat.bind h fun b _=>k b
theorem tr {m:Option Bool}{p:Prop}{f:Bool->Option Bool}(h:Sat m fun b=>b=true->p)(k:∀b,(b=true->p)->IS (f b)):IS (m.bind f):=Sat.bind h k
theorem Na (N:Nat)(c:WI):IS (ke N c):=by
 unfold ke
 have hp:IS (lr N c.Za):=by
  unfold lr
  iterate 6 refine fi (mK (fun _=>bh _) fun _=>bh _) fun _=> ?_
  exact bh _
 refine fi hp fun y=>fi (mK (fun _=>bh _) fun _=>fi (mK (fun _=>bh _) fun _=>bh _) fun _=>bh _) fun b=> ?_
 refine mK (fun _=> ?_) fun _=> ?_
 ·refine tr (p:=0<c.Zc.length) (az (fun h=>ac fun _=>by omega) fun _=>ac fun h=>by cases h) fun b hb=>fi (yV fun h=> ?_) fun _=>bh _
  have h0:=hb h
  refine xD (i:=0) h0 fun v=>fi (mK (fun _=>bh _) fun _=>xD (i:=0) h0 fun _=>bh _) fun _=>bh _
 refine mK (fun _=>bh _) fun _=>fi (mK (fun _=>bh _) fun _=>bh _) fun _=>mK (fun _=>bh _) fun _=>dx (fun _=> ?_) fun _=>bh _
 refine tr (p:=1<c.Zc.length) (az (fun h=> ?_) fun _=>ac fun h=>by cases h) fun b hb=>fi (yV fun h=> ?_) fun _=>bh _
 ·rw [show ((0:Int))=((0:Nat):Int) from rfl,aK I,bs];obtain ⟨x,hx, -⟩:=yn N c.Zc[0] 7
  rw [hx,bs];exact ac fun _=>by omega
 refine xD (i:=1) (hb h) fun v=>fi (yn N v 7) fun _=>bh _
theorem Lu {m:WK->Option Bool}(hi:i<l.length)(h:∀v,IS (m v)){p:Prop}(hp:p):Sat ((au l (i:Int)).bind fun x=>(m x).bind fun y=>some y) fun b=>b=true->p:=by
 rw [aK hi,bs];obtain ⟨x,hx, -⟩:=h l[i]
 rw [hx,bs];exact ac fun _=>hp
def AU (c:WI):Prop:=(c.Za=8->c.Zb.length%2=0)/\(c.Za=10->1<=c.Zb.length/\(c.Zb.length - 1)%4=0)
theorem O5 (N:Nat)(hN:6500<N)(c:WI)(hc:c.Zb.length<=2900):Sat (lS N c) fun b=>b=true->AU c:=by
 have j6: ∀p,(p=true->c.Za=1\/c.Za=5)->Sat (lq N c p) fun b=>b=true->AU c:=by
  intro p hp
  have other: ∀{m:Option Bool},c.Za≠8->c.Za≠10->IS m->Sat m fun b=>b=true->AU c:=fun h8 h10 h=>h.mono fun _ _ _=>⟨fun e=>absurd e h8,fun e=>absurd e h10⟩
  unfold lq
  refine dx (fun h=>other (by rcases hp h with e|e<;>omega) (by rcases hp h with e|e<;>omega) (bh _)) fun _=> ?_
  refine az (fun hk=>other I I ?_) fun _=> ?_
  ·refine tr (p:=1<c.Zb.length) (az (fun h=>Lu (i:=0) I (fun v=>BN N v _ _) I) fun _=>ac fun h=>by cases h) fun b hb=>fi (yV fun h=>xD (i:=1) (hb h) fun v=>fi (yn N v 9) fun _=>bh _) fun _=>bh _
  refine az (fun hk=>other I I ?_) fun _=> ?_
  ·refine tr (p:=0<c.Zb.length) (az (fun h=>ac fun _=>by omega) fun _=>ac fun h=>by cases h) fun b hb=>fi (yV fun h=>xD (i:=0) (hb h) fun v=>fi (yn N v 9) fun _=>bh _) fun _=>bh _
  refine az (fun hk=>other I I ?_) fun _=> ?_
  ·refine tr (p:=1<c.Zb.length) (az (fun h=>Lu (i:=0) I (fun v=>BN N v _ _) I) fun _=>ac fun h=>by cases h) fun b hb=>fi (yV fun h=>xD (i:=1) (hb h) fun v=>fi (yn N v 9) fun _=>bh _) fun _=>bh _
  refine az (fun hk=>other I I ?_) fun _=> ?_
  ·refine tr (p:=3<c.Zb.length) (az (fun h=>Lu (i:=2) I (fun v=>BN N v _ _) I) fun _=>ac fun h=>by cases h) fun b hb=>fi (yV fun h=>xD (i:=3) (hb h) fun v=>fi (BN N v _ _) fun _=>bh _) fun _=>bh _
  refine az (fun hk=> ?_) fun a7=> ?_
  ·obtain ⟨b, -,h2,h3⟩:=um N hN 2 (.inl rfl) c.Zb hc;have h2':df N c.Zb 2=some b:=h2;rw [h2',bs]
   exact ac fun hb=>⟨fun _=>h3 hb,fun e=>absurd e I⟩
  refine az (fun hk=> ?_) fun a6=> ?_
  ·refine Sat.bind (P:=fun b=>b=true->1<=c.Zb.length) (az (fun h=> ?_) fun _=>ac fun h=>by cases h) fun b hb=> ?_
   ·rw [show ((0:Int))=((0:Nat):Int) from rfl,aK I,bs];exact ac fun _=>by omega
   refine Sat.bind (P:=fun b=>b=true->AU c) (dx (fun h=> ?_) fun _=>ac fun h=>by cases h) fun b' hb'=>ac hb'
   have h1:=hb h;rw [Ek ⟨by omega,by show (1:Int).toNat<=_;exact h1,YA _⟩]
   have hl:((c.Zb.drop ((1:Int).toNat)).take (c.Zb.length - (1:Int).toNat)).length=c.Zb.length - 1:=by
    rw [YX,XW];show min (c.Zb.length - 1) (c.Zb.length - 1)=_;omega
   obtain ⟨b2, -,h2,h3⟩:=um N hN 4 (.inr rfl) ((c.Zb.drop ((1:Int).toNat)).take (c.Zb.length - (1:Int).toNat)) (by rw [hl];omega);have h2':df N ((c.Zb.drop ((1:Int).toNat)).take (c.Zb.length - (1:Int).toNat)) 4=some b2:=h2;rw [h2',bs]
   exact ac fun a8=>⟨fun e=>absurd e I,fun _=>⟨h1,by have:=h3 a8;rw [hl] at this;exact this⟩⟩
  refine az (fun hk=>other I I ?_) fun _=>other a7 a6 (bh _)
  refine fi ?_ fun _=>bh _
  exact mK (fun h=>xD (i:=0) (by have:=YU h;omega) fun v=>fi (BN N v _ _) fun _=>bh _) fun _=>bh _
 unfold lS
 refine az (fun _=>ac fun h=>by cases h) fun _=>az (fun hk=>ac fun _=>⟨fun e=>absurd e I,fun e=>absurd e I⟩) fun _=>az (fun hk=>j6 _ fun _=> .inl hk) fun _=>j6 _ fun h=> .inr (YU h)
theorem GY (N:Nat)(hN:6500<N)(c:WI)(hS:c.Zc.length<=1000)(hc:c.Zb.length<=2900):Sat (fQ N c) fun b=>b=true->AU c:=by
 obtain ⟨b1,g1, -⟩:=uE N hN c hS hc N 0 I I;have g1':iW N c N 0=(bif b1 then dg N c else some false):=g1
 have hj:Sat (dg N c) fun b=>b=true->AU c:=by
  unfold dg
  refine Sat.bind (Na N c) fun y _=> ?_
  refine Sat.bind (P:=fun b=>b=true->AU c) (dx (fun _=>Sat.bind (O5 N hN c hc) fun _ h=>ac h) fun _=>ac fun h=>by cases h) fun _ h=>ac h
 unfold fQ;rw [g1']
 iterate 6 refine Sat.bind (P:=fun _=>True) (mK (fun _=>bh _) fun _=>bh _) fun _ _=> ?_
 refine dx (fun _=>ac fun h=>by cases h) fun _=>dx (fun _=>hj) fun _=>ac fun h=>by cases h
theorem Hg {ρ:Type}(L:Nat->Int->Option ρ)(l:List α)(p:α->Bool)(bad k:Option ρ)(step:∀m (i:Nat) (h:i<l.length),L (m+1) (i:Int)=bif p l[i] then L m ((i:Int)+1) else bad)(fin:∀m,L (m+1) (l.length:Int)=k)(N:Nat)(hN:l.length<N):L N 0=bif l.all p then k else bad:=by
 have key: ∀m i:Nat,l.length<m+i->i<=l.length->L m (i:Int)=bif (l.drop i).all p then k else bad:=by
  intro m
  induction m with
  |zero=>intro i h1 h2;omega
  | succ m ih=>
   intro i h1 h2;by_cases hi:i<l.length
   ·rw [step m i hi,Xt hi,List.all_cons];have h3:=ih (i+1) I hi;rw [show (((i+1:Nat)):Int)=(i:Int)+1 by omega] at h3;rw [h3];cases p l[i]<;>rfl
   have e:i=l.length:=by omega
   subst e;rw [fin,List.drop_length];rfl
 have:=key N 0 I I;simpa using this
def Qu {α β:Type}[DecidableEq α](a:α)(b:β):List (α×β)->List (α×β)
 | []=> [(a,b)]
 |p::l=>if p.1=a then (a,b)::l else p::Qu a b l
theorem Qv [DecidableEq α](L:List (α×β))(a:α)(b:β):AZ L a b=Qu a b L:=by
 have key: ∀(L:List (α×β)) (j:Nat),(∃i c,fp a L j=some (i,c)/\j<=i/\L.set (i - j) (a,b)=Qu a b L)\/(fp a L j=none/\L++ [(a,b)]=Qu a b L):=by
  intro L
  induction L with
  |nil=>intro j;exact .inr ⟨J,J⟩
  | cons p l ih=>
   intro j;obtain ⟨x,y⟩:=p;by_cases e:a=x
   ·refine .inl ⟨j,y,by simp [fp,e],YA _,?_⟩;rw [YF];simp [Qu,e]
   have e': ¬x=a:=fun h=>e h.symm
   rcases ih (j+1) with ⟨i,c,h1,h2,h3⟩|⟨h1,h2⟩
   ·refine .inl ⟨i,c,by simp [fp,e,h1],by omega,?_⟩;rw [show i - j=(i - (j+1))+1 by omega,List.set_cons_succ,h3];simp [Qu,e']
   exact .inr ⟨by simp [fp,e,h1],by simp [Qu,e',h2]⟩
 unfold AZ;rcases key L 0 with ⟨i,c,h1, -,h3⟩|⟨h1,h2⟩
 ·rw [h1];exact h3
 rw [h1];exact h2
theorem BT [DecidableEq α](p:α×β)(l:List (α×β))(x:α):lk (p::l) x=if p.1=x then some p.2 else lk l x:=by
 unfold lk;rw [List.find?_cons];by_cases e:p.1=x<;>simp [e]
theorem Pc [DecidableEq α](L:List (α×β))(a:α)(b:β)(x:α):lk (AZ L a b) x=if a=x then some b else lk L x:=by
 rw [Qv]
 induction L with
 |nil=>rw [Qu,BT]
 | cons p l ih=>
  unfold Qu;by_cases e:p.1=a
  ·rw [if_pos e,BT,BT,e];by_cases e2:a=x<;>simp [e2]
  rw [if_neg e,BT,BT,ih];by_cases e2:p.1=x
  ·rw [if_pos e2,if_pos e2,if_neg (fun h=>e (by rw [e2,h]))]
  rw [if_neg e2,if_neg e2]
abbrev vZ:WK:=⟨0,0,⟨#[]⟩⟩
def rG (l:List WK)(i:Nat):WK:=l.getD i vZ
theorem mn (h:i<l.length):au l (i:Int)=some (rG l i):=by
 rw [aK h];unfold rG;simp [List.getD,h]
def kV (v:WK):Bool:=(dL 0 v).getD false
theorem Fy (N:Nat)(v:WK):dL N v=some (kV v):=by
 obtain ⟨b,hb⟩:=Jx 0 v;have e:dL N v=dL 0 v:=Eq.trans rfl rfl;unfold kV;rw [e,hb];rfl
def numB (v:WK)(a b:Int):Bool:=decide (v.Za=3)&&(decide (a<=v.N)&&decide (v.N<=b))
def noneB (v:WK)(k:Int):Bool:=decide (v.Za=0)||decide (v.Za=k)
theorem ym (N:Nat)(v:WK)(a b:Int):io N v a b=some (numB v a b):=by
 unfold io numB;cases decide (v.Za=3)<;>cases decide (a<=v.N)<;>cases decide (v.N<=b)<;>rfl
theorem vP (N:Nat)(v:WK)(k:Int):dU N v k=some (noneB v k):=by
 unfold dU noneB;cases decide (v.Za=0)<;>cases decide (v.Za=k)<;>rfl
def Fg (k:Int):Bool:=decide (k=1)||decide (k=2)||decide (k=3)||decide (k=6)||decide (k=8)||decide (k=9)||decide (k=10)
theorem KC (N:Nat)(k:Int):lr N k=some (Fg k):=by
 unfold lr Fg;cases decide (k=1)<;>cases decide (k=2)<;>cases decide (k=3)<;>cases decide (k=6)<;>cases decide (k=8)<;>cases decide (k=9)<;>cases decide (k=10)<;>rfl
def od (k sh fl:Int)(l:List WK):Bool:=
 bif Fg k||(decide (k=7)&&decide (0<l.length)) then decide (1<=l.length)&&decide (l.length<=1025)&&(decide ((rG l 0).Za=1)||decide ((rG l 0).Za=7))
 else bif decide (k=7) then decide (sh=0) else bif !decide (sh=0)|| !decide (fl=0) then false else bif decide (k=5) then decide (l.length=2)&&noneB (rG l 0) 7&&noneB (rG l 1) 7 else decide (l.length=0)
theorem jq {p q:Prop}[Decidable p][Decidable q](h:p↔q):decide p=decide q:=by
 by_cases hp:p
 ·rw [WX hp,WX (h.1 hp)]
 rw [WY hp,WY fun hq=>hp (h.2 hq)]
theorem Ki (N:Nat)(c:WI):ke N c=some (od c.Za c.Zi c.Ze c.Zc):=by
 unfold ke od;rw [KC,bs,jq (p:=(0:Int)<(c.Zc.length:Int)) (q:=0<c.Zc.length) I,jq (p:=(1:Int)<=(c.Zc.length:Int)) (q:=1<=c.Zc.length) I,jq (p:=(c.Zc.length:Int)<=1025) (q:=c.Zc.length<=1025) I,jq (p:=(c.Zc.length:Int)=2) (q:=c.Zc.length=2) I,jq (p:=(c.Zc.length:Int)=0) (q:=c.Zc.length=0) I]
 have hA: ∀b:Bool,((bif decide (1<=c.Zc.length) then some (decide (c.Zc.length<=1025)) else some false).bind fun b8=>(bif b8 then ((au c.Zc 0).bind fun a6=>(bif decide (a6.Za=1) then (some true) else ((au c.Zc 0).bind fun a7=>some (decide (a7.Za=7)))).bind fun a8=>some a8) else (some false)).bind fun b9=>some b9)=some (decide (1<=c.Zc.length)&&decide (c.Zc.length<=1025)&&(decide ((rG c.Zc 0).Za=1)||decide ((rG c.Zc 0).Za=7))):=fun _=>by
  by_cases h:1<=c.Zc.length
  ·have g:au c.Zc 0=some (rG c.Zc 0):=mn (i:=0) I;rw [WX h,g];simp only [bs];cases decide (c.Zc.length<=1025)<;>cases decide ((rG c.Zc 0).Za=1)<;>cases decide ((rG c.Zc 0).Za=7)<;>rfl
  rw [WY h];rfl
 have hB:((bif decide (c.Zc.length=2) then ((au c.Zc 0).bind fun b0=>(dU N b0 7).bind fun b5=>some b5) else (some false)).bind fun b6=>(bif b6 then ((au c.Zc 1).bind fun b7=>(dU N b7 7).bind fun c7=>some c7) else (some false)).bind fun c8=>some c8)=some (decide (c.Zc.length=2)&&noneB (rG c.Zc 0) 7&&noneB (rG c.Zc 1) 7):=by
  by_cases h:c.Zc.length=2
  ·have g:au c.Zc 0=some (rG c.Zc 0):=mn (i:=0) I;have g1:au c.Zc 1=some (rG c.Zc 1):=mn (i:=1) I;rw [WX h,g,g1];simp only [bs,vP];cases noneB (rG c.Zc 0) 7<;>cases noneB (rG c.Zc 1) 7<;>rfl
  rw [WY h];rfl
 rw [hA true,hB];cases Fg c.Za<;>cases decide (c.Za=7)<;>cases decide (0<c.Zc.length)<;>cases decide (c.Zi=0)<;>cases decide (c.Ze=0)<;>cases decide (c.Za=5)<;>rfl
def uo:List WK->Bool
 |k::v::r=>decide (k.Za=7)&& !decide (v.Za=8)&&uo r
 | [_]=>false
 | []=>true
def oK:List WK->Bool
 |t::h::k::s::r=>decide (t.Za=7)&& !decide (h.Za=8)&&(noneB k 7&&numB s 0 9007199254740992)&&oK r
 | []=>true
 |_=>false
theorem ri (k v:WK)(r:List WK):uo (k::v::r)=(decide (k.Za=7)&& !decide (v.Za=8)&&uo r):=Eq.trans rfl rfl
theorem rh (t h k s:WK)(r:List WK):oK (t::h::k::s::r)=(decide (t.Za=7)&& !decide (h.Za=8)&&(noneB k 7&&numB s 0 9007199254740992)&&oK r):=Eq.trans rfl rfl
theorem Hy: ∀{l:List WK},uo l=true->l.length%2=0
 | [],_=>rfl
 | [_],h=>by cases h
 |k::v::r,h=>by
  rw [ri] at h;rw [Y0] at h;have:=Hy h.2;simp only [XV];omega
theorem Hx: ∀{l:List WK},oK l=true->l.length%4=0
 | [],_=>rfl
 | [_],h=>by cases h
 | [_,_],h=>by cases h
 | [_,_,_],h=>by cases h
 |t::a::k::s::r,h=>by
  rw [rh] at h;rw [Y0] at h;have:=Hx h.2;simp only [XV];omega
theorem zt {r:List WK}(h:l.drop i=v::r):au l (i:Int)=some v/\l.drop (i+1)=r:=by
 have hl:i<l.length:=by
  rcases YD i l.length with h1|h1
  ·exact h1
  rw [Xu h1] at h;cases h
 rw [Xt hl] at h;obtain ⟨e1,e2⟩:=Xq h;exact ⟨by rw [aK hl,e1],e2⟩
theorem HC (N:Nat)(l:List WK)(hl:l.length<=2900): ∀(m i:Nat),l.length<m+i->i<=l.length->(l.length - i)%2=0->ia N 2 l m (i:Int)=some (uo (l.drop i))
 |0,i,h,h2,_=>by omega
 | m+1,i,h,h2,h3=>by
  rw [ia.eq_2]
  match hd:l.drop i with
  | []=>
   have hi:l.length<=i:=by have:=congrArg List.length hd;rw [XW] at this;simp at this;omega
   rw [fD I,cf];rfl
  | [x]=>have:=congrArg List.length hd;rw [XW] at this;simp at this;omega
  |k::v::r=>
   have hlen:=congrArg List.length hd;rw [XW] at hlen;simp only [XV] at hlen;obtain ⟨g1,d1⟩:=zt hd;obtain ⟨g2,d2⟩:=zt d1;rw [show (((i+1:Nat)):Int)=(i:Int)+1 by omega] at g2;have ih:=HC N l hl m (i+2) I I I;rw [show (((i+2:Nat)):Int)=(i:Int)+2 by omega,d2] at ih;rw [fO I,ct,g1,bs,r64 I I,g2,bs,WY (p:=(2:Int)=4) (by decide),cf,bs,cf,r64 I I,ih];simp only [ri];cases decide (k.Za=7)<;>cases decide (v.Za=8)<;>rfl
theorem Hz (N:Nat)(l:List WK)(hl:l.length<=2900): ∀(m i:Nat),l.length<m+i->i<=l.length->(l.length - i)%4=0->ia N 4 l m (i:Int)=some (oK (l.drop i))
 |0,i,h,h2,_=>by omega
 | m+1,i,h,h2,h3=>by
  rw [ia.eq_2]
  match hd:l.drop i with
  | []=>
   have hi:l.length<=i:=by have:=congrArg List.length hd;rw [XW] at this;simp at this;omega
   rw [fD I,cf];rfl
  | [x]=>have:=congrArg List.length hd;rw [XW] at this;simp at this;omega
  | [x,y]=>have:=congrArg List.length hd;rw [XW] at this;simp at this;omega
  | [x,y,z]=>have:=congrArg List.length hd;rw [XW] at this;simp at this;omega
  |t::v::k::s::r=>
   have hlen:=congrArg List.length hd;rw [XW] at hlen;simp only [XV] at hlen;obtain ⟨g1,d1⟩:=zt hd;obtain ⟨g2,d2⟩:=zt d1;obtain ⟨g3,d3⟩:=zt d2;obtain ⟨g4,d4⟩:=zt d3;rw [show (((i+1:Nat)):Int)=(i:Int)+1 by omega] at g2;rw [show (((i+1+1:Nat)):Int)=(i:Int)+2 by omega] at g3;rw [show (((i+1+1+1:Nat)):Int)=(i:Int)+3 by omega] at g4;have ih:=Hz N l hl m (i+4) I I I;rw [show (((i+4:Nat)):Int)=(i:Int)+4 by omega,d4] at ih;rw [fO I,ct,g1,bs,r64 I I,g2,bs,WX (p:=(4:Int)=4) rfl,ct,r64 I I,g3,bs,vP,bs,r64 I I,g4,bs,ym,bs,r64 I I,ih];simp only [rh];cases decide (t.Za=7)<;>cases decide (v.Za=8)<;>cases noneB k 7<;>cases numB s 0 9007199254740992<;>rfl
theorem PE (N:Nat)(hN:6500<N)(l:List WK)(hl:l.length<=2900):df N l 2=some (uo l):=by
 unfold df;rw [cF (by decide)]
 have e:(l.length:Int).tmod 2=((l.length%2:Nat):Int):=by rw [Xl I];omega
 rw [e];by_cases h:l.length%2=0
 ·rw [h,WX (p:=((0:Nat):Int)=0) rfl,nt,cf];exact HC N l hl N 0 I I I
 rw [WY I,nf,ct]
 cases hb:uo l with
 |false=>rfl
 |true=>exact absurd (Hy hb) h
theorem PC (N:Nat)(hN:6500<N)(l:List WK)(hl:l.length<=2900):df N l 4=some (oK l):=by
 unfold df;rw [cF (by decide)]
 have e:(l.length:Int).tmod 4=((l.length%4:Nat):Int):=by rw [Xl I];omega
 rw [e];by_cases h:l.length%4=0
 ·rw [h,WX (p:=((0:Nat):Int)=0) rfl,nt,cf];exact Hz N l hl N 0 I I I
 rw [WY I,nf,ct]
 cases hb:oK l with
 |false=>rfl
 |true=>exact absurd (Hx hb) h
def rU (k:Int)(l:List WK):Bool:=
 bif decide (k=2) then decide (l.length<=4096)
 else bif decide (k=1)||decide (k=5) then decide (l.length=0)
 else bif decide (k=3) then decide (l.length=3)&&numB (rG l 0) 0 9007199254740992&&noneB (rG l 1) 9
 else bif decide (k=4) then decide (1<=l.length)&&decide (l.length<=4097)&&noneB (rG l 0) 9
 else bif decide (k=6) then decide (l.length=2)&&numB (rG l 0) 0 3&&noneB (rG l 1) 9
 else bif decide (k=7) then decide (4<=l.length)&&numB (rG l 2) 0 1&&numB (rG l 3) 0 9007199254740992
 else bif decide (k=8) then uo l
 else bif decide (k=10) then decide (1<=l.length)&&decide ((rG l 0).Za=7)&&oK (l.drop 1)
 else bif decide (k=9) then decide (2<=l.length)&&numB (rG l 0) 0 2
 else true
theorem NG (N:Nat)(hN:6500<N)(c:WI)(hc:c.Zb.length<=2900):lS N c=some (rU c.Za c.Zb):=by
 have h6: ∀p:Bool,p=(decide (c.Za=1)||decide (c.Za=5))->c.Za≠2->lq N c p=some (rU c.Za c.Zb):=by
  intro p hp h2;subst hp;unfold lq rU;rw [jg h2,cf];rcases Bool.eq_false_or_eq_true (decide (c.Za=1)||decide (c.Za=5)) with h15|h15
  ·rw [h15,ct,ct,jq (p:=(c.Zb.length:Int)=0) (q:=c.Zb.length=0) I]
  rw [h15,cf,cf];by_cases k3:c.Za=3
  ·rw [tc k3,ct,ct,jq (p:=(c.Zb.length:Int)=3) (q:=c.Zb.length=3) I];by_cases h:c.Zb.length=3
   ·have g0:au c.Zb 0=some (rG c.Zb 0):=mn (i:=0) I;have g1:au c.Zb 1=some (rG c.Zb 1):=mn (i:=1) I;rw [WX h,g0,g1];simp only [bs,ym,vP];cases numB (rG c.Zb 0) 0 9007199254740992<;>cases noneB (rG c.Zb 1) 9<;>rfl
   rw [WY h];rfl
  rw [jg k3,cf,cf];by_cases k4:c.Za=4
  ·rw [tc k4,ct,ct,jq (p:=(1:Int)<=(c.Zb.length:Int)) (q:=1<=c.Zb.length) I,jq (p:=(c.Zb.length:Int)<=4097) (q:=c.Zb.length<=4097) I];by_cases h:1<=c.Zb.length
   ·have g0:au c.Zb 0=some (rG c.Zb 0):=mn (i:=0) I;rw [WX h,g0];simp only [bs,vP];cases decide (c.Zb.length<=4097)<;>cases noneB (rG c.Zb 0) 9<;>rfl
   rw [WY h];rfl
  rw [jg k4,cf,cf];by_cases k6:c.Za=6
  ·rw [tc k6,ct,ct,jq (p:=(c.Zb.length:Int)=2) (q:=c.Zb.length=2) I];by_cases h:c.Zb.length=2
   ·have g0:au c.Zb 0=some (rG c.Zb 0):=mn (i:=0) I;have g1:au c.Zb 1=some (rG c.Zb 1):=mn (i:=1) I;rw [WX h,g0,g1];simp only [bs,ym,vP];cases numB (rG c.Zb 0) 0 3<;>cases noneB (rG c.Zb 1) 9<;>rfl
   rw [WY h];rfl
  rw [jg k6,cf,cf];by_cases k7:c.Za=7
  ·rw [tc k7,ct,ct,jq (p:=(4:Int)<=(c.Zb.length:Int)) (q:=4<=c.Zb.length) I];by_cases h:4<=c.Zb.length
   ·have g2:au c.Zb 2=some (rG c.Zb 2):=mn (i:=2) I;have g3:au c.Zb 3=some (rG c.Zb 3):=mn (i:=3) I;rw [WX h,g2,g3];simp only [bs,ym];cases numB (rG c.Zb 2) 0 1<;>cases numB (rG c.Zb 3) 0 9007199254740992<;>rfl
   rw [WY h];rfl
  rw [jg k7,cf,cf];by_cases k8:c.Za=8
  ·rw [tc k8,ct,ct,PE N hN _ hc,bs]
  rw [jg k8,cf,cf];by_cases a6:c.Za=10
  ·rw [tc a6,ct,ct,jq (p:=(1:Int)<=(c.Zb.length:Int)) (q:=1<=c.Zb.length) I];by_cases h:1<=c.Zb.length
   ·have g0:au c.Zb 0=some (rG c.Zb 0):=mn (i:=0) I;have hd:((c.Zb.drop ((1:Int).toNat)).take (c.Zb.length - (1:Int).toNat))=c.Zb.drop 1:=Yq (by rw [XW];exact YA _);rw [WX h,g0,hd,cF ⟨by omega,by show 1<=_;omega,YA _⟩,PC N hN _ (by rw [XW];omega)];simp only [bs];cases decide ((rG c.Zb 0).Za=7)<;>cases oK (c.Zb.drop 1)<;>rfl
   rw [WY h];rfl
  rw [jg a6,cf,cf];by_cases k9:c.Za=9
  ·rw [tc k9,ct,ct,jq (p:=(2:Int)<=(c.Zb.length:Int)) (q:=2<=c.Zb.length) I];by_cases h:2<=c.Zb.length
   ·have g0:au c.Zb 0=some (rG c.Zb 0):=mn (i:=0) I;rw [WX h,g0];simp only [bs,ym];cases numB (rG c.Zb 0) 0 2<;>rfl
   rw [WY h];rfl
  rw [jg k9,cf,cf]
 unfold lS;rw [fD I,cf];by_cases k2:c.Za=2
 ·rw [tc k2,ct];unfold rU;rw [tc k2,ct,jq (p:=(c.Zb.length:Int)<=4096) (q:=c.Zb.length<=4096) I]
 rw [jg k2,cf];by_cases k1:c.Za=1
 ·rw [tc k1,ct];exact h6 _ (by rw [tc k1];rfl) k2
 rw [jg k1,cf];exact h6 _ (by rw [jg k1];rfl) k2
def bQ (c:WI):Bool:=
 (!decide (c.Za<1)&& !decide (11<c.Za)&& !decide (c.Zi<0)&& !decide (c.Ze<0)&& !decide (63<c.Ze)&& !decide (c.Zf<0)&& !decide (1<c.Zf))&&(c.Zc.all kV&&(c.Zb.all kV&&(od c.Za c.Zi c.Ze c.Zc&&rU c.Za c.Zb)))
theorem Ap (N:Nat)(hN:6500<N)(c:WI)(hS:c.Zc.length<=1000)(hc:c.Zb.length<=2900):fQ N c=some (bQ c):=by
 have h19:dg N c=some (od c.Za c.Zi c.Ze c.Zc&&rU c.Za c.Zb):=by
  unfold dg;rw [Ki,NG N hN c hc,bs];cases od c.Za c.Zi c.Ze c.Zc<;>rfl
 have h20:oH N c N 0=some (c.Zb.all kV&&(od c.Za c.Zi c.Ze c.Zc&&rU c.Za c.Zb)):=by
  rw [Hg (fun k i=>oH N c k i) c.Zb kV (some false) (some (od c.Za c.Zi c.Ze c.Zc&&rU c.Za c.Zb)) (fun k i h=> ?_) (fun k=> ?_) N I]
  ·cases c.Zb.all kV<;>rfl
  ·rw [oH.eq_2,fO I,ct,aK h,bs,Fy,bs,r64 I I];cases kV c.Zb[i]<;>rfl
  rw [oH.eq_2,fD I,cf,h19]
 have h12:iW N c N 0=some (c.Zc.all kV&&(c.Zb.all kV&&(od c.Za c.Zi c.Ze c.Zc&&rU c.Za c.Zb))):=by
  rw [Hg (fun k i=>iW N c k i) c.Zc kV (some false) (some (c.Zb.all kV&&(od c.Za c.Zi c.Ze c.Zc&&rU c.Za c.Zb))) (fun k i h=> ?_) (fun k=> ?_) N I]
  ·cases c.Zc.all kV<;>rfl
  ·rw [iW.eq_2,fO I,ct,aK h,bs,Fy,bs,r64 I I];cases kV c.Zc[i]<;>rfl
  rw [iW.eq_2,fD I,cf];unfold z7;exact h20
 unfold fQ bQ;rw [h12];cases decide (c.Za<1)<;>cases decide (11<c.Za)<;>cases decide (c.Zi<0)<;>cases decide (c.Ze<0)<;>cases decide (63<c.Ze)<;>cases decide (c.Zf<0)<;>cases decide (1<c.Zf)<;>rfl
theorem FK (N:Nat)(x:Int)(l:List Int)(hl:l.length<=5000): ∀(m i:Nat),l.length<m+i->i<=l.length->Sat (md N x l m (i:Int)) fun r=>decide (0<=r)=decide (x∈l.drop i)
 |0,i,h,h2=>by omega
 | m+1,i,h,h2=>by
  rw [md.eq_2];by_cases hi:i<l.length
  ·rw [fO I,ct,aK hi,bs,Xt hi]
   refine az (fun e=> ?_) fun e=> ?_
   ·exact ac (by rw [WX I,WX];rw [e];exact X9 ..)
   rw [r64 I I];have:=FK N x l hl m (i+1) I hi;simp only [Xj,Xh] at this
   refine this.mono fun r hr=> ?_
   rw [hr];have:(x∈l[i]::l.drop (i+1))↔x∈l.drop (i+1):=⟨fun h=>(X7.1 h).resolve_left (fun e2=>e e2),X8 _⟩;rw [decide_eq_decide];exact this.symm
  rw [fD I,cf,Xu I];exact ac (by simp)
theorem Af (N:Nat)(hN:6500<N)(l:List Int)(hl:l.length<=5000)(x:Int):jT N l x=some (decide (x∈l)):=by
 obtain ⟨r,h1,h2⟩:=FK N x l hl N 0 I I;unfold jT tJ;rw [show md N x l N 0=some r from h1,bs,h2];rfl
theorem Vs (N:Nat)(hN:6500<N)(l:List Int)(hl:l.length<=5000)(x:Int):Fb N x l=some (decide (x∈l)):=by
 apply Sat.eq;unfold Fb
 have key: ∀(m i:Nat),l.length<m+i->i<=l.length->Sat (CX N x l m (i:Int)) (· =decide (x∈l.drop i)):=by
  intro m
  induction m with
  |zero=>intro i h h2;omega
  | succ m ih=>
   intro i h h2;rw [CX.eq_2];by_cases hi:i<l.length
   ·rw [fO I,ct,aK hi,bs,Xt hi]
    refine az (fun e=> ?_) fun e=> ?_
    ·exact ac (by rw [WX];rw [e];exact X9 ..)
    rw [r64 I I];have:=ih (i+1) I hi;simp only [Xj,Xh] at this
    refine this.mono fun r hr=> ?_
    rw [hr];have:(x∈l[i]::l.drop (i+1))↔x∈l.drop (i+1):=⟨fun h=>(X7.1 h).resolve_left (fun e2=>e e2.symm),X8 _⟩;rw [decide_eq_decide];exact this.symm
   rw [fD I,cf,Xu I];exact ac (by simp)
 exact key N 0 I I
theorem Vr (N:Nat)(hN:6500<N)(l:List Int)(hl:l.length<=5000)(x:Int):E9 N l x=some (decide (x∈l)):=by
 apply Sat.eq;unfold E9
 have key: ∀(m i:Nat),l.length<m+i->i<=l.length->Sat (CW N x l m (i:Int)) (· =decide (x∈l.drop i)):=by
  intro m
  induction m with
  |zero=>intro i h h2;omega
  | succ m ih=>
   intro i h h2;rw [CW.eq_2];by_cases hi:i<l.length
   ·rw [fO I,ct,aK hi,bs,Xt hi]
    refine az (fun e=> ?_) fun e=> ?_
    ·exact ac (by rw [WX];rw [e];exact X9 ..)
    rw [r64 I I];have:=ih (i+1) I hi;simp only [Xj,Xh] at this
    refine this.mono fun r hr=> ?_
    rw [hr];have:(x∈l[i]::l.drop (i+1))↔x∈l.drop (i+1):=⟨fun h=>(X7.1 h).resolve_left (fun e2=>e e2.symm),X8 _⟩;rw [decide_eq_decide];exact this.symm
   rw [fD I,cf,Xu I];exact ac (by simp)
 exact key N 0 I I
def opens (p:Int->Bool):List WK->List Int
 |k::v::l=>(bif bL v&&p k.N then [v.N] else [])++opens p l
 |_=> []
theorem qX (p:Int->Bool)(k v:WK)(l:List WK):opens p (k::v::l)=(bif bL v&&p k.N then [v.N] else [])++opens p l:=rfl
theorem G6 (p:Int->Bool): ∀l:List WK,(opens p l).length<=l.length
 | []=>YA _
 | [_]=>YH _
 |k::v::l=>by
  have:=G6 p l;rw [qX,YW];cases bL v&&p k.N<;>simp<;>omega
theorem G5: ∀{l:List WK},x∈opens p l-> ∃v∈l,v.N=x
 | [],h=>by cases h
 | [_],h=>by cases h
 | k::v::l,h=>by
  rw [qX,X6] at h;rcases h with h|h
  ·cases hb:bL v&&p k.N
   ·rw [hb] at h;cases h
   rw [hb] at h;exact ⟨v,by simp,(Yg.1 h).symm⟩
  obtain ⟨w,h1,h2⟩:=G5 h;exact ⟨w,by simp [h1],h2⟩
theorem Jr {q:Int->Bool}(h:∀x,p x=q x)(l:List WK):opens p l=opens q l:=by rw [show p=q from funext h]
theorem vT (v:WK):((bif decide (v.Za=7) then (some true) else (some (decide (v.Za=9)))):Option Bool)=some (bL v):=by unfold bL;cases decide (v.Za=7)<;>rfl
def iK (c:WI)(l:List Int):List Int:=bif uh N c then opens (fun x=>decide (x∈l)) c.Zb else []
theorem KJ (N:Nat)(c:WI)(l:List Int):(iK N c l).length<=c.Zb.length:=by
 unfold iK;cases uh N c
 ·exact YH _
 exact G6 _ _
theorem KI {N:Nat}{l:List Int}(h:x∈iK N c l): ∃v∈c.Zc++c.Zb,v.N=x:=by
 unfold iK at h;cases hw:uh N c
 ·rw [hw] at h;cases h
 rw [hw] at h;obtain ⟨v,h1,h2⟩:=G5 h;exact ⟨v,by simp [h1],h2⟩
theorem KH (N:Nat)(hN:6500<N)(l:List Int)(hl:l.length<=5000)(k v:WK)(s:List Int)(hs:s.length<=5000):cM (fun x st=>jk N l x st) (k,v) (none,s)=some (true,(none,s++(bif bL v&&decide (k.N∈l) then [v.N] else []))):=by
 unfold cM jk;simp only [vT,bs,Af N hN l hl];cases bL v
 ·simp only [cf,bs,Xe,Xp];rfl
 simp only [ct,bs,Xg];cases decide (k.N∈l)
 ·simp only [cf,Xp];rfl
 simp only [ct];rw [rF (by simp;omega)];rfl
theorem Cr (N:Nat)(hN:6500<N)(l:List Int)(hl:l.length<=5000)(c:WI)(hc:c.Zb.length<=2900)(he:c.Zb.length%2=0): ∀(m i:Nat) (s:List Int),c.Zb.length<m+i->i<=c.Zb.length->i%2=0->s.length<=i->eK N (cM (fun x st=>jk N l x st)) c m (i:Int) (none,s)=some (none,s++opens (fun x=>decide (x∈l)) (c.Zb.drop i))
 |0,i,s,h,h2,_,_=>by omega
 | m+1,i,s,h,h2,h3,h4=>by
  rw [eK.eq_2,r64 (a:=(i:Int)+1) I I];by_cases hi:i<c.Zb.length
  ·have hi1:i+1<c.Zb.length:=by omega
   have a6:au c.Zb ((i:Int)+1)=some c.Zb[i+1]:=by
    have:=aK hi1;simpa using this
   rw [fO I,ct,aK hi,bs,r64 (a:=(i:Int)+1) I I,a6,bs,KH N hN l hl _ _ s I,bs];simp only [nt,cf];rw [r64 I I]
   have hlen:(s++(bif bL c.Zb[i+1]&&decide (c.Zb[i].N∈l) then [c.Zb[i+1].N] else [])).length<=i+2:=by
    cases bL c.Zb[i+1]&&decide (c.Zb[i].N∈l)<;>simp<;>omega
   have:=Cr N hN l hl c hc he m (i+2) _ I I I hlen;simp only [Xj,Xh] at this;rw [this,Xt hi,Xt hi1,qX,W0]
  rw [fD I,cf,Xu I];simp [opens]
theorem KG (N:Nat)(hN:6500<N)(l:List Int)(hl:l.length<=5000)(c:WI)(hS:c.Zc.length<=1000)(hc:c.Zb.length<=2900):sG N c l=some (iK N c l):=by
 obtain ⟨-,h1,h2⟩:=KZ N I c hS hc;unfold sG iK jR;rw [h1,bs];cases hw:uh N c
 ·rfl
 have e:mY N c=some ():=rfl;have:=Cr N hN l hl c hc (h2 hw) N 0 [] I I rfl (by simp);simp only [nt,cf,ct,e,bs];have h3:eK N (cM (fun x st=>jk N l x st)) c N 0 (none,[])=some (none,[]++opens (fun x=>decide (x∈l)) (c.Zb.drop 0)):=this;rw [h3,bs];rfl
theorem Nw (N:Nat)(hN:6500<N)(l:List Int)(hl:l.length<=5000)(c:WI)(hS:c.Zc.length<=1000)(hc:c.Zb.length<=2900):yi N c l=some (iK N c l):=by
 obtain ⟨h1, -,h2⟩:=KZ N I c hS hc;unfold yi iK;cases hw:uh N c
 ·obtain ⟨n,rfl⟩: ∃n,N=n+1:=⟨N - 1,by omega⟩;rw [sR.eq_2,h1,bs,hw];simp only [cf,bs];rfl
 have he:=h2 hw
 have key: ∀(m i:Nat) (s:List Int),c.Zb.length<m+i->i<=c.Zb.length->i%2=0->s.length<=i->sR N l c m s (i:Int)=some (s++opens (fun x=>decide (x∈l)) (c.Zb.drop i)):=by
  intro m
  induction m with
  |zero=>intro i s h h2;omega
  | succ m ih=>
   intro i s h h2 h3 h4;rw [sR.eq_2,h1,bs,hw,ct,bs];by_cases hi:i<c.Zb.length
   ·have hi1:i+1<c.Zb.length:=by omega
    have a6:au c.Zb ((i:Int)+1)=some c.Zb[i+1]:=by
     have:=aK hi1;simpa using this
    rw [fO I,ct,r64 (a:=(i:Int)+1) I I,a6,bs,aK hi,bs,Vs N hN l hl,bs];simp only [vT,bs]
    have hlen:(s++(bif bL c.Zb[i+1]&&decide (c.Zb[i].N∈l) then [c.Zb[i+1].N] else [])).length<=i+2:=by
     cases bL c.Zb[i+1]&&decide (c.Zb[i].N∈l)<;>simp<;>omega
    have:=ih (i+2) _ I I I hlen;simp only [Xj,Xh] at this;rw [Xt hi,Xt hi1,qX, <-W0, <-this];unfold vm;rw [r64 (a:=(i:Int)+2) I I,r64 (a:=(i:Int)+2) I I];cases decide (c.Zb[i].N∈l)
    ·simp only [cf,bs,Xd,Xp]
    cases bL c.Zb[i+1]
    ·simp only [ct,cf,bs,Bool.and_true,Xp]
    simp only [ct,bs,Bool.and_true];rw [rF (by simp;omega)]
   rw [fD I,cf,Xu I];simp [opens,BC]
 have:=key N 0 [] I I rfl (by simp);simpa using this
theorem Fv: ∀(b:Nat) {l:List Int},l.Nodup->(∀x∈l,1<=x/\x<=(b:Int))->l.length<=b
 |0,l,_,h=>by
  cases l with
  |nil=>exact YA _
  |cons x l=>have:=h x (by simp);omega
 | b+1,l,hn,h=>by
  have h1:=Fv b (hn.erase ((b:Int)+1)) fun x hx=>by
   obtain ⟨h2,h3⟩:=hn.mem_erase_iff.1 hx;have:=h x h3;omega
  have h2:=List.length_erase (a:=(b:Int)+1) (l:=l);split at h2<;>omega
theorem Th (kv:List (Int×Unit))(a:Int):(lk kv a).isSome=decide (a∈kv.map (·.1)):=by
 unfold lk;rw [Bool.eq_iff_iff];simp [List.find?_isSome,Yb]
def W64 (m:WO):Prop:= ∀c∈m.Zh++m.Zj, ∀v∈c.Zc++c.Zb,in64 v.N
theorem W64.at_ (h:W64 m)(a:Int): ∀v∈(co m a).Zc++(co m a).Zb,in64 v.N:=by
 unfold co
 cases hc:kz m a with
 |none=>intro v hv;simp [GN] at hv
 |some c=>exact h c (wT hc)
structure Tr (m:WO) (all:List Int) (met:List (Int×Unit)):Prop where
 nd:all.Nodup
 mem: ∀x,x∈met.map (·.1)↔x∈all
 has: ∀x∈all,aW m x=true
theorem Tr.len {roots:List WK}(hs:Small m roots){all:List Int}(h:Tr m all met):all.length<=1200:=Fv 1200 h.nd fun x hx=>⟨by have:=vW (h.has x hx);omega,by have:=Cd hs (h.has x hx);omega⟩
theorem Tr.in64 {roots:List WK}(hs:Small m roots){all:List Int}(h:Tr m all met)(hx:x∈all):in64 x:=by
 have h1:=vW (h.has x hx);have h2:=Cd hs (h.has x hx);unfold Go.Proofs.YtmcifcmlojonnaaGreatDoor.in64;omega
theorem Tr.add {all:List Int}(h:Tr m all met)(hx:x∉all)(hh:aW m x=true):Tr m (all++ [x]) (AZ met x ()):=⟨Yh.2 ⟨h.nd,by simp,fun a ha b hb e=>by rw [Yg] at hb;subst hb;subst e;exact hx ha⟩,fun y=>by
 rw [Qw,X6,Yg,h.mem y];exact Or.comm,fun y hy=>by
 rcases X6.1 hy with hy|hy
 ·exact h.has y hy
 ·rw [Yg] at hy;subst hy;exact hh⟩
theorem Jz {roots:List WK}(hs:Small m roots)(hw:W64 m)(a:Int):(gw (co m a)).length<=3600/\ ∀x∈gw (co m a),in64 x:=by
 have h1:=hs.at_ a;have h2:=uf (co m a);refine ⟨by omega,fun x hx=> ?_⟩;obtain ⟨v,h3,rfl⟩:=FG hx;exact hw.at_ a v h3
structure Gr where
 has:Int->Bool
 leads:Int->List Int
 opens:List Int->Int->List Int
def lZ (has:Int->Bool):List Int->List Int->List Int
 |row,[]=>row
 |row,x::l=>lZ has (bif has x&& !decide (x∈row) then row++ [x] else row) l
inductive Thr (g:Gr):List Int->Nat->List Int->Prop
 |done {row:List Int} {k:Nat}:row.length<=k->Thr g row k row
 |step {row:List Int} {k:Nat} {a:Int} {r:List Int}:row[k]? =some a->Thr g (lZ g.has row (g.leads a)) (k+1) r->Thr g row k r
def pE (g:Gr):List Int->List Int->List Int
 |row,[]=>row
 |row,a::avs=>pE g (lZ g.has row (g.opens row a)) avs
inductive Ord (g:Gr):List Int->List Int->Prop
 |done {row:List Int}:pE g row row=row->Ord g row row
 |step {row r1 r:List Int}:pE g row row≠row->Thr g (pE g row row) row.length r1->Ord g r1 r->Ord g row r
structure IsOrder (g:Gr) (roots:List Int) (b l:List Int):Prop where
 strong:Thr g (lZ g.has [] roots) 0 b
 all:Ord g b l
theorem mj (has:Int->Bool): ∀(row l:List Int), ∃t,lZ has row l=row++t/\(∀x∈t,has x=true/\x∈l)
 |row,[]=>⟨[],by simp [lZ],by simp⟩
 | row,x::l=>by
  unfold lZ
  cases h:has x&& !decide (x∈row) with
  |false=>
   obtain ⟨t,h1,h2⟩:=mj has row l;exact ⟨t,h1,fun y hy=>⟨(h2 y hy).1,by simp [(h2 y hy).2]⟩⟩
  |true=>
   obtain ⟨t,h1,h2⟩:=mj has (row++ [x]) l;refine ⟨x::t,by rw [cond_true,h1];simp,fun y hy=> ?_⟩;rw [Y0] at h;rcases X7.1 hy with e|hy
   ·subst e;exact ⟨h.1,by simp⟩
   exact ⟨(h2 y hy).1,by simp [(h2 y hy).2]⟩
theorem BV (has:Int->Bool): ∀(row l l':List Int),lZ has row (l++l')=lZ has (lZ has row l) l'
 |_,[],_=>rfl
 |row,x::l,l'=>by
  show lZ has _ (l++l')=_;rw [BV has _ l l'];rfl
theorem ra {has:Int->Bool}: ∀{row:List Int} (l:List Int),row.Nodup->(lZ has row l).Nodup
 |_,[],h=>h
 | row,x::l,h=>by
  unfold lZ
  cases h2:has x&& !decide (x∈row) with
  |false=>exact ra l h
  |true=>
   rw [Y0] at h2
   have hx:x∉row:=by simpa using h2.2
   exact ra l (Yh.2 ⟨h,by simp,fun a ha b hb e=>by rw [Yg] at hb;subst hb;subst e;exact hx ha⟩)
theorem BX {has:Int->Bool}: ∀(row l:List Int) {x:Int},x∈l->has x=true->x∈lZ has row l
 | row,y::l,x,h,hx=>by
  unfold lZ;rcases X7.1 h with e|h
  ·subst e;obtain ⟨t,h1, -⟩:=mj has (bif has x&& !decide (x∈row) then row++ [x] else row) l;rw [h1];refine W2 _ ?_;rw [hx,Xg];by_cases hm:x∈row<;>simp [hm]
  exact BX _ l h hx
theorem BW {has:Int->Bool}{l:List Int}(h:x∈lZ has row l):x∈row\/(has x=true/\x∈l):=by
 obtain ⟨t,h1,h2⟩:=mj has row l;rw [h1] at h;rcases X6.1 h with h|h
 ·exact .inl h
 exact .inr (h2 x h)
theorem vL (g:Gr): ∀(row avs:List Int), ∃t,pE g row avs=row++t
 |row,[]=>⟨[],by simp [pE]⟩
 |row,a::avs=>by
  obtain ⟨t,h1, -⟩:=mj g.has row (g.opens row a);obtain ⟨t2,h2⟩:=vL g (lZ g.has row (g.opens row a)) avs;exact ⟨t++t2,by unfold pE;rw [h2,h1,W0]⟩
theorem CY (g:Gr): ∀(row avs bs:List Int),pE g row (avs++bs)=pE g (pE g row avs) bs
 |_,[],_=>rfl
 |row,a::avs,bs=>by
  show pE g _ (avs++bs)=_;rw [CY g _ avs bs];rfl
theorem DM {g:Gr}: ∀{row:List Int} (avs:List Int),row.Nodup->(pE g row avs).Nodup
 |_,[],h=>h
 |_,_::avs,h=>DM avs (ra _ h)
theorem G1 {g:Gr}: ∀{row:List Int} (avs:List Int),(∀x∈row,g.has x=true)-> ∀x∈pE g row avs,g.has x=true
 |_,[],h=>h
 |_,_::avs,h=>G1 avs fun x hx=>(BW hx).elim (h x) (·.1)
theorem Thr.app {g:Gr}{r:List Int}(h:Thr g row k r): ∃t,r=row++t:=by
 induction h with
 |done _=>exact ⟨[],by simp⟩
 |step _ _ ih=>
  rename_i row _ a _ _ _
  obtain ⟨t,rfl⟩:=ih;obtain ⟨t2,h1, -⟩:=mj g.has row (g.leads a);exact ⟨t2++t,by rw [h1,W0]⟩
theorem Thr.nodup {g:Gr}{r:List Int}(h:Thr g row k r)(hn:row.Nodup):r.Nodup:=by
 induction h with
 |done _=>exact hn
 |step _ _ ih=>exact ih (ra _ hn)
theorem Thr.has {g:Gr}{r:List Int}(h:Thr g row k r)(hn:∀x∈row,g.has x=true): ∀x∈r,g.has x=true:=by
 induction h with
 |done _=>exact hn
 |step _ _ ih=>exact ih fun x hx=>(BW hx).elim (hn x) (·.1)
theorem Thr.det {g:Gr}{r r':List Int}(h:Thr g row k r)(h':Thr g row k r'):r=r':=by
 induction h with
 |done hk=>
  cases h' with
  |done _=>rfl
  |step ha _=>rw [XM hk] at ha;cases ha
 |step ha _ ih=>
  cases h' with
  |done hk=>rw [XM hk] at ha;cases ha
  |step ha' h2=>rw [ha] at ha';cases ha';exact ih h2
theorem Ord.det {g:Gr}{r r':List Int}(h:Ord g row r)(h':Ord g row r'):r=r':=by
 induction h with
 |done hk=>
  cases h' with
  |done _=>rfl
  |step ha _ _=>exact absurd hk ha
 |step ha h1 _ ih=>
  cases h' with
  |done hk=>exact absurd hk ha
  |step _ h1' h2=>exact ih (h1.det h1'▸h2)
theorem IsOrder.det {g:Gr}{roots b l b' l':List Int}(h:IsOrder g roots b l)(h':IsOrder g roots b' l'):b=b'/\l=l':=by
 obtain ⟨h1,h2⟩:=h;obtain ⟨h3,h4⟩:=h';have e:=h1.det h3;subst e;exact ⟨J,h2.det h4⟩
theorem Ord.app {g:Gr}{r:List Int}(h:Ord g row r): ∃t,r=row++t:=by
 induction h with
 |done _=>exact ⟨[],by simp⟩
 |step _ h1 _ ih=>
  rename_i row r1 _ _ _
  obtain ⟨t,rfl⟩:=ih;obtain ⟨t1,rfl⟩:=h1.app;obtain ⟨t2,h2⟩:=vL g row row;exact ⟨t2++t1++t,by rw [h2];simp [W0]⟩
theorem Ord.nodup {g:Gr}{r:List Int}(h:Ord g row r)(hn:row.Nodup):r.Nodup:=by
 induction h with
 |done _=>exact hn
 |step _ h1 _ ih=>exact ih (h1.nodup (DM _ hn))
theorem Ord.has {g:Gr}{r:List Int}(h:Ord g row r)(hn:∀x∈row,g.has x=true): ∀x∈r,g.has x=true:=by
 induction h with
 |done _=>exact hn
 |step _ h1 _ ih=>exact ih (h1.has (G1 _ hn))
theorem IsOrder.nodup {g:Gr}{roots b l:List Int}(h:IsOrder g roots b l):b.Nodup/\l.Nodup:=
 have hb:=h.strong.nodup (ra _ List.nodup_nil)
 ⟨hb,h.all.nodup hb⟩
theorem IsOrder.has {g:Gr}{roots b l:List Int}(h:IsOrder g roots b l):(∀x∈b,g.has x=true)/\ ∀x∈l,g.has x=true:=
 have hb:=h.strong.has fun x hx=>(BW hx).elim (fun h=>by cases h) (·.1)
 ⟨hb,h.all.has hb⟩
theorem IsOrder.sub {g:Gr}{roots b l:List Int}(h:IsOrder g roots b l)(hx:x∈b):x∈l:=by
 obtain ⟨t,e⟩:=h.all.app;rw [e];exact W2 _ hx
theorem IsOrder.roots {g:Gr}{roots b l:List Int}(h:IsOrder g roots b l)(hx:x∈roots)(hh:g.has x=true):x∈b:=by
 obtain ⟨t,e⟩:=h.strong.app;rw [e];exact W2 _ (BX _ _ hx hh)
def CloG (g:Gr)(row:List Int)(k:Nat):Prop:= ∀(i:Nat) (a x:Int),i<k->row[i]? =some a->x∈g.leads a->g.has x=true->x∈row
theorem CloG.app {g:Gr}{t:List Int}(hk:k<=row.length)(h:CloG g row k):CloG g (row++t) k:=fun i a x hi ha hx hh=>by
 rw [XG I] at ha;exact W2 _ (h i a x hi ha hx hh)
theorem Thr.clo {g:Gr}{r:List Int}(h:Thr g row k r)(hk:k<=row.length)(hc:CloG g row k):CloG g r r.length:=by
 induction h with
 |done a6=>intro i a x hi ha hx hh;exact hc i a x I ha hx hh
 | step ha _ ih=>
  rename_i row k a _ _
  have hlt:=(XN.1 ha).1;obtain ⟨t,h1, -⟩:=mj g.has row (g.leads a)
  refine ih (by rw [h1,YW];omega) fun i b x hi hb hx hh=> ?_
  by_cases e:i=k
  ·subst e;rw [h1,XG hlt,ha] at hb;cases hb;exact BX _ _ hx hh
  rw [h1] at hb⊢;exact (CloG.app hk hc (t:=t)) i b x I hb hx hh
theorem G2 {g:Gr}: ∀{row avs:List Int},pE g row avs=row-> ∀a∈avs, ∀x∈g.opens row a,g.has x=true->x∈row
 | row,b::avs,h,a,ha,x,hx,hh=>by
  have h1:lZ g.has row (g.opens row b)=row:=by
   obtain ⟨t,e1, -⟩:=mj g.has row (g.opens row b);obtain ⟨t2,e2⟩:=vL g (lZ g.has row (g.opens row b)) avs
   have h3:row++t++t2=row:=by rw [<-e1, <-e2];exact h
   have h4:=congrArg List.length h3;simp only [YW] at h4;have h5:t=[]:=Xy I;rw [e1,h5,Xp]
  rcases X7.1 ha with e|ha
  ·subst e;have:=BX row _ hx hh;rwa [h1] at this
  refine G2 (avs:=avs) ?_ a ha x hx hh;unfold pE at h;rw [h1] at h;exact h
theorem Ord.closed {g:Gr}{r:List Int}(h:Ord g row r)(hc:CloG g row row.length):CloG g r r.length/\ ∀a∈r, ∀x∈g.opens r a,g.has x=true->x∈r:=by
 induction h with
 |done hp=>exact ⟨hc,G2 hp⟩
 |step _ h1 _ ih=>
  rename_i row _ _ _ _
  obtain ⟨t,e⟩:=vL g row row;refine ih (h1.clo (by rw [e,YW];omega) ?_);rw [e];exact hc.app (YA _)
theorem IsOrder.closed {g:Gr}{roots b l:List Int}(h:IsOrder g roots b l):(∀a∈l, ∀x∈g.leads a,g.has x=true->x∈l)/\ ∀a∈l, ∀x∈g.opens l a,g.has x=true->x∈l:=by
 obtain ⟨h1,h2⟩:=h.all.closed (h.strong.clo (YH _) fun i _ _ hi=>absurd hi I);refine ⟨fun a ha x hx hh=> ?_,h2⟩;obtain ⟨i,hi,e⟩:=XU ha;exact h1 i a x hi (by rw [XL hi,e]) hx hh
def Gk (m:WO):Gr:=⟨aW m,fun a=>gw (co m a),fun row a=>iK N (co m a) row⟩
def dF (l:List WK):List Int:=(l.filter bL).map (·.N)
theorem Dp (l l':List WK):dF (l++l')=dF l++dF l':=by unfold dF;simp
theorem tw:x∈dF l↔ ∃v∈l,bL v=true/\v.N=x:=by
 unfold dF;simp only [Yb,Ya];constructor
 ·rintro ⟨v,⟨h1,h2⟩,h3⟩;exact ⟨v,h1,h2,h3⟩
 rintro ⟨v,h1,h2,h3⟩;exact ⟨v,⟨h1,h2⟩,h3⟩
theorem In (N:Nat){roots:List WK}(hN:6500<N)(hs:Small m roots)(d:Int)(l:List Int)(hl:l.length<=3600)(h64:∀x∈l,in64 x){all:List Int}(ht:Tr m all met):
  Sat (eJ N ⟨m,all,met,d⟩ l) fun r=>r.m_=m/\r.ZH=d/\Tr m r.Zx r.ZJ/\r.Zx=lZ (aW m) all l:=by
 unfold eJ;refine jo (fun k i (s:List Int×List (Int×Unit))=>dc N l ⟨m,all,met,d⟩ k (i:Int) s.1 s.2) l.length (fun i s=>Tr m s.1 s.2/\s.1=lZ (aW m) all (l.take i)) _ ?_ ?_ N 0 (all,met) I I ⟨ht,J⟩
 ·rintro k i ⟨al,mt⟩ hi ⟨h1,h2⟩ go;show Sat (dc N l ⟨m,all,met,d⟩ (k+1) i al mt) _;simp only at h1 h2;have a6:=h64 l[i] (Y4 _)
  have hnext:lZ (aW m) all (l.take (i+1))=(bif aW m l[i]&& !decide (l[i]∈al) then al++ [l[i]] else al):=by
   rw [ck hi,BV, <-h2];rfl
  rw [dc.eq_2,fO I,ct,aK hi,bs,Th];unfold jX;rw [r64 (a:=(i:Int)+1) I I,r64 (a:=(i:Int)+1) I I];by_cases hm:l[i]∈al
  ·rw [WX ((h1.mem _).2 hm)];simp only [nt,cf,bs];exact go (al,mt) ⟨h1,by rw [hnext,WX hm];simp⟩
  rw [WY (fun h=>hm ((h1.mem _).1 h))];simp only [nf,ct,bs,FN N m _ a6];cases hh:aW m l[i]
  ·simp only [cf];exact go (al,mt) ⟨h1,by rw [hnext,hh];rfl⟩
  simp only [ct];have hlen:=h1.len hs;rw [rF (by simp;omega)];exact go (al++ [l[i]],AZ mt l[i] ()) ⟨h1.add hm hh,by rw [hnext,hh,WY hm];rfl⟩
 rintro k ⟨al,mt⟩ ⟨h1,h2⟩;show Sat (dc N l ⟨m,all,met,d⟩ (k+1) _ al mt) _;rw [dc.eq_2,fD I,cf];exact ac ⟨J,J,h1,by simpa using h2⟩
theorem DA (N:Nat)(hN:6500<N){roots:List WK}(hs:Small m roots)(hw:W64 m){all:List Int}(ht:Tr m all met)(k:Nat)(hk:k<=all.length):
  Sat (iB N ⟨m,all,met,(k:Int)⟩) fun r=>r.m_=m/\r.ZH=(r.Zx.length:Int)/\Tr m r.Zx r.ZJ/\Thr (Gk N m) all k r.Zx:=by
 unfold iB;refine vQ (fun f (s:List Int×List (Int×Unit)×Nat)=>gZ N f m.Zh m.Zj s.1 s.2.1 (s.2.2:Int)) (fun s=>1300 - s.2.2) (fun s=>Tr m s.1 s.2.1/\s.2.2<=s.1.length/\ ∀r,Thr (Gk N m) s.1 s.2.2 r->Thr (Gk N m) all k r) _ ?_ N (all,met,k) (by show 1300 - k<N;omega) ⟨ht,hk,fun _ h=>h⟩;rintro f ⟨al,mt,j⟩ ⟨h1,h3,h4⟩ go;show Sat (gZ N (f+1) m.Zh m.Zj al mt (j:Int)) _;simp only at h1 h3 h4;have hlen:=h1.len hs;rw [gZ.eq_2];by_cases hj:j<al.length
 ·have hx:=Y4 hj;have hat:=IM N hs al[j] (h1.in64 hs hx);have hsm:=hs.at_ al[j];obtain ⟨a6,a7⟩:=Jz hs hw al[j];rw [fO I,ct,aK hj,bs];have hat':lL N ⟨m.Zh,m.Zj⟩ al[j]=some (co m al[j]):=hat;rw [hat',bs,AG N I _ I I,bs];refine Sat.bind (In N hN hs (j:Int) _ a6 a7 h1) ?_;rintro ⟨m',al',mt',d'⟩ ⟨e1,e2,h5,h6⟩;simp only at e1 e2 h5 h6;subst e1 e2;have hlen':=h5.len hs
  dsimp only
  rw [r64 I I]
  have hge:al.length<=al'.length:=by
   obtain ⟨t,e, -⟩:=mj (aW m') al (gw (co m' al[j]));rw [h6,e,YW];omega
  have hgo:=go (al',mt',j+1) (by show 1300 - (j+1)<1300 - j;omega) ⟨h5,by show j+1<=al'.length;omega,fun r hr=>h4 r (.step (XL hj) (by rw [h6] at hr;exact hr))⟩;simpa using hgo
 have:j=al.length:=by omega
 subst this;rw [fD I,cf];exact ac ⟨J,J,h1,h4 _ (.done (YA _))⟩
theorem Od (N:Nat)(hN:6500<N){roots:List WK}(hs:Small m roots)(hw:W64 m)(hr:∀v∈roots,in64 v.N):
  Sat (oE N m roots) fun r=>r.m_=m/\r.ZH=(r.Zx.length:Int)/\Tr m r.Zx r.ZJ/\Thr (Gk N m) (lZ (aW m) [] (dF roots)) 0 r.Zx:=by
 have hrl:=hs.roots;unfold oE;refine jo (fun k i (s:List Int×List (Int×Unit))=>jO N roots k (i:Int) m.Zh m.Zj s.1 s.2 0) roots.length (fun i s=>Tr m s.1 s.2/\s.1=lZ (aW m) [] (dF (roots.take i))) _ ?_ ?_ N 0 ([],[]) I I ⟨⟨by simp,by simp,by simp⟩,J⟩
 ·rintro k i ⟨al,mt⟩ hi ⟨h1,h2⟩ go;show Sat (jO N roots (k+1) (i:Int) m.Zh m.Zj al mt 0) _;simp only at h1 h2;have a6:=hr roots[i] (Y4 _)
  have ha:oQ N roots[i]=some (roots[i].N,bL roots[i]):=by
   unfold oQ;rw [vT,bs]
  have hnext:lZ (aW m) [] (dF (roots.take (i+1)))=lZ (aW m) al (dF [roots[i]]):=by
   rw [ck hi,Dp,BV, <-h2]
  rw [jO.eq_2,fO I,ct,aK hi,bs];unfold qT;rw [ha,bs];cases hb:bL roots[i]
  ·simp only [cf,bs];rw [r64 I I];refine go (al,mt) ⟨h1,?_⟩;rw [hnext];simp [dF,hb,lZ]
  simp only [ct];obtain ⟨⟨m',al',mt',d'⟩,e0,e1,e2,h5,h6⟩:=In N hN hs 0 [roots[i].N] (by simp) (by intro x hx;rw [Yg] at hx;subst hx;exact a6) h1;simp only at e1 e2 h5 h6;subst e1 e2;have e0':eJ N ⟨⟨m'.Zh,m'.Zj⟩,al,mt,0⟩ [roots[i].N]=some ⟨m',al',mt',0⟩:=e0;rw [e0',bs,bs]
  dsimp only
  rw [r64 I I];refine go (al',mt') ⟨h5,?_⟩;show al'=_;rw [hnext,h6];simp [dF,hb]
 rintro k ⟨al,mt⟩ ⟨h1,h2⟩;show Sat (jO N roots (k+1) _ m.Zh m.Zj al mt 0) _;rw [jO.eq_2,fD I,cf];unfold tT;refine Sat.bind (DA N hN hs hw h1 0 (YH _)) ?_;rintro r ⟨e1,e2,h5,h6⟩;simp only [YZ] at h2;exact ac ⟨e1,e2,h5,by rw [<-h2];exact h6⟩
theorem Jq (N:Nat){roots:List WK}(hs:Small m roots)(hw:W64 m)(a:Int)(l:List Int):(iK N (co m a) l).length<=3600/\ ∀x∈iK N (co m a) l,in64 x:=by
 have h1:=hs.at_ a;have h2:=KJ N (co m a) l;refine ⟨by omega,fun x hx=> ?_⟩;obtain ⟨v,h3,rfl⟩:=KI hx;exact hw.at_ a v h3
theorem OR (N:Nat)(hN:6500<N){roots:List WK}(hs:Small m roots)(hw:W64 m){all:List Int}(ht:Tr m all met)(d:Int):
  Sat (kS N ⟨m,all,met,d⟩) fun r=>r.2.m_=m/\r.2.ZH=d/\Tr m r.2.Zx r.2.ZJ/\r.1=decide ((all.length:Int)<(r.2.Zx.length:Int))/\r.2.Zx=pE (Gk N m) all all:=by
 have hlen:=ht.len hs;unfold kS;refine jo (fun k i (s:List Int×List (Int×Unit))=>dA N ⟨m,all,met,d⟩ k (i:Int) m.Zh m.Zj s.1 s.2 d) all.length (fun i s=>Tr m s.1 s.2/\(∃t,s.1=all++t)/\s.1=pE (Gk N m) all (all.take i)) _ ?_ ?_ N 0 (all,met) I I ⟨ht,⟨[],by simp⟩,J⟩
 ·rintro k i ⟨al,mt⟩ hi ⟨h1,⟨t,h2⟩,h3⟩ go;show Sat (dA N ⟨m,all,met,d⟩ (k+1) (i:Int) m.Zh m.Zj al mt d) _;simp only at h1 h2 h3;have hlen1:=h1.len hs
  have htk:List.take all.length al=all:=by rw [h2,List.take_left'];rfl
  have hx:=Y4 hi;have hsm:=hs.at_ all[i];have hat:lL N ⟨m.Zh,m.Zj⟩ all[i]=some (co m all[i]):=IM N hs all[i] (ht.in64 hs hx)
  have hnext:pE (Gk N m) all (all.take (i+1))=lZ (aW m) al (iK N (co m all[i]) al):=by
   rw [ck hi,CY, <-h3];rfl
  rw [dA.eq_2];simp only [YZ];rw [fO I,ct,htk,aK hi,bs,hat,bs];unfold lJ;by_cases h8:(co m all[i]).Za=8
  ·rw [tc h8,ct,KG N hN al I _ I I,bs];obtain ⟨a6,a7⟩:=Jq N hs hw all[i] al;obtain ⟨⟨m',al',mt',d'⟩,e0,e1,e2,h5,h6⟩:=In N hN hs d _ a6 a7 h1;simp only at e1 e2 h5 h6;subst e1 e2;have e0':eJ N ⟨⟨m'.Zh,m'.Zj⟩,al,mt,d'⟩ (iK N (co m' all[i]) al)=some ⟨m',al',mt',d'⟩:=e0;rw [e0',bs]
   dsimp only
   rw [r64 I I];obtain ⟨t',e', -⟩:=mj (aW m') al (iK N (co m' all[i]) al);exact go (al',mt') ⟨h5,⟨t++t',by show al'=_;rw [h6,e',h2,W0]⟩,by show al'=_;rw [hnext,h6]⟩
  rw [jg h8,cf,r64 I I];refine go (al,mt) ⟨h1,⟨t,h2⟩,?_⟩
  have h0:iK N (co m all[i]) al=[]:=by
   unfold iK uh;rw [jg h8];rfl
  show al=_;rw [hnext,h0];rfl
 rintro k ⟨al,mt⟩ ⟨h1,⟨t,h2⟩,h3⟩;show Sat (dA N ⟨m,all,met,d⟩ (k+1) _ m.Zh m.Zj al mt d) _;rw [dA.eq_2];simp only [YZ] at h3⊢;rw [fD I,cf];exact ac ⟨J,J,h1,J,h3⟩
theorem Nu (N:Nat)(hN:6500<N){roots:List WK}(hs:Small m roots)(hw:W64 m)(hr:∀v∈roots,in64 v.N):
  ∃b all,IsOrder (Gk N m) (dF roots) b.Zx all/\all.length<=1200/\b.Zx.length<=1200/\oE N m roots=some b/\mu N m roots=some all:=by
 obtain ⟨⟨m',al0,mt0,d0⟩,e0,e1,e2,h1,h2⟩:=Od N hN hs hw hr;simp only at e1 e2 h1 h2;subst e1 e2;have hlen0:=h1.len hs
 have key:Sat (mu N m' roots) fun all=>Ord (Gk N m') al0 all/\all.length<=1200:=by
  unfold mu;rw [e0,bs];refine vQ (fun f (s:List Int×List (Int×Unit))=>mf N f m'.Zh m'.Zj s.1 s.2 (s.1.length:Int)) (fun s=>1300 - s.1.length) (fun s=>Tr m' s.1 s.2/\ ∀r,Ord (Gk N m') s.1 r->Ord (Gk N m') al0 r) _ ?_ N (al0,mt0) (by show 1300 - al0.length<N;omega) ⟨h1,fun _ h=>h⟩;rintro f ⟨al,mt⟩ ⟨h4,h5⟩ go;show Sat (mf N (f+1) m'.Zh m'.Zj al mt (al.length:Int)) _;simp only at h4 h5;have hlen:=h4.len hs;rw [mf.eq_2];obtain ⟨⟨b,m2,al2,mt2,d2⟩,g0,g1,g2,g3,g5,g6⟩:=OR N hN hs hw h4 (al.length:Int);simp only at g1 g2 g3 g5 g6;subst g1 g2;have hlen2:=g3.len hs;have g0':kS N ⟨⟨m2.Zh,m2.Zj⟩,al,mt,(al.length:Int)⟩=some (b,⟨m2,al2,mt2,(al.length:Int)⟩):=g0;obtain ⟨t2,ht2⟩:=vL (Gk N m2) al al;rw [g0',bs]
  dsimp only
  rw [g5]
  refine az (fun hlt=> ?_) fun hge=> ?_
  ·refine Sat.bind (DA N hN hs hw g3 al.length I) ?_;rintro ⟨m3,al3,mt3,d3⟩ ⟨k1,k2,k3,k4⟩;simp only at k1 k2 k3 k4;subst k1 k2;have hlen3:=k3.len hs;refine go (al3,mt3) ?_ ⟨k3,fun r h=>h5 r (.step ?_ (by rw [<-g6];exact k4) h)⟩
   ·show 1300 - al3.length<1300 - al.length;obtain ⟨t3,e3⟩:=k4.app
    have:al2.length<=al3.length:=by rw [e3,YW];omega
    omega
   rw [<-g6];intro e;rw [e] at hlt;omega
  have e:al2=al:=by
   rw [ht2] at g6;have h0:t2=[]:=Xy (by rw [g6,YW] at hge;omega);rw [g6,h0,Xp]
  subst e;unfold sd;exact ac ⟨h5 _ (.done g6.symm),by omega⟩
 obtain ⟨all,k1,k2,k3⟩:=key;exact ⟨⟨m',al0,mt0,(al0.length:Int)⟩,all,⟨h2,k2⟩,k3,hlen0,e0,k1⟩
theorem vD (l:List Int)(x:Int):x∈kA l↔x∈l:=by unfold kA;exact List.mem_mergeSort
theorem GQ {l:List Int}(h:l.Nodup):(kA l).Pairwise (· < ·):=by
 have h1:(kA l).Pairwise fun a b=>decide (a<=b)=true:=List.pairwise_mergeSort (by intro a b c h1 h2;simp at*;omega) (by intro a b;simp;omega) l
 have h2:(kA l).Nodup:=(List.mergeSort_perm l _).nodup_iff.2 h;rw [List.nodup_iff_pairwise_ne] at h2;exact h1.imp₂ (fun a b h3 h4=>by simp at h3;omega) h2
theorem EN {l s:List Int}(h:l.Nodup)(hs:s.Pairwise (· < ·))(he:∀x,x∈l↔x∈s):kA l=s:=MH (GQ h) hs fun x=>(vD l x).trans (he x)
theorem MZ (N:Nat)(l:List Int)(h:l.length<=5000):rp N l=some (kA l):=by
 unfold rp;rw [rF I]
theorem Q4 {N:Nat}{roots:List WK}{l s:List Int}(h:mu N m roots=some l)(hl:l.length<=5000)(hs:kA l=s):nD N m roots=some s:=by
 unfold nD;rw [h,bs,MZ N l hl,bs,hs]
structure Tq (m:WO) (all:List Int):Prop where
 nd:all.Nodup
 has: ∀x∈all,aW m x=true
theorem Tq.len {roots:List WK}(hs:Small m roots){all:List Int}(h:Tq m all):all.length<=1200:=Fv 1200 h.nd fun x hx=>⟨by have:=vW (h.has x hx);omega,by have:=Cd hs (h.has x hx);omega⟩
theorem Tq.in64 {roots:List WK}(hs:Small m roots){all:List Int}(h:Tq m all)(hx:x∈all):in64 x:=by
 have h1:=vW (h.has x hx);have h2:=Cd hs (h.has x hx);unfold Go.Proofs.YtmcifcmlojonnaaGreatDoor.in64;omega
theorem Tq.lay {all:List Int}(h:Tq m all)(l:List Int):Tq m (lZ (aW m) all l):=⟨ra l h.nd,fun x hx=>(BW hx).elim (h.has x) (·.1)⟩
theorem ET (N:Nat){roots:List WK}(hN:6500<N)(hs:Small m roots)(l:List Int)(hl:l.length<=3600)(h64:∀x∈l,in64 x){all:List Int}(ht:Tq m all):tt N m all l=some (lZ (aW m) all l):=by
 apply Sat.eq;unfold tt;refine jo (fun k i (s:List Int)=>qV N l m k s (i:Int)) l.length (fun i s=>Tq m s/\s=lZ (aW m) all (l.take i)) _ ?_ ?_ N 0 all I I ⟨ht,J⟩
 ·rintro k i s hi ⟨h0,h1⟩ go;show Sat (qV N l m (k+1) s (i:Int)) _;have a6:=h64 l[i] (Y4 _);have hsl:=h0.len hs
  have hnext:lZ (aW m) all (l.take (i+1))=(bif aW m l[i]&& !decide (l[i]∈s) then s++ [l[i]] else s):=by
   rw [ck hi,BV, <-h1];rfl
  have hT:Tq m (lZ (aW m) all (l.take (i+1))):=ht.lay _;rw [qV.eq_2,fO I,ct];simp only [aK hi,bs,Mg N m _ a6,Vr N hN s I l[i]];unfold yh;cases hh:aW m l[i]
  ·simp only [cf,bs];rw [r64 I I];exact go s ⟨h0,by rw [hnext,hh];rfl⟩
  simp only [ct,bs];by_cases hm:l[i]∈s
  ·rw [WX hm];simp only [nt,cf];rw [r64 I I];exact go s ⟨h0,by rw [hnext,hh,WX hm];rfl⟩
  have e:lZ (aW m) all (l.take (i+1))=s++ [l[i]]:=by rw [hnext,hh,WY hm];rfl
  rw [WY hm];simp only [nf,ct];rw [rF (by simp;omega),r64 I I];exact go (s++ [l[i]]) ⟨e▸hT,e.symm⟩
 rintro k s ⟨h0,h1⟩;show Sat (qV N l m (k+1) s _) _;rw [qV.eq_2,fD I,cf];exact ac (by simpa using h1)
theorem Nl (N:Nat)(hN:6500<N)(l:List WK)(hl:l.length<=3600):oV N l=some (dF l):=by
 apply Sat.eq;unfold oV;refine jo (fun k i (s:List Int)=>jb N l k s (i:Int)) l.length (fun i s=>s=dF (l.take i)) _ ?_ ?_ N 0 [] I I J
 ·rintro k i s hi h1 go;show Sat (jb N l (k+1) s (i:Int)) _
  have hsl:s.length<=3600:=by
   rw [h1];unfold dF;rw [YY];exact YB (XX _ _) (by rw [YX];omega)
  have hnext:dF (l.take (i+1))=s++dF [l[i]]:=by rw [ck hi,Dp,h1]
  rw [jb.eq_2,fO I,ct];simp only [aK hi,bs,vT];unfold qW;cases hb:bL l[i]
  ·simp only [cf];rw [r64 I I];exact go s (by rw [hnext];simp [dF,hb])
  simp only [ct];rw [rF (by simp;omega),r64 I I];exact go (s++ [l[i].N]) (by rw [hnext];simp [dF,hb])
 rintro k s h1;show Sat (jb N l (k+1) s _) _;rw [jb.eq_2,fD I,cf];exact ac (by simpa using h1)
theorem Bh (N:Nat)(hN:6500<N){roots:List WK}(hs:Small m roots)(hw:W64 m){all:List Int}(ht:Tq m all)(k:Nat)(hk:k<=all.length):
  Sat (mv N m all (k:Int)) fun r=>Tq m r/\Thr (Gk N m) all k r:=by
 unfold mv;refine vQ (fun f (s:List Int×Nat)=>qb N m f s.1 (s.2:Int)) (fun s=>1300 - s.2) (fun s=>Tq m s.1/\s.2<=s.1.length/\ ∀r,Thr (Gk N m) s.1 s.2 r->Thr (Gk N m) all k r) _ ?_ N (all,k) (by show 1300 - k<N;omega) ⟨ht,hk,fun _ h=>h⟩;rintro f ⟨al,j⟩ ⟨h1,h3,h4⟩ go;show Sat (qb N m (f+1) al (j:Int)) _;simp only at h1 h3 h4;have hlen:=h1.len hs;rw [qb.eq_2];by_cases hj:j<al.length
 ·have hx:=Y4 hj;have hsm:=hs.at_ al[j];obtain ⟨a6,a7⟩:=Jz hs hw al[j];rw [fO I,ct,aK hj,bs,P4 N m _ (h1.in64 hs hx),bs,NL N I _ I I,bs,ET N hN hs _ a6 a7 h1,bs,r64 I I]
  have hge:al.length<=(lZ (aW m) al (gw (co m al[j]))).length:=by
   obtain ⟨t,e, -⟩:=mj (aW m) al (gw (co m al[j]));rw [e,YW];omega
  exact go (lZ (aW m) al (gw (co m al[j])),j+1) (by show 1300 - (j+1)<1300 - j;omega) ⟨h1.lay _,by show j+1<=(lZ (aW m) al (gw (co m al[j]))).length;omega,fun r hr=>h4 r (.step (XL hj) hr)⟩
 have:j=al.length:=by omega
 subst this;rw [fD I,cf];exact ac ⟨h1,h4 _ (.done (YA _))⟩
theorem Ko (N:Nat)(hN:6500<N){roots:List WK}(hs:Small m roots)(hw:W64 m)(hr:∀v∈roots,in64 v.N):
  ∃b all,IsOrder (Gk N m) (dF roots) b all/\uO N m roots=some all/\((oV N roots).bind fun y5=>(tt N m ([]:List Int) y5).bind fun y8=>mv N m y8 0)=some b:=by
 have hrl:=hs.roots;have ha:=Nl N hN roots I
 have h64: ∀x∈dF roots,in64 x:=fun x hx=>by
  obtain ⟨v,h1, -,rfl⟩:=tw.1 hx;exact hr v h1
 have hal:(dF roots).length<=3600:=by
  unfold dF;rw [YY];exact YB (XX _ _) I
 have hT0:Tq m []:=⟨List.nodup_nil,by simp⟩;have hlay:=ET N hN hs (dF roots) hal h64 hT0;obtain ⟨b,b0,b1,b2⟩:=Bh N hN hs hw (hT0.lay (dF roots)) 0 (YH _);have b0':mv N m (lZ (aW m) [] (dF roots)) 0=some b:=b0
 have key:Sat (uO N m roots) fun all=>Ord (Gk N m) b all:=by
  unfold uO;rw [ha,bs,hlay,bs,b0',bs];refine vQ (fun f (s:List Int)=>kw N m f s) (fun s=>1300 - s.length) (fun s=>Tq m s/\ ∀r,Ord (Gk N m) s r->Ord (Gk N m) b r) _ ?_ N b (by show 1300 - b.length<N;omega) ⟨b1,fun _ h=>h⟩;rintro f al ⟨h4,h5⟩ go;show Sat (kw N m (f+1) al) _;have hlen:=h4.len hs;rw [kw.eq_2];refine jo (fun k i (s:List Int)=>oG N (kw N m f) al m k s (i:Int)) al.length (fun i s=>Tq m s/\(∃t,s=al++t)/\s=pE (Gk N m) al (al.take i)) _ ?_ ?_ N 0 al I I ⟨h4,⟨[],by simp⟩,J⟩
  ·rintro k i s hi ⟨h0,⟨t,h1⟩,h2⟩ go2;show Sat (oG N (kw N m f) al m (k+1) s (i:Int)) _;have hsl:=h0.len hs
   have hg:au s (i:Int)=some al[i]:=by
    rw [oJ,h1,XG hi,XL hi]
   have hx:=Y4 hi;have hsm:=hs.at_ al[i];obtain ⟨a6,a7⟩:=Jq N hs hw al[i] s
   have hnext:pE (Gk N m) al (al.take (i+1))=lZ (aW m) s (iK N (co m al[i]) s):=by
    rw [ck hi,CY, <-h2];rfl
   rw [oG.eq_2,fO I,ct,hg,bs,P4 N m _ (h4.in64 hs hx),bs,Nw N hN s I _ I I,bs,ET N hN hs _ a6 a7 h0,bs,r64 I I];obtain ⟨t',e', -⟩:=mj (aW m) s (iK N (co m al[i]) s);exact go2 _ ⟨h0.lay _,⟨t++t',by rw [e',h1,W0]⟩,hnext.symm⟩
  rintro k s ⟨h0,⟨t,h1⟩,h2⟩;show Sat (oG N (kw N m f) al m (k+1) s _) _;have hsl:=h0.len hs;simp only [YZ] at h2;rw [oG.eq_2,fD I,cf];unfold z6
  refine az (fun he=> ?_) fun hne=> ?_
  ·have h6:t=[]:=Xy (by rw [h1,YW] at he;omega)
   have h7:s=al:=by rw [h1,h6,Xp]
   exact ac (by rw [h7] at h2⊢;exact h5 _ (.done h2.symm))
  have hle:al.length<=s.length:=by rw [h1,YW];omega
  refine Sat.bind (Bh N hN hs hw h0 al.length hle) fun r ⟨r1,r2⟩=> ?_
  obtain ⟨t3,e3⟩:=r2.app;have a8:=r1.len hs;refine go r ?_ ⟨r1,fun r' hr'=>h5 r' (.step ?_ (by rw [<-h2];exact r2) hr')⟩
  ·show 1300 - r.length<1300 - al.length
   have:s.length<=r.length:=by rw [e3,YW];omega
   omega
  rw [<-h2];intro e;rw [e] at hne;omega
 obtain ⟨all,k1,k2⟩:=key;exact ⟨b,all,⟨b2,k2⟩,k1,by rw [ha,bs,hlay,bs];exact b0'⟩
theorem GP: ∀{s:List Int} {k:Nat} (h:k+1<s.length),((s.set (k+1) (s[k]'I)).set k s[k+1]).Perm s
 |a::b::r,0,_=>List.Perm.swap a b r
 |a::r,k+1,h=>by
  have ih:=GP (s:=r) (k:=k) (by simpa using h);simp only [List.set_cons_succ,List.getElem_cons_succ];exact ih.cons a
def VD (s:List Int)(i k:Nat):Prop:= ∀a b:Nat,a<b->b<=i->b≠k->s.getD a 0<=s.getD b 0
theorem Cf (s:List Int)(i j:Nat)(x:Int)(hi:i<s.length):(s.set i x).getD j 0=if j=i then x else s.getD j 0:=by
 by_cases e:j=i
 ·subst e;simp [List.getD,hi]
 rw [if_neg e];simp only [List.getD];rw [XP (fun h=>e h.symm)]
theorem zm (s:List Int)(i:Nat)(hi:i<s.length):s.getD i 0=s[i]:=by simp [List.getD,hi]
theorem Kp (N:Nat)(hN:6500<N)(l:List Int)(hl:l.length<=3600)(hn:l.Nodup):wE N l=some (kA l):=by
 apply Sat.eq;unfold wE;rw [rF (by simp;omega),Y3]
 have fin: ∀s:List Int,s.Perm l->VD s (l.length - 1) l.length->s=kA l:=fun s hp hi=>by
  have hlen:=hp.length_eq;have hnd:s.Nodup:=hp.nodup_iff.2 hn;refine (EN hn (Yk.2 fun a b ha hb hab=> ?_) fun x=>(hp.mem_iff).symm).symm;have h1:=hi a b hab I I;rw [zm s a ha,zm s b hb] at h1;have h2:=Yk.1 (List.nodup_iff_pairwise_ne.1 hnd) a b ha hb hab;omega
 by_cases h0:l.length=0
 ·have e:l=[]:=Xy h0;subst e;obtain ⟨n,rfl⟩: ∃n,N=n+1:=⟨N - 1,by omega⟩;rw [iU.eq_2,fD (by simp),cf];exact ac (by unfold kA;simp)
 refine jo (fun k i (s:List Int)=>iU N k s (i:Int)) l.length (fun i s=>s.Perm l/\VD s (i - 1) l.length) _ ?_ ?_ N 1 l I I ⟨List.Perm.refl _,fun a b h1 h2=>absurd h2 I⟩
 ·rintro f i s hi ⟨h1,h2⟩ go;show Sat (iU N (f+1) s (i:Int)) _;have hlen:=h1.length_eq;rw [iU.eq_2,hlen,fO I,ct]
  have hi0:i<=l.length:=by omega
  refine vQ (fun k (st:List Int×Nat)=>qc N (iU N f) (i:Int) k st.1 (st.2:Int)) (fun st=>st.2) (fun st=>st.1.Perm l/\st.2<=i/\VD st.1 i st.2) _ ?_ N (s,i) (by show i<N;omega) ⟨h1,YA _,fun a b q1 q2 q3=>h2 a b q1 (by show b<=i - 1;simp only at q3;omega) I⟩;rintro k ⟨t,j⟩ ⟨g1,g2,g3⟩ go2;simp only at g1 g2 g3;show Sat (qc N (iU N f) (i:Int) (k+1) t (j:Int)) _;have hlt:=g1.length_eq
  have stop:(j=0\/t.getD (j - 1) 0<=t.getD j 0)->Sat (ua N (iU N f) (i:Int) t) (· =kA l):=fun hst=>by
   unfold ua;rw [r64 I I];refine go t ⟨g1,fun a b q1 q2 q3=> ?_⟩
   have q2':b<=i:=by omega
   by_cases e:b=j
   ·subst e;rcases hst with h|h
    ·omega
    by_cases e2:a=b - 1
    ·subst e2;exact h
    have:=g3 a (b - 1) I I I;omega
   exact g3 a b q1 q2' e
  rw [qc.eq_2];by_cases hj:0<j
  ·have hp:au t ((j:Int) - 1)=some (t[j - 1]'I):=by
    have:=aK (xs:=t) (i:=j - 1) I;rw [show (((j - 1:Nat)):Int)=(j:Int) - 1 by omega] at this;exact this
   have hq:au t (j:Int)=some (t[j]'I):=aK I;rw [fO I,ct,r64 I I,hp,bs,hq,bs,bs];by_cases hc:t[j]'I<t[j - 1]'I
   ·rw [fO hc,ct,bs,r64 (a:=(j:Int) - 1) I I,bs,bs,r64 (a:=(j:Int) - 1) I I]
    have hs2:au (List.set t (j:Int).toNat (t[j - 1]'I)) ((j:Int) - 1)=some ((List.set t (j:Int).toNat (t[j - 1]'I))[j - 1]'(by simp;omega)):=by
     have:=aK (xs:=List.set t (j:Int).toNat (t[j - 1]'I)) (i:=j - 1) (by simp;omega);rw [show (((j - 1:Nat)):Int)=(j:Int) - 1 by omega] at this;exact this
    rw [hs2,bs,r64 (a:=(j:Int) - 1) I I,Xm,show ((j:Int) - 1).toNat=j - 1 by omega,show (j:Int) - 1=((j - 1:Nat):Int) by omega];obtain ⟨q,rfl⟩: ∃q,j=q+1:=⟨j - 1,by omega⟩;simp only [Nat.add_sub_cancel] at*;refine go2 ((t.set (q+1) (t[q]'I)).set q (t[q+1]'I),q) (by show q<q+1;omega) ⟨(GP I).trans g1,by show q<=i;omega,fun a b q1 q2 q3=> ?_⟩;have q3':b≠q:=q3;have hqa:=zm t q I;have hqb:=zm t (q+1) I;show ((t.set (q+1) (t[q]'I)).set q (t[q+1]'I)).getD a 0<=((t.set (q+1) (t[q]'I)).set q (t[q+1]'I)).getD b 0;rw [Cf _ q _ _ (by simp;omega),Cf _ q _ _ (by simp;omega),Cf t (q+1) _ _ I,Cf t (q+1) _ _ I,if_neg q3'];by_cases b1:b=q+1
    ·rw [if_pos b1];by_cases a1:a=q
     ·rw [if_pos a1];omega
     rw [if_neg a1,if_neg I, <-hqa];exact g3 a q I I I
    rw [if_neg b1];by_cases a1:a=q
    ·rw [if_pos a1, <-hqb];exact g3 (q+1) b I q2 b1
    rw [if_neg a1];by_cases a2:a=q+1
    ·rw [if_pos a2, <-hqa];exact g3 q b I q2 b1
    rw [if_neg a2];exact g3 a b q1 q2 b1
   rw [fD I,cf];refine stop (.inr ?_);rw [zm t (j - 1) I,zm t j I];omega
  rw [fD I,cf,bs,cf];exact stop (.inl I)
 rintro f s ⟨h1,h2⟩;show Sat (iU N (f+1) s _) _;rw [iU.eq_2,h1.length_eq,fD I,cf];unfold zZ;exact ac (fin s h1 h2)
def pN (c:WI):List Int:=pick (fun i v=>oy c.Za i&&bL v) 0 c.Zb
theorem Dv (N:Nat)(hN:6500<N)(c:WI)(hS:c.Zc.length<=1000)(hc:c.Zb.length<=2900):oO N c=some (pN c):=by
 unfold oO pN;rw [yP N hN false c hS hc,bs]
 have e1:(fun (_:Nat) (v:WK)=>(true==false)&&bL v)=fun _ _=>false:=by funext i v;rfl
 have e2:(fun (i:Nat) (v:WK)=>(mL c.Za i==false)&&bL v)=fun i v=>oy c.Za i&&bL v:=by funext i v;rw [DC];cases oy c.Za i<;>rfl
 rw [e1,e2,G0,Y3]
theorem uB (c:WI):(pN c).length<=c.Zb.length:=BG _ 0 c.Zb
theorem I0 (h:x∈pN c): ∃v∈c.Zc++c.Zb,v.N=x:=by
 obtain ⟨v,h1,h2⟩:=BF h;exact ⟨v,W3 _ h1,h2⟩
def wh (m:WO)(l:List Int):Bool:=l.all (aW m)
theorem MS {roots:List WK}(hs:Small m roots)(hw:W64 m)(hc:c∈m.Zh++m.Zj):((gw c).length<=3500/\ ∀x∈gw c,in64 x)/\(pN c).length<=2900/\ ∀x∈pN c,in64 x:=by
 have h1:=hs.cells c hc;have h2:=uf c;have h3:=uB c;refine ⟨⟨by omega,fun x hx=> ?_⟩,by omega,fun x hx=> ?_⟩
 ·obtain ⟨v,h4,rfl⟩:=FG hx;exact hw c hc v h4
 obtain ⟨v,h4,rfl⟩:=I0 hx;exact hw c hc v h4
def wt:List WI->Nat
 | []=>0
 |c::l=>1+c.Zc.length+c.Zb.length+wt l
theorem ED: ∀a b:List WI,wt (a++b)=wt a+wt b
 | [],b=>by simp [wt]
 |c::a,b=>by rw [Xs,wt,wt,ED a b];omega
theorem Qr {l:List WI}(h:i<l.length):wt (l.take (i+1))=wt (l.take i)+(1+l[i].Zc.length+l[i].Zb.length):=by
 rw [ck h,ED];simp [wt]
structure Wtd (m:WO) (roots:List WK):Prop where
 le:roots.length+wt m.Zh+wt m.Zj<=2900
 cnt:m.Zh.length+m.Zj.length<=600
def jJ (p:Int->Bool):List WK->List WK
 |k::v::r=>(bif p k.N then [k,v] else [])++jJ p r
 |_=> []
theorem Gb (p:Int->Bool): ∀l:List WK,(jJ p l).length<=l.length
 | []=>by simp [jJ]
 | [_]=>by simp [jJ]
 |k::v::r=>by
  have:=Gb p r;unfold jJ;cases p k.N<;>simp<;>omega
theorem AQ {x:WK}: ∀{l:List WK},x∈jJ p l->x∈l
 | [],h=>by simp [jJ] at h
 | [_],h=>by simp [jJ] at h
 | k::v::r,h=>by
  unfold jJ at h;rcases X6.1 h with h|h
  ·cases hp:p k.N with
   |false=>rw [hp] at h;cases h
   |true=>rw [hp] at h;simp at h;rcases h with h|h<;>simp [h]
  have:=AQ h;simp [this]
def sn (l:List Int)(c:WI):WI:=bif uh N c then ⟨c.Za,c.Zi,c.Ze,c.Zf,c.Zc,jJ (fun x=>decide (x∈l)) c.Zb⟩ else c
theorem NN (N:Nat)(hN:6500<N)(l:List Int)(hl:l.length<=5000)(y:WI)(k v:WK)(s:List WK)(hs:s.length<=5000):cM (fun x st=>kr N (fun x=>jK N x l) y x st) (k,v) (none,s)=some (true,(none,s++(bif decide (k.N∈l) then [k,v] else []))):=by
 unfold cM kr jK;simp only [bs,Af N hN l hl];cases decide (k.N∈l)
 ·simp only [cf,Xp];rfl
 simp only [ct];rw [rF (by simp;omega)];rfl
theorem Hl (N:Nat)(hN:6500<N)(l:List Int)(hl:l.length<=5000)(y c:WI)(hc:c.Zb.length<=2900)(he:c.Zb.length%2=0): ∀(m i:Nat) (s:List WK),c.Zb.length<m+i->i<=c.Zb.length->i%2=0->s.length<=i->eK N (cM (fun x st=>kr N (fun x=>jK N x l) y x st)) c m (i:Int) (none,s)=some (none,s++jJ (fun x=>decide (x∈l)) (c.Zb.drop i))
 |0,i,s,h,h2,_,_=>by omega
 | m+1,i,s,h,h2,h3,h4=>by
  rw [eK.eq_2,r64 (a:=(i:Int)+1) I I];by_cases hi:i<c.Zb.length
  ·have hi1:i+1<c.Zb.length:=by omega
   have a6:au c.Zb ((i:Int)+1)=some c.Zb[i+1]:=by
    have:=aK hi1;simpa using this
   rw [fO I,ct,aK hi,bs,r64 (a:=(i:Int)+1) I I,a6,bs,NN N hN l hl y _ _ s I,bs];simp only [nt,cf];rw [r64 I I]
   have hlen:(s++(bif decide (c.Zb[i].N∈l) then [c.Zb[i],c.Zb[i+1]] else [])).length<=i+2:=by
    cases decide (c.Zb[i].N∈l)<;>simp<;>omega
   have:=Hl N hN l hl y c hc he m (i+2) _ I I I hlen;simp only [Xj,Xh] at this;rw [this,Xt hi,Xt hi1,W0];rfl
  rw [fD I,cf,Xu I];simp [jJ]
theorem Lo (N:Nat)(hN:6500<N)(l:List Int)(hl:l.length<=5000)(c:WI)(hS:c.Zc.length<=600)(hc:c.Zb.length<=2900):pO N c l=some (bif uh N c then sn N l c else GN):=by
 obtain ⟨-,h1,h2⟩:=KZ N I c I I;unfold pO xB jR sn;rw [h1,bs];cases hw:uh N c
 ·rfl
 have e:mY N c=some ():=rfl;have:=Hl N hN l hl c c I (h2 hw) N 0 [] I I rfl (by simp);simp only [nt,cf,ct,e,bs,pJ N c ⟨hS,hc⟩];have h3:eK N (cM (fun x st=>kr N (fun x=>jK N x l) c x st)) c N 0 (none,[])=some (none,[]++jJ (fun x=>decide (x∈l)) (c.Zb.drop 0)):=this;rw [h3,bs];rfl
theorem Lq (N:Nat)(l:List Int)(c:WI):(sn N l c).Zc.length=c.Zc.length/\(sn N l c).Zb.length<=c.Zb.length:=by
 unfold sn;cases uh N c
 ·exact ⟨J,YA _⟩
 exact ⟨J,Gb _ _⟩
theorem Lp {N:Nat}{l:List Int}(h:v∈(sn N l c).Zc++(sn N l c).Zb):v∈c.Zc++c.Zb:=by
 unfold sn at h;cases hw:uh N c
 ·rw [hw] at h;exact h
 rw [hw] at h;rcases X6.1 h with h|h
 ·exact W2 _ h
 exact W3 _ (AQ h)
def K4 (c:WI):Bool:=decide (c.Za=10)&&(fQ N c).getD false
theorem wM {roots:List WK}(hs:Small m roots)(h:aW m x=true):in64 x:=by
 have h2:=vW h;have h3:=Cd hs h;unfold in64;omega
def nW:WK:=⟨0,0,⟨#[]⟩⟩
def fd (l:List Int):List WK->List WK
 |t::h::k::s::r=>(bif decide (t.N∈l) then [t,h,(bif decide (k.Za=7)&& !decide (k.N∈l) then nW else k),s] else [])++fd l r
 |_=> []
def pR (l:List Int)(cb:WK):List WK->List WK
 |t::h::_::s::r=>(bif decide (t.N∈l) then [] else [cb,h,s])++pR l cb r
 |_=> []
theorem AH (l:List Int)(t h k s:WK)(r:List WK):fd l (t::h::k::s::r)=(bif decide (t.N∈l) then [t,h,(bif decide (k.Za=7)&& !decide (k.N∈l) then nW else k),s] else [])++fd l r:=Eq.trans rfl rfl
theorem DT (p:Int->Bool)(k v:WK)(r:List WK):jJ p (k::v::r)=(bif p k.N then [k,v] else [])++jJ p r:=Eq.trans rfl rfl
theorem Pd (l:List Int)(cb:WK): ∀xs:List WK,(fd l xs).length+(pR l cb xs).length<=xs.length
 | []=>by simp [fd,pR]
 | [_]=>by simp [fd,pR]
 | [_,_]=>by simp [fd,pR]
 | [_,_,_]=>by simp [fd,pR]
 |t::h::k::s::r=>by
  have:=Pd l cb r;unfold fd pR;cases decide (t.N∈l)<;>simp<;>omega
def Gc (l:List Int)(c:WI):WI×List WK:=(⟨c.Za,c.Zi,c.Ze,c.Zf,c.Zc,c.Zb.take 1++fd l (c.Zb.drop 1)⟩,pR l (c.Zb.headD nW) (c.Zb.drop 1))
theorem four (h:4<=l.length): ∃t a k s r,l=t::a::k::s::r:=by
 match l,h with
 |t::a::k::s::r,_=>exact ⟨t,a,k,s,r,rfl⟩
theorem JL (N:Nat)(hN:6500<N)(l:List Int)(p:List (Int×Bool))(hp:∀x,(lk p x).getD false=decide (x∈l))(c y:WI)(cb:WK)(hcb:c.Zb[0]? =some cb)(hc:c.Zb.length<=2900): ∀(m i:Nat) (o t:List WK),c.Zb.length<m+i->i<=c.Zb.length->(c.Zb.length - i)%4=0->o.length<=i->t.length<=i->ig N (cM (fun x st=>gG N c p y x st)) c m (i:Int) (none,(o,t))=some (none,(o++fd l (c.Zb.drop i),t++pR l cb (c.Zb.drop i)))
 |0,i,o,t,h,h2,_,_,_=>by omega
 | m +1,i,o,t,h,h2,h3,h4,h5=>by
  rw [ig.eq_2,r64 (a:=(i:Int)+4) I I];by_cases hi:i+4<=c.Zb.length
  ·obtain ⟨v1,v2,v3,v4,r,hd⟩:=four (l:=c.Zb.drop i) (by rw [XW];omega)
   have hd4:c.Zb.drop (i+4)=r:=by rw [<-List.drop_drop,hd];rfl
   have hx:(c.Zb.drop (i:Int).toNat).take (((i:Int)+4).toNat - (i:Int).toNat)=[v1,v2,v3,v4]:=by
    rw [Xm,show ((i:Int)+4).toNat - i=4 by omega,hd];rfl
   have h0:au c.Zb 0=some cb:=by
    have:=oJ c.Zb 0;rw [hcb] at this;exact this
   have e0:au [v1,v2,v3,v4] 0=some v1:=rfl;have e1:au [v1,v2,v3,v4] 1=some v2:=rfl;have e2:au [v1,v2,v3,v4] 2=some v3:=rfl;have e3:au [v1,v2,v3,v4] 3=some v4:=rfl;rw [Q7 I,ct,r64 I I,r64 I I,cF ⟨by omega,by omega,by omega,by omega⟩,hx]
   have hb:cM (fun x st=>gG N c p y x st) ((i:Int),[v1,v2,v3,v4]) (none,(o,t))=some (true,(none,(o++(bif decide (v1.N∈l) then [v1,v2,(bif decide (v3.Za=7)&& !decide (v3.N∈l) then nW else v3),v4] else []),t++(bif decide (v1.N∈l) then [] else [cb,v2,v4])))):=by
    unfold cM gG;simp only [e0,e1,e2,e3,bs,hp,h0];unfold nP;simp only [e0,e1,e2,e3,bs];cases decide (v1.N∈l)
    ·simp only [nf,ct,cf,Xp];rw [rF (by simp;omega)];rfl
    simp only [nt,ct,cf,Xp];rw [rF (by simp;omega),rF (by simp;omega)];cases decide (v3.Za=7)<;>cases decide (v3.N∈l)<;>rfl
   rw [hb,bs];simp only [nt,cf];rw [r64 I I];have:=JL N hN l p hp c y cb hcb hc m (i+4) (o++(bif decide (v1.N∈l) then [v1,v2,(bif decide (v3.Za=7)&& !decide (v3.N∈l) then nW else v3),v4] else [])) (t++(bif decide (v1.N∈l) then [] else [cb,v2,v4])) I hi I (by cases decide (v1.N∈l)<;>simp<;>omega) (by cases decide (v1.N∈l)<;>simp<;>omega);rw [show (((i+4:Nat)):Int)=(i:Int)+4 by omega] at this;rw [this,hd4,hd,W0,W0];rfl
  rw [Q8 I,cf,Xu I];simp [fd,pR]
theorem Rb (N:Nat)(hN:6500<N)(c:WI)(hS:c.Zc.length<=1000)(hc:c.Zb.length<=2900):uX N c=some (K4 N c)/\(K4 N c=true->1<=c.Zb.length/\(c.Zb.length - 1)%4=0):=by
 obtain ⟨b,hb,a6⟩:=GY N hN c hS hc;unfold uX K4;rw [Bi N hN c hS hc,hb];refine ⟨by cases decide (c.Za=10)<;>cases b<;>rfl,fun h=> ?_⟩;rw [Y0,YS] at h;exact (a6 h.2).2 h.1
theorem GG (N:Nat)(hN:6500<N)(l:List Int)(hl:l.length<=5000)(c:WI)(hS:c.Zc.length<=600)(hc:c.Zb.length<=2900):ns N c l=some (bif K4 N c then Gc l c else (GN,[])):=by
 obtain ⟨h1,h2⟩:=Rb N I c I I;unfold ns;rw [h1,bs];cases hw:K4 N c
 ·rfl
 obtain ⟨g1,g2⟩:=h2 hw;simp only [nt,cf,ct]
 have hcb:c.Zb[0]? =some (c.Zb.headD nW):=by
  cases hm:c.Zb with
  |nil=>rw [hm] at g1;simp at g1
  |cons a r=>rfl
 apply Sat.eq;refine jo (fun k i (s:List (Int×Bool))=>jf N l c k (i:Int) s) l.length (fun i s=> ∀x,(lk s x).getD false=decide (x∈l.take i)) _ ?_ ?_ N 0 [] I I (fun x=>by simp;rfl)
 ·intro k i s hi h3 go;show Sat (jf N l c (k+1) (i:Int) s) _;rw [jf.eq_2,fO I,ct,aK hi,bs,r64 I I]
  refine go _ fun x=> ?_
  rw [Pc,ck hi];by_cases e:l[i]=x
  ·rw [if_pos e,WX (by simp [e])];rfl
  rw [if_neg e,h3 x];by_cases hm:x∈l.take i
  ·rw [WX hm,WX (W2 _ hm)]
  rw [WY hm,WY (by simp only [X6,Yg];exact fun h=>h.elim hm fun h=>e h.symm)]
 intro k s h3;show Sat (jf N l c (k+1) _ s) _;rw [YZ] at h3;rw [jf.eq_2,fD I,cf];unfold rf vp dv rd oq
 have h0:au c.Zb 0=some (c.Zb.headD nW):=by
  have:=oJ c.Zb 0;rw [hcb] at this;exact this
 rw [rF (by simp;omega),bs,h0,bs,bs,bs];have:=JL N hN l s h3 c ⟨c.Za,c.Zi,c.Ze,c.Zf,[]++c.Zc,[c.Zb.headD nW]⟩ _ hcb I N 1 [c.Zb.headD nW] [] I g1 g2 (by simp) (by simp);have this':ig N (cM (fun x st=>gG N c s ⟨c.Za,c.Zi,c.Ze,c.Zf,[]++c.Zc,[c.Zb.headD nW]⟩ x st)) c N 1 (none,([c.Zb.headD nW],[]))=_:=this;rw [this',bs];refine ac ?_
 have ht:c.Zb.take 1=[c.Zb.headD nW]:=by
  cases hm:c.Zb with
  |nil=>rw [hm] at g1;simp at g1
  |cons a r=>rfl
 unfold Gc;rw [ht];rfl
def xd (a:Int):Bool:=decide (a.tmod 2=0)
def GD (a:Int):Bool:=decide (a.tmod 2=1)
def qi (live:List Int):List Int:=live.filter xd++live.filter GD
theorem zn: ∀{l:List Int} {i:Nat} (hi:i<l.length),p l[i]=true->(l.filter p)[((l.take i).filter p).length]? =some l[i]
 |x::l,0,hi,h=>by
  simp only [List.getElem_cons_zero] at h;simp [h]
 |x::l,i+1,hi,h=>by
  simp only [List.getElem_cons_succ] at h;have ih:=zn (l:=l) (i:=i) (by simpa using hi) h;rw [Yr]
  cases hx:p x with
  |true=>simp only [XB,hx,if_true,XV,XI,List.getElem_cons_succ];exact ih
  |false=>simp only [XB,hx,Xf,if_false,List.getElem_cons_succ];exact ih
theorem JM {l:List Int}(hi:i<l.length):((l.take (i+1)).filter p).length=((l.take i).filter p).length+(bif p l[i] then 1 else 0):=by
 rw [ck hi,XA,YW];cases h:p l[i]<;>simp [h]
theorem Fl (N:Nat)(φ:Int×Int->σ->Option (Option Exit×σ))(live:List Int)(hl:live.length<=2000)(hN:6500<N)(kb:Int->Int->Option Exit×σ->Option (Option Exit×σ))(b:Int)(p:Int->Bool)(hp:∀a,p a=decide (a.tmod 2=b))(p6:Int)(h6:0<=p6/\p6<=2)(n0:Nat)(hn0:n0<=2000)(Inv:Nat->σ->Prop)(R:Option Exit×σ->Prop)(hstep:∀i (hi:i<live.length) s,p live[i]=true->Inv (n0+((live.take i).filter p).length) s->Sat (φ (((n0+((live.take i).filter p).length:Nat):Int),live[i]) s) fun r=>r.1=none/\Inv (n0+((live.take i).filter p).length+1) r.2)(hk:∀s,Inv (n0+(live.filter p).length) s->Sat (kb ((n0+(live.filter p).length:Nat):Int) (p6+1) (none,s)) R)(s:σ)(hs:Inv n0 s):Sat (cZ N kb (cM φ) b p6 live N (n0:Int) 0 (none,s)) R:=by
 have hfl: ∀i,((live.take i).filter p).length<=2000:=fun i=>YB (XX _ _) (by rw [YX];omega)
 refine jo (fun k i (st:Nat×σ)=>cZ N kb (cM φ) b p6 live k (st.1:Int) (i:Int) (none,st.2)) live.length (fun i st=>st.1=n0+((live.take i).filter p).length/\Inv st.1 st.2) _ ?_ ?_ N 0 (n0,s) I I ⟨by simp,hs⟩
 ·rintro k i ⟨n,st⟩ hi ⟨h1,h2⟩ go;simp only at h1 h2;have hb:=hfl i;show Sat (cZ N kb (cM φ) b p6 live (k+1) (n:Int) (i:Int) (none,st)) _;have hnx:=JM (p:=p) hi;rw [cZ.eq_2,fO I,ct,aK hi,bs, <-hp];unfold lW;rw [r64 (a:=(i:Int)+1) I I];cases hq:p live[i]
  ·simp only [nf,ct];rw [hq] at hnx;have hg:=go (n,st) ⟨by show n=_;rw [hnx];exact h1,h2⟩
   first|rw [r64 (a:=(i:Int)+1) I I]|skip
   exact hg
  simp only [nt,cf];rw [hq] at hnx;obtain ⟨⟨e,s'⟩,g1,g2,g3⟩:=hstep i hi st hq (by rw [<-h1];exact h2);simp only at g2 g3;subst g2
  have hf:cM φ ((n:Int),live[i]) (none,st)=some (true,(none,s')):=by
   unfold cM;simp only;rw [h1,g1];rfl
  rw [hf,bs];simp only [nt,cf];rw [r64 (a:=(n:Int)+1) I I];have hg:=go (n+1,s') ⟨by show n+1=_;rw [hnx];show n+1=_+(_+1);omega,by show Inv (n+1) s';rw [h1];exact g3⟩
  first|rw [r64 (a:=(i:Int)+1) I I]|skip
  exact hg
 rintro k ⟨n,st⟩ ⟨h1,h2⟩;simp only [YZ] at h1 h2;show Sat (cZ N kb (cM φ) b p6 live (k+1) (n:Int) _ (none,st)) _;rw [cZ.eq_2,fD I,cf];unfold qj;rw [r64 I I,h1];exact hk st (by rw [<-h1];exact h2)
theorem Fm (N:Nat)(φ:Int×Int->σ->Option (Option Exit×σ))(live:List Int)(hl:live.length<=2000)(hN:6500<N)(Inv:Nat->σ->Prop)(hstep:∀n a s,(qi live)[n]? =some a->Inv n s->Sat (φ ((n:Int),a) s) fun r=>r.1=none/\Inv (n+1) r.2)(s:σ)(hs:Inv 0 s):Sat (gv N live (cM φ) (none,s)) fun r=>r.1=none/\Inv (qi live).length r.2:=by
 obtain ⟨k,rfl⟩: ∃k,N=k+3:=⟨N - 3,by omega⟩;have hev:(live.filter xd).length<=2000:=YB (XX _ _) hl;unfold gv;rw [fC.eq_2,show ((([0,1]:List Int).length:Int))=2 from rfl,fO I,ct,show au ([0,1]:List Int) 0=some 0 from rfl,bs];refine Fl (k+3) φ live hl I _ 0 xd (fun _=>J) 0 I 0 I Inv _ (fun i hi st hp hi2=> ?_) (fun st hst=> ?_) s hs
 ·refine hstep _ _ _ ?_ hi2;unfold qi;rw [XG]
  ·rw [YG];exact zn hi hp
  have:=(XN.1 (zn hi hp)).1;omega
 rw [fC.eq_2,show ((([0,1]:List Int).length:Int))=2 from rfl,fO I,ct,show au ([0,1]:List Int) (0+1)=some 1 from rfl,bs];refine Fl (k+3) φ live hl I _ 1 GD (fun _=>J) (0+1) I (0+(live.filter xd).length) I Inv _ (fun i hi st hp hi2=> ?_) (fun st hst=> ?_) st hst
 ·refine hstep _ _ _ ?_ hi2;unfold qi;rw [XH I,show 0+(live.filter xd).length+((live.take i).filter GD).length - (live.filter xd).length=((live.take i).filter GD).length by omega];exact zn hi hp
 rw [fC.eq_2,show ((([0,1]:List Int).length:Int))=2 from rfl,fD I,cf];refine ac ⟨J,?_⟩;unfold qi;rw [YW]
 have e:0+(live.filter xd).length+(live.filter GD).length=(live.filter xd).length+(live.filter GD).length:=by omega
 rw [<-e];exact hst
theorem NS {w:WK}(h:v.Za=w.Za):bL v=bL w:=by unfold bL;rw [h]
def fU (c:WI):List Int:=gw c++pN c
def sc (c:WI):Bool:=(fQ N c).getD false
theorem Of (c:WI):(fU c).length<=c.Zc.length+2*c.Zb.length:=by
 have h1:=uf c;have h2:=uB c;unfold fU;rw [YW];omega
theorem Ci: ∀l:List WI,(l.flatMap fU).length<=2*wt l
 | []=>by simp [wt]
 |c::l=>by
  have h1:=Ci l;have h2:=Of c;rw [XE,YW,wt];omega
theorem KQ (N:Nat)(m:WO)(l:List Int)(hl:l.length<N)(a6:l.length<=6000)(h64:∀x∈l,in64 x):cH N l (fun x=>jc N x m)=some (!wh m l):=by
 have key: ∀k i:Nat,l.length<k+i->i<=l.length->Sat (dR N (fun x=>jc N x m) l k (i:Int)) fun r=>decide (0<=r)=!(l.drop i).all (aW m):=by
  intro k
  induction k with
  |zero=>intro i h1 h2;omega
  | succ k ih=>
   intro i h1 h2;rw [dR.eq_2];by_cases hi:i<l.length
   ·have h3:=ih (i+1) I hi;rw [show (((i+1:Nat)):Int)=(i:Int)+1 by omega] at h3;rw [fO I,ct,aK hi,bs,Xt hi,List.all_cons];unfold jc;rw [FN N m _ (h64 _ (Y4 _)),bs,bs,r64 I I];cases aW m l[i]
    ·exact ac (by rw [WX I];rfl)
    exact h3
   rw [fD I,cf,Xu I];exact ac J
 obtain ⟨r,h1,h2⟩:=key N 0 I I;have h1':dR N (fun x=>jc N x m) l N 0=some r:=h1;unfold cH lz;rw [h1',bs,h2];unfold wh;simp
def ot (m:WO)(roots:List WK):Int:=
 bif (m.Zh++m.Zj).all (sc N) then bif wh m ((m.Zh++m.Zj).flatMap fU++dF roots) then 0 else 50 else 51
theorem Gd (N:Nat)(hN:6500<N){roots:List WK}(hs:Small m roots)(ht:Wtd m roots)(hw:W64 m)(hr:∀v∈roots,in64 v.N):mC N m roots=some (ot N m roots):=by
 have hle:=ht.le;have h1:=hs.young;have h2:=hs.old;have h3:=hs.roots
 have a64: ∀(l:List WI),(∀c∈l,c∈m.Zh++m.Zj)-> ∀x∈l.flatMap fU,in64 x:=fun l hl x hx=>by
  obtain ⟨c,hc,hx⟩:=List.mem_flatMap.1 hx;obtain ⟨⟨-,g1⟩, -,g2⟩:=MS hs hw (hl c hc);exact (X6.1 hx).elim (g1 x) (g2 x)
 have r64': ∀x∈dF roots,in64 x:=fun x hx=>by
  obtain ⟨v,h1, -,rfl⟩:=tw.1 hx;exact hr v h1
 have hal: ∀k,(dF (roots.take k)).length<=roots.length:=fun k=>by
  unfold dF;rw [YY];exact YB (XX _ _) (by rw [YX];omega)
 -- the roots
 have hroots: ∀q:List Int,q.length+roots.length<=5800->(∀x∈q,in64 x)->ql N roots m q=some (bif wh m (q++dF roots) then 0 else 50):=by
  intro q hq a6;apply Sat.eq;unfold ql;refine jo (fun k i (s:List Int)=>fS N roots m k s (i:Int)) roots.length (fun i s=>s=q++dF (roots.take i)) _ ?_ ?_ N 0 q I I (by simp [dF])
  ·rintro k i s hi h1 go;show Sat (fS N roots m (k+1) s (i:Int)) _
   have hnext:q++dF (roots.take (i+1))=s++dF [roots[i]]:=by rw [ck hi,Dp,h1,W0]
   have hsl:s.length<=5800:=by have:=hal i;rw [h1,YW];omega
   rw [fS.eq_2,fO I,ct,aK hi,bs,vT,bs];unfold oY;cases hb:bL roots[i]
   ·rw [cf,r64 I I];exact go s (by rw [hnext];simp [dF,hb])
   rw [ct,rF (by simp;omega),r64 I I];exact go _ (by rw [hnext];simp [dF,hb])
  rintro k s h1;show Sat (fS N roots m (k+1) s _) _;rw [YZ] at h1
  have hsl:s.length<=5800:=by have:=hal roots.length;rw [YZ] at this;rw [h1,YW];omega
  rw [fS.eq_2,fD I,cf];unfold sf;rw [KQ N m s I I (fun x hx=>by rw [h1] at hx;exact (X6.1 hx).elim (a6 x) (r64' x)),bs, <-h1];cases wh m s<;>exact ac rfl
 -- one row
 have row: ∀(kb:List Int->Int->Option Int) (p:Int) (l:List WI) (q:List Int),in64 (p+1)->l.length<=600->wt l<=2900->(∀c∈l,c∈m.Zh++m.Zj)->q.length<=6000->mi N kb m p l roots N q 0=bif l.all (sc N) then kb (q++l.flatMap fU) (p+1) else some 51:=by
  intro kb p l q hp hll hl a7 hq
  have key: ∀(k i:Nat),l.length<k+i->i<=l.length->mi N kb m p l roots k (q++(l.take i).flatMap fU) (i:Int)=bif (l.drop i).all (sc N) then kb (q++l.flatMap fU) (p+1) else some 51:=by
   intro k
   induction k with
   |zero=>intro i h1 h2;omega
   | succ k ih=>
    intro i h4 h5;have hfl:=Ci (l.take i)
    have hwt:wt (l.take i)<=wt l:=by
     have:=ED (l.take i) (l.drop i);rw [Yp] at this;omega
    by_cases hi:i<l.length
    ·have hm:=a7 l[i] (Y4 _);have hc:=hs.cells _ hm;have hwi:=Qr hi
     have hwt2:wt (l.take (i+1))<=wt l:=by
      have:=ED (l.take (i+1)) (l.drop (i+1));rw [Yp] at this;omega
     obtain ⟨b,hb, -⟩:=GY N I l[i] I I
     have hrc:sc N l[i]=b:=by unfold sc;rw [hb];rfl
     have e1:=uf l[i];have e2:=uB l[i];have h6:=ih (i+1) I hi;rw [show (((i+1:Nat)):Int)=(i:Int)+1 by omega] at h6;rw [mi.eq_2,fO I,ct,aK hi,bs,Bi N I _ I I,hb,bs,AG N I _ I I,bs,YW,rF I,Dv N I _ I I,bs,YW,YW,rF I,r64 I I]
     have hap:q++(l.take i).flatMap fU++gw l[i]++pN l[i]=q++(l.take (i+1)).flatMap fU:=by
      rw [ck hi,XD];simp [fU,W0]
     rw [hap,h6,Xt hi,List.all_cons,hrc];cases b<;>rfl
    have e:i=l.length:=by omega
    subst e;rw [mi.eq_2,fD I,cf,List.drop_length,YZ];unfold sg;rw [cF hp];rfl
  have:=key N 0 I I;simpa using this
 have hwy:wt m.Zh<=2900:=by omega
 have hwo:wt m.Zj<=2900:=by omega
 have hfy:=Ci m.Zh;have hfo:=Ci m.Zj;obtain ⟨k,rfl⟩: ∃k,N=k+3:=⟨N - 3,by omega⟩;unfold mC ot;rw [nl.eq_2,show ((([m.Zh,m.Zj]:List W5).length:Int))=2 from rfl,fO I,ct,show au ([m.Zh,m.Zj]:List W5) 0=some m.Zh from rfl,bs,row _ 0 m.Zh [] (by unfold in64;omega) h1 hwy (fun c hc=>W2 _ hc) (by simp)];rw [nl.eq_2,show ((([m.Zh,m.Zj]:List W5).length:Int))=2 from rfl,fO I,ct,show au ([m.Zh,m.Zj]:List W5) (0+1)=some m.Zj from rfl,bs,Y3,row _ (0+1) m.Zj (m.Zh.flatMap fU) (by unfold in64;omega) h2 hwo (fun c hc=>W3 _ hc) I]
 rw [nl.eq_2,show ((([m.Zh,m.Zj]:List W5).length:Int))=2 from rfl,fD I,cf,hroots _ (by rw [YW];omega) (fun x hx=>by
  rw [<-XD] at hx
  exact a64 _ (fun c hc=>hc) x hx),List.all_append,XD]
 cases m.Zh.all (sc (k+3))<;>cases m.Zj.all (sc (k+3))<;>rfl
def ts (f:List Int)(a:Int):Int:=2*((f.idxOf a:Nat):Int)+2
def fZ (ρ:Int->Int)(f:List Int)(v:WK):WK:=bif bL v&&decide (v.N∈f) then ⟨v.Za,ρ v.N,v.S⟩ else v
def rT (ρ:Int->Int)(f:List Int)(c:WI):WI:=⟨c.Za,c.Zi,c.Ze,c.Zf,c.Zc.map (fZ ρ f),c.Zb.map (fZ ρ f)⟩
def RhoM (kv:List (Int×Int))(f:List Int):Prop:= ∀x,lk kv x=if x∈f then some (ts f x) else none
theorem wJ (N:Nat)(hN:6500<N)(l:List WK)(hl:l.length<=6000)(kv:List (Int×Int))(f:List Int)(hk:RhoM kv f):eu N l kv=some (l.map (fZ (ts f) f)):=by
 apply Sat.eq;unfold eu;refine jo (fun k i (s:List WK)=>ic N l kv k s (i:Int)) l.length (fun i s=>s=(l.take i).map (fZ (ts f) f)) _ ?_ ?_ N 0 [] I I J
 ·rintro k i s hi h1 go;show Sat (ic N l kv (k+1) s (i:Int)) _
  have hsl:s.length<=i:=by rw [h1,YY,YX];omega
  have hnext:(l.take (i+1)).map (fZ (ts f) f)=s++ [fZ (ts f) f l[i]]:=by rw [ck hi,X3,h1];rfl
  rw [ic.eq_2,fO I,ct,aK hi,bs,hk l[i].N,vT];unfold oX;by_cases hm:l[i].N∈f
  ·rw [if_pos hm];simp only [bs,Option.isSome_some,ct];cases hb:bL l[i]
   ·rw [cf,rF (by simp;omega),r64 I I];refine go _ ?_;rw [hnext];unfold fZ;rw [hb];rfl
   rw [ct,rF (by simp;omega),r64 I I];refine go _ ?_;rw [hnext];unfold fZ;rw [hb,WX hm];rfl
  rw [if_neg hm];simp only [bs,Option.isSome_none,cf];rw [rF (by simp;omega),r64 I I];refine go _ ?_;rw [hnext];unfold fZ;rw [WY hm,Xd];rfl
 rintro k s h1;show Sat (ic N l kv (k+1) s _) _;rw [ic.eq_2,fD I,cf];exact ac (by rw [h1,YZ])
def qC (l:List Int)(c:WI):WI:=bif decide (c.Za=8) then sn N l c else bif decide (c.Za=10) then (Gc l c).1 else c
def uy (l:List Int)(c:WI):List WK:=bif decide (c.Za=10) then (Gc l c).2 else []
theorem Ez (N:Nat)(l:List Int)(c:WI):(qC N l c).Zc.length=c.Zc.length/\(qC N l c).Zb.length+(uy l c).length<=c.Zb.length:=by
 unfold qC uy;by_cases h8:c.Za=8
 ·rw [WX h8,WY (p:=c.Za=10) I];have:=Lq N l c;simp only [cond_true,cond_false,XY];omega
 rw [WY h8];by_cases h10:c.Za=10
 ·rw [WX h10];have:=Pd l (c.Zb.headD nW) (c.Zb.drop 1);rw [XW] at this;unfold Gc;refine ⟨J,?_⟩;show (c.Zb.take 1++fd l (c.Zb.drop 1)).length+(pR l (c.Zb.headD nW) (c.Zb.drop 1)).length<=c.Zb.length;rw [YW,YX]
  cases hm:c.Zb with
  |nil=>rw [hm] at this;simp [fd,pR]
  |cons a r=>rw [hm] at this;simp only [XV] at this⊢;omega
 rw [WY h10];simp
theorem RhoM.nil:RhoM [] []:=fun x=>rfl
theorem RhoM.add {kv:List (Int×Int)}(hi:i<f.length)(h:RhoM kv (f.take i))(hn:f.Nodup):RhoM (AZ kv f[i] (2*(i:Int)+2)) (f.take (i+1)):=by
 intro x
 have hlen:(f.take i).length=i:=by rw [YX];omega
 have hni:f[i]∉f.take i:=by
  intro hm;obtain ⟨j,hj,e⟩:=XU hm;rw [YX] at hj;rw [List.getElem_take] at e;exact Yk.1 (List.nodup_iff_pairwise_ne.1 hn) j i I hi I e
 rw [Pc,ck hi];unfold ts;rw [List.idxOf_append];by_cases e:f[i]=x
 ·rw [if_pos e, <-e,if_pos (W3 _ (by simp)),if_neg hni];simp [hlen]
 rw [if_neg e,h x];by_cases hm:x∈f.take i
 ·rw [if_pos hm,if_pos (W2 _ hm),if_pos hm];rfl
 rw [if_neg hm,if_neg (by simp only [X6,Yg];exact fun hh=>hh.elim hm fun hh=>e hh.symm)]
structure Coll where
 next:WO
 now:List WK
 gone:List WK
def JV (m:WO)(roots:List WK)(live f:List Int):Coll:=
 ⟨⟨[],f.map fun a=>rT (ts f) f (qC N live (co m a))⟩,roots.map (fZ (ts f) f),(f.flatMap fun a=>uy live (co m a)).map (fZ (ts f) f)⟩
structure Mild (g:WK->WK):Prop where
 z:g vZ=vZ
 kind: ∀v,(g v).Za=v.Za
 num: ∀v,v.Za=3->g v=v
 may: ∀v,kV v=true->kV (g v)=true
section
variable {g:WK->WK}(h:Mild g)
include h
theorem Mild.at_ (l:List WK)(i:Nat):rG (l.map g) i=g (rG l i):=by
 unfold rG;simp only [List.getD,XO]
 cases l[i]? with
 |none=>exact h.z.symm
 |some v=>rfl
theorem Mild.numB (v:WK)(a b:Int):Go.Proofs.YtmcifcmlojonnaaGreatDoor.numB (g v) a b=Go.Proofs.YtmcifcmlojonnaaGreatDoor.numB v a b:=by
 unfold Go.Proofs.YtmcifcmlojonnaaGreatDoor.numB;by_cases h3:v.Za=3
 ·rw [h.num v h3]
 rw [h.kind,WY h3];rfl
theorem Mild.noneB (v:WK)(k:Int):Go.Proofs.YtmcifcmlojonnaaGreatDoor.noneB (g v) k=Go.Proofs.YtmcifcmlojonnaaGreatDoor.noneB v k:=by
 unfold Go.Proofs.YtmcifcmlojonnaaGreatDoor.noneB;rw [h.kind]
theorem Mild.ent2: ∀l:List WK,uo (l.map g)=uo l
 | []=>rfl
 | [_]=>rfl
 |k::v::r=>by
  simp only [X4];simp only [ri];rw [h.kind,h.kind,Mild.ent2 r]
theorem Mild.ent4: ∀l:List WK,oK (l.map g)=oK l
 | []=>rfl
 | [_]=>rfl
 | [_,_]=>rfl
 | [_,_,_]=>rfl
 |t::v::k::s::r=>by
  simp only [X4];simp only [rh];rw [h.kind,h.kind,h.noneB,h.numB,Mild.ent4 r]
theorem Mild.slots (k sh fl:Int)(l:List WK):od k sh fl (l.map g)=od k sh fl l:=by
 unfold od;simp only [YY,h.at_,h.kind,h.noneB]
theorem Mild.more (k:Int)(l:List WK):rU k (l.map g)=rU k l:=by
 unfold rU;rw [<-List.map_drop,h.ent2,h.ent4];simp only [YY,h.at_,h.kind,h.noneB,h.numB]
theorem Mild.all (hl:l.all kV=true):(l.map g).all kV=true:=by
 rw [Xo] at hl⊢;intro v hv;obtain ⟨w,hw,rfl⟩:=Yb.1 hv;exact h.may w (hl w hw)
theorem Mild.right (hc:bQ c=true):bQ ⟨c.Za,c.Zi,c.Ze,c.Zf,c.Zc.map g,c.Zb.map g⟩=true:=by
 unfold bQ at hc⊢;simp only [Y0] at hc;obtain ⟨h1,h2,h3,h4,h5⟩:=hc;simp only [h.slots,h.more,h.all h2,h.all h3,h4,h5,Bool.and_true];simp only [Y0];exact h1
end
theorem LY (hb:bL v=true):kV v=((v.S.toList==(⟨#[]⟩:ByteArray).toList)&&decide (1<=v.N)):=by
 have hk:v.Za=7\/v.Za=9:=by
  unfold bL at hb;rw [Bool.or_eq_true,YS,YS] at hb;exact hb
 unfold kV dL;rcases hk with hk|hk<;>rw [hk]<;>cases (v.S.toList==(⟨#[]⟩:ByteArray).toList)<;>rfl
structure Ren (ρ:Int->Int) (f:List Int):Prop where
 inj: ∀a b,a∈f->b∈f->ρ a=ρ b->a=b
 pos: ∀a∈f,1<=ρ a
theorem O4 (hρ:Ren ρ f):Mild (fZ ρ f) where
 z:=rfl
 kind v:=by unfold fZ;cases bL v&&decide (v.N∈f)<;>rfl
 num v h:=by
  have:bL v=false:=by unfold bL;rw [h];rfl
  unfold fZ;rw [this];rfl
 may v h:=by
  cases hb:bL v&&decide (v.N∈f) with
  |false=>unfold fZ;rw [hb];exact h
  |true=>
   have a6:=(Y0 _ _▸hb:bL v=true/\decide (v.N∈f)=true);have a7:=a6.1
   have e:fZ ρ f v=⟨v.Za,ρ v.N,v.S⟩:=by unfold fZ;rw [hb];rfl
   have a8:bL (⟨v.Za,ρ v.N,v.S⟩:WK)=true:=a7;rw [e,LY a8];rw [LY a7,Y0] at h;rw [Y0];exact ⟨h.1,WX (hρ.pos _ (YU a6.2))⟩
theorem NF (hρ:Ren ρ f)(h:bQ c=true):bQ (rT ρ f c)=true:=(O4 hρ).right h
theorem uF (h:bQ c=true):c.Zc.all kV=true/\c.Zb.all kV=true/\rU c.Za c.Zb=true:=by
 unfold bQ at h;simp only [Y0] at h;exact ⟨h.2.1,h.2.2.1,h.2.2.2.2⟩
theorem EU (h:bQ c=true){m:List WK}(h1:m.all kV=true)(h2:rU c.Za m=true):bQ ⟨c.Za,c.Zi,c.Ze,c.Zf,c.Zc,m⟩=true:=by
 unfold bQ at h⊢;simp only [Y0] at h;obtain ⟨g1,g2,g3,g4,g5⟩:=h;simp only [g2,h1,g4,h2,Bool.and_true];simp only [Y0];exact g1
theorem F7 (p:Int->Bool): ∀{l:List WK},uo l=true->uo (jJ p l)=true
 | [],_=>rfl
 | [_],h=>by cases h
 |k::v::r,h=>by
  rw [ri] at h;rw [Y0] at h;have ih:=F7 p h.2;simp only [DT];cases p k.N
  ·exact ih
  show uo (k::v::jJ p r)=true;simp only [ri];rw [h.1,ih];rfl
theorem HA (lv:List Int): ∀{l:List WK},oK l=true->oK (fd lv l)=true
 | [],_=>rfl
 | [_],h=>by cases h
 | [_,_],h=>by cases h
 | [_,_,_],h=>by cases h
 | t::v::k::s::r,h=>by
  rw [rh] at h;rw [Y0,Y0,Y0,Y0] at h;obtain ⟨⟨⟨h1,h2⟩,h3,h4⟩,h5⟩:=h;have ih:=HA lv h5;simp only [AH];cases decide (t.N∈lv)
  ·exact ih
  show oK (t::v::(bif decide (k.Za=7)&& !decide (k.N∈lv) then nW else k)::s::fd lv r)=true;simp only [rh]
  have h6:noneB (bif decide (k.Za=7)&& !decide (k.N∈lv) then nW else k) 7=true:=by
   cases decide (k.Za=7)&& !decide (k.N∈lv)
   ·exact h3
   rfl
  rw [h1,h2,h6,h4,ih];rfl
theorem FJ (lv:List Int){x:WK}: ∀{l:List WK},x∈fd lv l->x∈l\/x=nW
 | [],h=>by simp [fd] at h
 | [_],h=>by simp [fd] at h
 | [_,_],h=>by simp [fd] at h
 | [_,_,_],h=>by simp [fd] at h
 | t::v::k::s::r,h=>by
  simp only [AH] at h;rcases X6.1 h with h|h
  ·cases hd:decide (t.N∈lv) with
   |false=>rw [hd] at h;cases h
   |true=>
    rw [hd] at h
    cases hk:decide (k.Za=7)&& !decide (k.N∈lv) with
    |false=>rw [hk] at h;simp at h;rcases h with h|h|h|h<;>subst h<;>simp
    |true=>rw [hk] at h;simp at h;rcases h with h|h|h|h<;>subst h<;>simp
  rcases FJ lv h with h|h
  ·exact .inl (by simp [h])
  exact .inr h
theorem O7:kV nW=true:=by kernel_rfl
theorem N6 (N:Nat)(lv:List Int)(h:bQ c=true):bQ (qC N lv c)=true:=by
 obtain ⟨h1,h2,h3⟩:=uF h;unfold qC;by_cases h8:c.Za=8
 ·rw [tc h8,cond_true];unfold sn;cases uh N c
  ·exact h
  refine EU h (m:=jJ (fun x=>decide (x∈lv)) c.Zb) ?_ ?_
  ·rw [Xo] at h2⊢
   exact fun v hv=>h2 v (AQ hv)
  rw [h8] at h3⊢;exact F7 _ h3
 rw [jg h8,cond_false];by_cases h10:c.Za=10
 ·rw [tc h10,cond_true];rw [h10] at h3;have h3':(decide (1<=c.Zb.length)&&decide ((rG c.Zb 0).Za=7)&&oK (c.Zb.drop 1))=true:=h3;simp only [Y0,YS] at h3';obtain ⟨⟨g1,g2⟩,g3⟩:=h3';refine EU h (m:=c.Zb.take 1++fd lv (c.Zb.drop 1)) ?_ ?_
  ·rw [Xo] at h2⊢;intro v hv;rcases X6.1 hv with hv|hv
   ·exact h2 v (Yd hv)
   rcases FJ lv hv with hv|rfl
   ·exact h2 v (List.mem_of_mem_drop hv)
   exact O7
  rw [h10];show (decide (1<=(c.Zb.take 1++fd lv (c.Zb.drop 1)).length)&&decide ((rG (c.Zb.take 1++fd lv (c.Zb.drop 1)) 0).Za=7)&&oK ((c.Zb.take 1++fd lv (c.Zb.drop 1)).drop 1))=true
  obtain ⟨a,r,hr⟩: ∃a r,c.Zb=a::r:=by
   cases hm:c.Zb with
   |nil=>rw [hm] at g1;simp at g1
   |cons a r=>exact ⟨a,r,rfl⟩
  rw [hr] at g2 g3⊢;have e1:(a::r).take 1++fd lv ((a::r).drop 1)=a::fd lv r:=rfl;rw [e1];have g3':oK r=true:=g3;have g2':a.Za=7:=g2;simp only [Y0,YS];exact ⟨⟨by simp,g2'⟩,HA lv g3'⟩
 rw [jg h10,cond_false];exact h
end
section
open Go.RowKit
def cJ {α:Type}(g:α->Nat):List α->Nat
 | []=>0
 |a::l=>g a+cJ g l
theorem Bb (g:α->Nat): ∀a b:List α,cJ g (a++b)=cJ g a+cJ g b
 | [],b=>by simp [cJ]
 |c::a,b=>by rw [Xs,cJ,cJ,Bb g a b];omega
theorem MX (g:α->Nat){a b:List α}(h:a.Perm b):cJ g a=cJ g b:=by
 induction h with
 |nil=>rfl
 |cons x _ ih=>rw [cJ,cJ,ih]
 |swap x y l=>rw [cJ,cJ,cJ,cJ];omega
 |trans _ _ h1 h2=>rw [h1,h2]
theorem xE (g:Int->Nat): ∀{l L:List Int},l.Nodup->(∀x∈l,x∈L)->cJ g l<=cJ g L
 | [],_,_,_=>YH _
 |a::l,L,hn,hs=>by
  obtain ⟨h1,h2⟩:=Yi.1 hn;have hp:=List.perm_cons_erase (hs a (by simp));rw [MX g hp,cJ,cJ]
  have:=xE g (l:=l) (L:=L.erase a) h2 fun x hx=>(List.mem_erase_of_ne (fun e:x=a=>h1 (by rw [<-e];exact hx))).2 (hs x (by simp [hx]))
  omega
theorem xF (g:β->Nat)(f:α->β): ∀l:List α,cJ g (l.map f)=cJ (fun x=>g (f x)) l
 | []=>rfl
 |x::l=>by rw [X4,cJ,cJ,xF g f l]
theorem HZ {g h:α->Nat}: ∀{l:List α},(∀x∈l,g x<=h x)->cJ g l<=cJ h l
 | [],_=>YA _
 |x::l,hh=>by
  rw [cJ,cJ];have h1:=hh x (by simp)
  have h2:=HZ (l:=l) fun y hy=>hh y (by simp [hy])
  omega
theorem yw (f:α->List β): ∀l:List α,(l.flatMap f).length=cJ (fun x=>(f x).length) l
 | []=>rfl
 |x::l=>by rw [XE,YW,cJ,yw f l]
theorem Bc (g h:α->Nat): ∀l:List α,cJ (fun x=>g x+h x) l=cJ g l+cJ h l
 | []=>rfl
 |x::l=>by rw [cJ,cJ,cJ,Bc g h l];omega
def wC (c:WI):Nat:=1+c.Zc.length+c.Zb.length
theorem HS: ∀l:List WI,wt l=cJ wC l
 | []=>rfl
 |c::l=>by rw [wt,cJ,HS l];rfl
def GM (m:WO):List Int:=(List.range m.Zh.length).map (fun i:Nat=>2*(i:Int)+1)++(List.range m.Zj.length).map (fun i:Nat=>2*(i:Int)+2)
theorem yL (m:WO)(i:Nat)(h:i<m.Zh.length):co m (2*(i:Int)+1)=m.Zh[i]:=by
 unfold co kz;rw [if_neg I,if_pos I,show ((2*(i:Int)+1 - 1) / 2).toNat=i by omega,XL h];rfl
theorem xg (m:WO)(i:Nat)(h:i<m.Zj.length):co m (2*(i:Int)+2)=m.Zj[i]:=by
 unfold co kz;rw [if_neg I,if_neg I,show ((2*(i:Int)+2 - 2) / 2).toNat=i by omega,XL h];rfl
theorem Dd (m:WO)(i:Nat):aW m (2*(i:Int)+1)=decide (i<m.Zh.length):=by
 unfold aW kz;rw [if_neg I,if_pos I,show ((2*(i:Int)+1 - 1) / 2).toNat=i by omega];by_cases h:i<m.Zh.length
 ·rw [XL h,WX h];rfl
 rw [XM I,WY h];rfl
theorem yv (m:WO)(i:Nat):aW m (2*(i:Int)+2)=decide (i<m.Zj.length):=by
 unfold aW kz;rw [if_neg I,if_neg I,show ((2*(i:Int)+2 - 2) / 2).toNat=i by omega];by_cases h:i<m.Zj.length
 ·rw [XL h,WX h];rfl
 rw [XM I,WY h];rfl
theorem J5 (m:WO):(GM m).map (co m)=m.Zh++m.Zj:=by
 unfold GM;rw [X3,List.map_map,List.map_map]
 congr 1
 ·refine List.ext_getElem (by simp) fun i h1 h2=> ?_
  simp only [XT,List.getElem_range,Function.comp];exact yL m i h2
 refine List.ext_getElem (by simp) fun i h1 h2=> ?_
 simp only [XT,List.getElem_range,Function.comp];exact xg m i h2
theorem jd (h:aW m a=true):(∃i:Nat,i<m.Zh.length/\a=2*(i:Int)+1)\/ ∃i:Nat,i<m.Zj.length/\a=2*(i:Int)+2:=by
 rcases wV m a with ⟨h1,h2⟩|⟨k,h1, -⟩|⟨k,h1, -⟩
 ·unfold aW at h;rw [h2] at h;cases h
 ·subst h1;rw [Dd] at h;exact .inl ⟨k,YU h,J⟩
 subst h1;rw [yv] at h;exact .inr ⟨k,YU h,J⟩
theorem BP (h:aW m a=true):a∈GM m:=by
 unfold GM;rcases jd h with ⟨i,h1,rfl⟩|⟨i,h1,rfl⟩
 ·exact W2 _ (Yb.2 ⟨i,Yf.2 h1,J⟩)
 exact W3 _ (Yb.2 ⟨i,Yf.2 h1,J⟩)
theorem Oy {l:List Int}(hn:l.Nodup)(hh:∀a∈l,aW m a=true):cJ (fun a=>wC (co m a)) l<=wt m.Zh+wt m.Zj:=by
 have h1:=xE (fun a=>wC (co m a)) hn fun a ha=>BP (hh a ha)
 have h2:=xF wC (co m) (GM m);rw [J5, <-HS,ED] at h2;omega
theorem o9 (h:aW m a=true):co m a∈m.Zh++m.Zj:=by
 unfold aW at h;unfold co
 cases hc:kz m a with
 |none=>rw [hc] at h;cases h
 |some c=>exact wT hc
theorem I4 (h:0<a):a.tmod 2=0\/a.tmod 2=1:=by
 rw [uD I];omega
theorem KR (hp:∀a∈live,0<a)(a:Int):a∈qi live↔a∈live:=by
 unfold qi xd GD;rw [X6,Ya,Ya,YS,YS];constructor
 ·rintro (h|h)<;>exact h.1
 intro h;rcases I4 (hp a h) with h2|h2
 ·exact .inl ⟨h,h2⟩
 exact .inr ⟨h,h2⟩
theorem Fw: ∀{live:List Int},(∀a∈live,0<a)->(qi live).length=live.length
 | [],_=>rfl
 | a::l,hp=>by
  have ih:=Fw (live:=l) fun b hb=>hp b (by simp [hb])
  unfold qi at ih⊢;rw [YW] at ih⊢;rcases I4 (hp a (by simp)) with h|h
  ·have e1:xd a=true:=WX h;have e2:GD a=false:=WY I;simp only [XB,e1,e2,if_true,Xf,if_false,XV];omega
  have e1:xd a=false:=WY I;have e2:GD a=true:=WX h;simp only [XB,e1,e2,if_true,Xf,if_false,XV];omega
theorem NC (h:live.Pairwise (· < ·)):(qi live).Pairwise fun a b=> ¬(a.tmod 2=1/\b.tmod 2=0)/\(a.tmod 2=b.tmod 2->a<b):=by
 have hev: ∀a∈live.filter xd,a.tmod 2=0:=fun a ha=>YU (Ya.1 ha).2
 have hod: ∀a∈live.filter GD,a.tmod 2=1:=fun a ha=>YU (Ya.1 ha).2
 unfold qi;refine List.pairwise_append.2 ⟨(h.filter _).imp_of_mem fun {a b} ha hb hlt=>⟨fun hh=> ?_,fun _=>hlt⟩,(h.filter _).imp_of_mem fun {a b} ha hb hlt=>⟨fun hh=> ?_,fun _=>hlt⟩,fun a ha b hb=>⟨fun hh=> ?_,fun hh=> ?_⟩⟩
 ·have:=hev a ha;omega
 ·have:=hod b hb;omega
 ·have:=hev a ha;omega
 have:=hev a ha;have:=hod b hb;omega
theorem IQ {p:α->Bool}{l:List α}(h:l.all p=true){x:α}(hx:x∈l):p x=true:=Xo.1 h x hx
theorem HI {N:Nat}{roots:List WK}(h:ot N m roots=0):(∀c∈m.Zh++m.Zj,sc N c=true)/\(∀c∈m.Zh++m.Zj, ∀x∈fU c,aW m x=true)/\ ∀x∈dF roots,aW m x=true:=by
 unfold ot at h
 cases h1:(m.Zh++m.Zj).all (sc N) with
 |false=>rw [h1] at h;cases h
 | true=>
  rw [h1] at h
  cases h2:wh m ((m.Zh++m.Zj).flatMap fU++dF roots) with
  |false=>rw [h2] at h;cases h
  |true=>
   unfold wh at h2;refine ⟨fun c hc=>IQ h1 hc,fun c hc x hx=>IQ h2 (W2 _ (List.mem_flatMap.2 ⟨c,hc,hx⟩)),fun x hx=>IQ h2 (W3 _ hx)⟩
structure Live (N:Nat) (m:WO) (roots:List WK) (live f:List Int):Prop where
 ord: ∃b all,IsOrder (Gk N m) (dF roots) b all/\live=kA all/\f=qi live
 prog:nD N m roots=some live
 ref:E8 N m roots=some live
 mem: ∀a,a∈f↔a∈live
 len:f.length=live.length
 small:live.length<=1200
 nd:f.Nodup
 asc:live.Pairwise (· < ·)
 has: ∀a∈live,aW m a=true
theorem ND (h:live.Pairwise (· < ·)):(qi live).Nodup:=by
 rw [List.nodup_iff_pairwise_ne]
 refine (NC h).imp fun {a b} hab e=> ?_
 have:=hab.2 (by rw [e]);omega
theorem Q3 (N:Nat)(hN:6500<N){roots:List WK}(hs:Small m roots)(hw:W64 m)(hr:∀v∈roots,in64 v.N): ∃live f,Live N m roots live f:=by
 obtain ⟨bg,all,ho,hlen, -, -,o0⟩:=Nu N hN hs hw hr;obtain ⟨b',all',ho',r0, -⟩:=Ko N hN hs hw hr;obtain ⟨-,e2⟩:=ho.det ho';subst e2;have hll:(kA all).length=all.length:=yX all;have hmem:=vD all;have hasc:=GQ ho.nodup.2
 have hhas: ∀a∈kA all,aW m a=true:=fun a ha=>ho.has.2 a ((hmem a).1 ha)
 have hpos: ∀a∈kA all,0<a:=fun a ha=>vW (hhas a ha)
 refine ⟨kA all,qi (kA all),⟨⟨_,all,ho,J,J⟩,Q4 o0 I J,?_,KR hpos,Fw hpos,by omega,ND hasc,hasc,hhas⟩⟩;unfold E8;rw [r0,bs,Kp N hN all I ho.nodup.2,bs]
theorem Live.fhas {N:Nat}{roots:List WK}(h:Live N m roots live f)(ha:a∈f):aW m a=true:=h.has a ((h.mem a).1 ha)
theorem I3 {N:Nat}{roots:List WK}(h:Live N m roots live f):(f.flatMap fun a=>uy live (co m a)).length+wt (f.map fun a=>rT (ts f) f (qC N live (co m a)))<=wt m.Zh+wt m.Zj:=by
 have h1:=Oy h.nd fun a ha=>h.fhas ha
 rw [yw,HS,xF, <-Bc];refine YB (HZ fun a ha=> ?_) h1;have:=Ez N live (co m a);unfold wC rT;simp only [YY];omega
theorem CK {N:Nat}{roots:List WK}(h:Live N m roots live f)(n:Nat):((f.take n).flatMap fun a=>uy live (co m a)).length<=wt m.Zh+wt m.Zj:=by
 have h1:=I3 h
 have h2:(f.flatMap fun a=>uy live (co m a))=((f.take n).flatMap fun a=>uy live (co m a))++((f.drop n).flatMap fun a=>uy live (co m a)):=by rw [<-XD,Yp]
 rw [h2,YW] at h1;omega
def PR (m:WO)(roots:List WK)(live f:List Int):WO×List WK×List WK×Int:=
 bif decide (ot N m roots=0) then ((JV N m roots live f).next,(JV N m roots live f).now,(JV N m roots live f).gone,0) else (⟨[],[]⟩,[],[],ot N m roots)
theorem IH (N:Nat)(hN:6500<N){roots:List WK}(hs:Small m roots)(ht:Wtd m roots)(hw:W64 m)(hr:∀v∈roots,in64 v.N)(hl:Live N m roots live f):oZ N m roots=some (PR N m roots live f):=by
 apply Sat.eq;have hle:=ht.le;have hlen:=hl.small;have hfl:=hl.len;unfold oZ PR;rw [Gd N hN hs ht hw hr,bs];by_cases h0: ¬ot N m roots=0
 ·rw [jg h0];exact ac J
 replace h0:ot N m roots=0:=by omega
 rw [tc h0];simp only [nt,cf,ct];obtain ⟨c1,c2,c3⟩:=HI h0;obtain ⟨_,_,_,hlv,hff⟩:=hl.ord;rw [hl.prog,bs];unfold my;rw [bs];refine Sat.bind (Fm N (fun x st=>mP N roots m live x st) live I hN (fun n s=>RhoM s (f.take n)) ?_ [] ?_) ?_
 ·intro n a s ha h1;rw [<-hff] at ha;have hn:=(XN.1 ha).1;rw [XL hn,YM] at ha;unfold mP;simp only;rw [r64 I I,r64 I I];refine ac ⟨J,?_⟩;rw [<-ha];exact h1.add hn hl.nd
 ·simpa using RhoM.nil
 rintro ⟨e,kv⟩ ⟨g1,g2⟩;simp only at g1 g2;subst g1;rw [<-hff,YZ] at g2;unfold qN;simp only [bs]
 have hG: ∀a∈f,(qC N live (co m a)).Zc.length<=600/\(qC N live (co m a)).Zb.length<=2900:=fun a ha=>by
  have h1:=Ez N live (co m a);have h2:=hs.at_ a;omega
 refine Sat.bind (Fm N (fun x st=>mO N roots m live (none,kv) x st) live I hN (fun n s=>s.1=(f.take n).map (fun a=>rT (ts f) f (qC N live (co m a)))/\s.2=(f.take n).flatMap fun a=>uy live (co m a)) ?_ ([],[]) ⟨by simp,by simp⟩) ?_
 ·rintro n a ⟨p,q⟩ ha ⟨h1,h2⟩;rw [<-hff] at ha;simp only at h1 h2;have hn:=(XN.1 ha).1;have ham:a∈f:=Yc ha;rw [XL hn,YM] at ha
  have hpl:p.length<=2000:=by rw [h1,YY,YX];omega
  have hql:q.length<=2900:=by have:=CK hl n;rw [h2];omega
  have hq2:=CK hl (n+1);have hat:=IM N hs a (wM hs (hl.fhas ham));have hsm:=hs.at_ a;have hrt:=c1 _ (o9 (hl.fhas ham));have hc:=hG a ham;rw [ck hn,ha,XD, <-h2,YW] at hq2;simp only [XE,List.flatMap_nil,Xp] at hq2
  -- the last part
  have last: ∀q',q'=q++uy live (co m a)->Sat (kf N roots m p live (none,kv) q' (qC N live (co m a)).Za (qC N live (co m a)).Zi (qC N live (co m a)).Ze (qC N live (co m a)).Zf (qC N live (co m a)).Zc (qC N live (co m a)).Zb) fun r=>r.1=none/\r.2.1=(f.take (n+1)).map (fun a=>rT (ts f) f (qC N live (co m a)))/\r.2.2=(f.take (n+1)).flatMap fun a=>uy live (co m a):=by
   intro q' hq';unfold kf;rw [wJ N hN _ I kv f g2,bs,wJ N hN _ I kv f g2,bs,rF (by simp;omega)];refine ac ⟨J,?_,?_⟩
   ·rw [ck hn,X3, <-h1,ha];rfl
   rw [ck hn,XD, <-h2,ha,hq'];simp
  unfold mO;simp only;rw [hat,bs];unfold qC uy at last;unfold uy at hq2;by_cases h8:(co m a).Za=8
  ·have hwm:uh N (co m a)=true:=by unfold uh;rw [WX h8];exact hrt
   rw [tc h8,ct,Lo N hN live I _ hsm.1 hsm.2,bs,hwm,ct];rw [WX h8,WY (p:=(co m a).Za=10) I] at last;simp only [cond_true,cond_false,Xp] at last;exact last q J
  by_cases h10:(co m a).Za=10
  ·have hwm:K4 N (co m a)=true:=by unfold K4;rw [WX h10];exact hrt
   rw [jg h8,cf,tc h10,ct,GG N hN live I _ hsm.1 hsm.2,bs,hwm,ct];rw [WX h10] at hq2;rw [WY h8,WX h10] at last;simp only [cond_true,cond_false] at last hq2;rw [rF I];exact last _ J
  rw [jg h8,cf,jg h10,cf];rw [WY h8,WY h10] at last;simp only [cond_true,cond_false,Xp] at last;exact last q J
 rintro ⟨e,p,q⟩ ⟨g1,g3,g4⟩;simp only at g1 g3 g4;subst g1;rw [<-hff,YZ] at g3 g4;have hrl:=hs.roots
 have hql:q.length<=2900:=by have:=CK hl f.length;rw [YZ] at this;rw [g4];omega
 simp only;rw [wJ N hN _ I kv f g2,bs,wJ N hN _ I kv f g2,bs];refine ac ?_;unfold JV;rw [g3,g4]
theorem FM (h:a∈f):f.idxOf a<f.length:=List.idxOf_lt_length_iff.2 h
theorem It (h:a∈f):f[f.idxOf a]'(FM h)=a:=List.getElem_idxOf (FM h)
theorem LK {b:Int}(ha:a∈f)(hb:b∈f)(h:ts f a=ts f b):a=b:=by
 unfold ts at h
 have e:f.idxOf a=f.idxOf b:=by omega
 have h1:=It ha;have h2:=It hb;rw [<-h1, <-h2]
 congr 1
theorem LJ (f:List Int):Ren (ts f) f:=⟨fun _ _ h1 h2 h3=>LK h1 h2 h3,fun a _=>by unfold ts;omega⟩
theorem LX (ρ:Int->Int)(f:List Int)(v:WK):bL (fZ ρ f v)=bL v:=NS (by unfold fZ;cases bL v&&decide (v.N∈f)<;>rfl)
theorem C4 (h1:bL v=true)(h2:v.N∈f):fZ ρ f v=⟨v.Za,ρ v.N,v.S⟩:=by
 unfold fZ;rw [h1,WX h2];rfl
theorem En: ∀{i:Nat} {l:List WK} {j:Nat} {v:WK},l[j]? =some v->F (i+j) v=true->v.N∈pick F i l
 |i,w::l,0,v,h,hF=>by
  simp only [XJ,YM] at h;subst h;rw [pD];rw [Nat.add_zero] at hF;rw [hF];simp
 |i,w::l,j+1,v,h,hF=>by
  simp only [XI] at h;rw [pD];exact W3 _ (En (i:=i+1) h (by rw [show i+1+j=i+(j+1) by omega];exact hF))
 |i,[],j,v,h,_=>by simp at h
def ox (f:List Int)(l:List WK):Prop:= ∀v∈l,bL v=true->v.N∈f
theorem Ja (h:∀x∈gw c,x∈f):ox f c.Zc:=fun v hv hb=>by
 obtain ⟨j,hj,e⟩:=XU hv;refine h _ (W2 _ (En (j:=j) (by rw [XL hj,e]) hb))
theorem Er (h:∀x∈gw c,x∈f){j:Nat}(hj:c.Zb[j]? =some v)(hw:oy c.Za j=false)(hb:bL v=true):v.N∈f:=
 h _ (W3 _ (En (j:=j) hj (by rw [YG,hw,hb];rfl)))
theorem Kg {k:Int}(h8:k≠8)(h10:k≠10)(i:Nat):oy k i=false:=by
 unfold oy;rw [jg h8,jg h10];rfl
theorem HH (hlv:∀x,x∈lv↔x∈f): ∀{l:List WK},uo l=true->(∀x∈opens (fun x=>decide (x∈lv)) l,x∈f)->ox f (jJ (fun x=>decide (x∈lv)) l)
 | [],_,_=>fun v hv=>by simp [jJ] at hv
 | [_],h,_=>by cases h
 | k::v::r,h,ho=>by
  rw [ri] at h;rw [Y0] at h;rw [qX] at ho
  have ih:=HH hlv h.2 fun x hx=>ho x (W3 _ hx)
  intro w hw hb;simp only [DT] at hw;rcases X6.1 hw with hw|hw
  ·cases hd:decide (k.N∈lv) with
   |false=>rw [hd] at hw;cases hw
   |true=>
    rw [hd] at hw;simp only [cond_true,X7,List.not_mem_nil,or_false] at hw;rcases hw with rfl|rfl
    ·exact (hlv _).1 (YU hd)
    exact ho _ (W2 _ (by rw [hb,hd];simp))
  exact ih w hw hb
theorem Me (hlv:∀x,x∈lv↔x∈f): ∀{l:List WK},oK l=true->(∀j v,l[4*j+1]? =some v->bL v=true->v.N∈f)->ox f (fd lv l)
 | [],_,_=>fun v hv=>by simp [fd] at hv
 | [_],h,_=>by cases h
 | [_,_],h,_=>by cases h
 | [_,_,_],h,_=>by cases h
 | t ::a::k::s::r,h,ho=>by
  rw [rh] at h;simp only [Y0,YS] at h;obtain ⟨⟨⟨h1, -⟩,h3,h4⟩,h5⟩:=h
  have ih:=Me hlv h5 fun j v hj hb=>ho (j+1) v (by rw [show 4*(j+1)+1=4*j+1+4 by omega];simpa using hj) hb
  intro w hw hb;simp only [AH] at hw;rcases X6.1 hw with hw|hw
  ·cases hd:decide (t.N∈lv) with
   |false=>rw [hd] at hw;cases hw
   | true=>
    rw [hd] at hw;simp only [cond_true,X7,List.not_mem_nil,or_false] at hw;rcases hw with rfl|rfl|rfl|rfl
    ·exact (hlv _).1 (YU hd)
    ·exact ho 0 w J hb
    ·cases hk:decide (k.Za=7)&& !decide (k.N∈lv) with
     |true=>rw [hk] at hb;cases hb
     | false=>
      rw [hk] at hb;simp only [cond_false] at hb⊢
      have a6:k.Za=7:=by
       unfold noneB at h3;rw [Bool.or_eq_true,YS,YS] at h3;rcases h3 with h3|h3
       ·unfold bL at hb;rw [h3] at hb;cases hb
       exact h3
      rw [WX a6,Xg] at hk;exact (hlv _).1 (by by_cases hm:k.N∈lv;exact hm;rw [WY hm] at hk;cases hk)
    have:w.Za=3:=by
     unfold numB at h4;rw [Y0,YS] at h4;exact h4.1
    unfold bL at hb;rw [this] at hb;cases hb
  exact ih w hw hb
structure CellOk (N:Nat) (lv f:List Int) (c:WI):Prop where
 big:6500<N
 right:bQ c=true
 slots:c.Zc.length<=600
 more:c.Zb.length<=2900
 leads: ∀x∈gw c,x∈f
 opens: ∀x∈iK N c lv,x∈f
 mem: ∀x,x∈lv↔x∈f
theorem K0 {N:Nat}(hN:6500<N)(h:bQ c=true)(hS:c.Zc.length<=600)(hM:c.Zb.length<=2900):uh N c=decide (c.Za=8):=by
 unfold uh;rw [Ap N hN c I I,h];cases decide (c.Za=8)<;>rfl
theorem Jg {N:Nat}(hN:6500<N)(hS:c.Zc.length<=600)(hM:c.Zb.length<=2900):sc N c=bQ c:=by
 unfold sc;rw [Ap N hN c I I];rfl
section
variable {N:Nat}
theorem JW:(qC N lv c).Za=c.Za/\(qC N lv c).Zi=c.Zi/\(qC N lv c).Ze=c.Ze/\(qC N lv c).Zc=c.Zc:=by
 unfold qC sn;cases decide (c.Za=8)<;>cases decide (c.Za=10)<;>cases uh N c<;>exact ⟨rfl,rfl,rfl,rfl⟩
theorem CellOk.new (hρ:Ren ρ f)(h:CellOk N lv f c):bQ (rT ρ f (qC N lv c))=true/\(rT ρ f (qC N lv c)).Zc.length<=600/\(rT ρ f (qC N lv c)).Zb.length<=2900/\(rT ρ f (qC N lv c)).Za=c.Za:=by
 have h1:=Ez N lv c;have h2:=h.slots;have h3:=h.more;exact ⟨NF hρ (N6 N lv h.right),by unfold rT;simp only [YY];omega,by unfold rT;simp only [YY];omega,JW.1⟩
theorem CellOk.ent2 (h:CellOk N lv f c)(h8:c.Za=8):uo c.Zb=true:=by
 have:=(uF h.right).2.2;rw [h8] at this;exact this
theorem CellOk.ent4 (h:CellOk N lv f c)(h10:c.Za=10):1<=c.Zb.length/\(rG c.Zb 0).Za=7/\oK (c.Zb.drop 1)=true:=by
 have:=(uF h.right).2.2;rw [h10] at this;have h3':(decide (1<=c.Zb.length)&&decide ((rG c.Zb 0).Za=7)&&oK (c.Zb.drop 1))=true:=this;simp only [Y0,YS] at h3';exact ⟨h3'.1.1,h3'.1.2,h3'.2⟩
theorem CellOk.wm (h:CellOk N lv f c):uh N c=decide (c.Za=8):=K0 h.big h.right h.slots h.more
theorem CellOk.clC8 (h:CellOk N lv f c)(h8:c.Za=8):qC N lv c=⟨c.Za,c.Zi,c.Ze,c.Zf,c.Zc,jJ (fun x=>decide (x∈lv)) c.Zb⟩:=by
 unfold qC sn;rw [h.wm,WX h8];rfl
theorem CellOk.clC10 (h10:c.Za=10):qC N lv c=⟨c.Za,c.Zi,c.Ze,c.Zf,c.Zc,c.Zb.take 1++fd lv (c.Zb.drop 1)⟩:=by
 unfold qC;rw [WY (p:=c.Za=8) I,WX h10];rfl
theorem CellOk.clC0 (h8:c.Za≠8)(h10:c.Za≠10):qC N lv c=c:=by
 unfold qC;rw [WY h8,WY h10];rfl
theorem CellOk.inC (h:CellOk N lv f c):ox f (qC N lv c).Zc/\ox f (qC N lv c).Zb:=by
 refine ⟨by rw [JW.2.2.2];exact Ja h.leads,?_⟩;by_cases h8:c.Za=8
 ·rw [h.clC8 h8];have ho:=h.opens;unfold iK at ho;rw [h.wm,WX h8,cond_true] at ho;exact HH h.mem (h.ent2 h8) ho
 by_cases h10:c.Za=10
 ·rw [CellOk.clC10 h10];obtain ⟨q1,q2,q3⟩:=h.ent4 h10
  obtain ⟨a,r,hr⟩: ∃a r,c.Zb=a::r:=by
   cases hm:c.Zb with
   |nil=>rw [hm] at q1;simp at q1
   |cons a r=>exact ⟨a,r,rfl⟩
  rw [hr] at q3;have q3':oK r=true:=q3;intro v hv hb
  have hv':v=a\/v∈fd lv r:=by
   have:v∈a::fd lv r:=by rw [hr] at hv;exact hv
   exact X7.1 this
  rcases hv' with rfl|hv'
  ·refine Er h.leads (j:=0) (by rw [hr];rfl) ?_ hb;unfold oy;rw [h10];rfl
  refine Me h.mem q3' (fun j w hj hw=>Er h.leads (j:=4*j+2) (by rw [hr,show 4*j+2=(4*j+1)+1 by omega,XI];exact hj) ?_ hw) v hv' hb;unfold oy;rw [h10]
  have e1:(((4*j+2:Nat):Int) - 1).tmod 4=1:=by rw [Xl I];omega
  have e2:((1:Int)).tmod 2=1:=rfl;rw [e1,e2];cases decide ((0:Int)<((4*j+2:Nat):Int))<;>rfl
 rw [CellOk.clC0 h8 h10];intro v hv hb;obtain ⟨j,hj,e⟩:=XU hv;exact Er h.leads (j:=j) (by rw [XL hj,e]) (Kg h8 h10 j) hb
end
end
section
open Go.RowKit
theorem MM (hv:v∈c.Zc++c.Zb)(hb:bL v=true):v.N∈fU c:=by
 unfold fU;rcases X6.1 hv with hv|hv
 ·exact W2 _ (Ja (f:=gw c) (fun x hx=>hx) v hv hb)
 obtain ⟨j,hj,e⟩:=XU hv
 cases hw:oy c.Za j with
 |false=>exact W2 _ (Er (f:=gw c) (fun x hx=>hx) (by rw [XL hj,e]) hw hb)
 |true=>exact W3 _ (En (j:=j) (by rw [XL hj,e]) (by rw [YG,hw,hb];rfl))
theorem G7: ∀{l:List WK},x∈opens p l-> ∃v∈l,bL v=true/\v.N=x
 | [],h=>by simp [opens] at h
 | [_],h=>by simp [opens] at h
 | k::v::l,h=>by
  rw [qX] at h;rcases X6.1 h with h|h
  ·cases hv:bL v&&p k.N with
   |false=>rw [hv] at h;cases h
   |true=>
    rw [hv] at h;rw [Y0] at hv;exact ⟨v,by simp,hv.1,(Yg.1 h).symm⟩
  obtain ⟨w,h1,h2⟩:=G7 h;exact ⟨w,by simp [h1],h2⟩
structure CollCtx (N:Nat) (m:WO) (roots:List WK) (live f:List Int):Prop where
 big:6500<N
 small:Small m roots
 tot:Wtd m roots
 w64:W64 m
 r64: ∀v∈roots,in64 v.N
 lv:Live N m roots live f
 right: ∀c∈m.Zh++m.Zj,bQ c=true
 addr: ∀c∈m.Zh++m.Zj, ∀x∈fU c,aW m x=true
 roots: ∀x∈dF roots,aW m x=true
theorem Tz {N:Nat}(hN:6500<N){roots:List WK}(hs:Small m roots)(ht:Wtd m roots)(hw:W64 m)(hr:∀v∈roots,in64 v.N)(hl:Live N m roots live f)(h0:ot N m roots=0):CollCtx N m roots live f:=by
 obtain ⟨h1,h2,h3⟩:=HI h0;exact ⟨hN,hs,ht,hw,hr,hl,fun c hc=>by have:=hs.cells c hc;rw [<-Jg (N:=N) I this.1 this.2];exact h1 c hc,h2,h3⟩
section
variable {N:Nat}{roots:List WK}(h:CollCtx N m roots live f)
include h
theorem CollCtx.mem (x:Int):x∈live↔x∈f:=(h.lv.mem x).symm
theorem CollCtx.cell (ha:a∈f):CellOk N live f (co m a):=by
 have hm:=o9 (h.lv.fhas ha);obtain ⟨b,all,ho,hlv, -⟩:=h.lv.ord
 have hall: ∀x,x∈all↔x∈f:=fun x=>by rw [<-h.mem x,hlv];exact (vD all x).symm
 obtain ⟨q1,q2⟩:=ho.closed;have hs:=h.small.cells _ hm;have hN:=h.big;refine ⟨by omega,h.right _ hm,hs.1,hs.2,fun x hx=> ?_,fun x hx=> ?_,h.mem⟩
 ·exact (hall x).1 (q1 a ((hall a).2 ha) x hx (h.addr _ hm x (W2 _ hx)))
 have e:iK N (co m a) live=iK N (co m a) all:=by
  unfold iK;rw [Jr (q:=fun x=>decide (x∈all)) fun x=>jq (by rw [h.mem x];exact (hall x).symm)]
 rw [e] at hx;refine (hall x).1 (q2 a ((hall a).2 ha) x hx ?_);unfold iK at hx
 cases hw:uh N (co m a) with
 |false=>rw [hw] at hx;cases hx
 |true=>
  rw [hw] at hx;obtain ⟨v,hv,hb,rfl⟩:=G7 hx;exact h.addr _ hm _ (MM (W3 _ hv) hb)
theorem CollCtx.root (hx:x∈dF roots):x∈f:=by
 obtain ⟨b,all,ho,hlv, -⟩:=h.lv.ord;rw [<-h.mem x,hlv,vD];exact ho.sub (ho.roots hx (h.roots x hx))
theorem CollCtx.rootIn:ox f roots:=fun v hv hb=>h.root (tw.2 ⟨v,hv,hb,rfl⟩)
end
def iD (m:WO)(live f:List Int):WO:=⟨[],f.map fun a=>rT (ts f) f (qC N live (co m a))⟩
theorem Jv {N:Nat}(ha:a∈f):aW (iD N m live f) (ts f a)=true:=by
 unfold ts;rw [yv];exact WX (by unfold iD;simp only [YY];exact FM ha)
theorem QX {N:Nat}(ha:a∈f):co (iD N m live f) (ts f a)=rT (ts f) f (qC N live (co m a)):=by
 have e:ts f a=2*((f.idxOf a:Nat):Int)+2:=rfl;rw [e,xg _ _ (by unfold iD;simp only [YY];exact FM ha)];unfold iD;simp only [XT];rw [It ha]
theorem He (hf:f.length<=100000)(hv:in64 v.N):in64 (fZ (ts f) f v).N:=by
 unfold fZ
 cases hb:bL v&&decide (v.N∈f) with
 |false=>exact hv
 |true=>
  rw [Y0,YS] at hb;have:=FM hb.2;show in64 (ts f v.N);unfold ts in64;omega
theorem R0 {N:Nat}(hv:v∈(qC N lv c).Zc++(qC N lv c).Zb):v∈c.Zc++c.Zb\/v=nW:=by
 unfold qC at hv
 cases h8:decide (c.Za=8) with
 |true=>rw [h8] at hv;exact .inl (Lp hv)
 | false=>
  rw [h8] at hv
  cases h10:decide (c.Za=10) with
  |false=>rw [h10] at hv;exact .inl hv
  |true=>
   rw [h10] at hv;have hv':v∈c.Zc++(c.Zb.take 1++fd lv (c.Zb.drop 1)):=hv;rcases X6.1 hv' with hv'|hv'
   ·exact .inl (W2 _ hv')
   rcases X6.1 hv' with hv'|hv'
   ·exact .inl (W3 _ (Yd hv'))
   rcases FJ lv hv' with hv'|hv'
   ·exact .inl (W3 _ (List.mem_of_mem_drop hv'))
   exact .inr hv'
section
variable {N:Nat}{roots:List WK}(h:CollCtx N m roots live f)
include h
theorem CollCtx.flen:f.length<=1200:=by rw [h.lv.len];exact h.lv.small
theorem CollCtx.flen6:f.length<=600:=by
 have h1:=xE (fun _=>1) h.lv.nd fun a ha=>BP (h.lv.fhas ha)
 have h2: ∀l:List Int,cJ (fun _=>1) l=l.length:=fun l=>by
  induction l with
  |nil=>rfl
  |cons x l ih=>rw [cJ,ih,XV];omega
 rw [h2,h2] at h1;have h3:=h.tot.cnt;unfold GM at h1;simp only [YW,YY,List.length_range] at h1;omega
theorem CollCtx.nextW:W64 (iD N m live f):=fun c hc v hv=>by
 have hl:=h.flen
 have hc':c∈f.map fun a=>rT (ts f) f (qC N live (co m a)):=hc
 obtain ⟨a,ha,rfl⟩:=Yb.1 hc'
 have hv':v∈((qC N live (co m a)).Zc++(qC N live (co m a)).Zb).map (fZ (ts f) f):=by rw [X3];exact hv
 obtain ⟨w,hw,rfl⟩:=Yb.1 hv';refine He I ?_;rcases R0 hw with hw|rfl
 ·exact h.w64.at_ a w hw
 show in64 0;unfold in64;omega
theorem CollCtx.nextS (l:List WK)(hl:l.length<=600):Small (iD N m live f) l:=by
 refine ⟨YH _,?_,hl,fun c hc=> ?_⟩
 ·unfold iD;simp only [YY];exact h.flen6
 have hc':c∈f.map fun a=>rT (ts f) f (qC N live (co m a)):=hc
 obtain ⟨a,ha,rfl⟩:=Yb.1 hc';obtain ⟨-,g2,g3, -⟩:=(CellOk.new (LJ f) (h.cell ha));exact ⟨g2,g3⟩
end
theorem BH (hB:∀i v,F i v=true->bL v=true): ∀{i:Nat} {l:List WK},x∈pick F i l-> ∃v∈l,bL v=true/\v.N=x
 |_,[],h=>by cases h
 | i,v::l,h=>by
  rw [pD] at h;rcases X6.1 h with h|h
  ·cases hf:F i v with
   |false=>rw [hf] at h;cases h
   |true=>rw [hf] at h;exact ⟨v,by simp,hB i v hf,(Yg.1 h).symm⟩
  obtain ⟨w,g1,g2⟩:=BH hB h;exact ⟨w,by simp [g1],g2⟩
theorem Dq (h:x∈fU c): ∃v∈c.Zc++c.Zb,bL v=true/\v.N=x:=by
 unfold fU gw pN at h;rcases X6.1 h with h|h
 ·rcases X6.1 h with h|h
  ·obtain ⟨v,g1,g2⟩:=BH (fun _ _ h=>h) h;exact ⟨v,W2 _ g1,g2⟩
  obtain ⟨v,g1,g2⟩:=BH (fun i v h=>((Y0 _ _).mp h).2) h;exact ⟨v,W3 _ g1,g2⟩
 obtain ⟨v,g1,g2⟩:=BH (fun i v h=>((Y0 _ _).mp h).2) h;exact ⟨v,W3 _ g1,g2⟩
section
variable {N:Nat}{roots:List WK}(h:CollCtx N m roots live f)
include h
theorem CollCtx.now64: ∀v∈roots.map (fZ (ts f) f),in64 v.N:=fun v hv=>by
 have hl:=h.flen;obtain ⟨w,hw,rfl⟩:=Yb.1 hv;exact He I (h.r64 w hw)
theorem CollCtx.newHas (hl:ox f l)(hv:v∈l.map (fZ (ts f) f))(hb:bL v=true):aW (iD N m live f) v.N=true:=by
 have _:=h;obtain ⟨w,hw,rfl⟩:=Yb.1 hv;rw [LX] at hb;have:=hl w hw hb;rw [C4 hb this];exact Jv this
theorem CollCtx.nextAddr (hc:c∈f.map fun a=>rT (ts f) f (qC N live (co m a))):bQ c=true/\ ∀x∈fU c,aW (iD N m live f) x=true:=by
 obtain ⟨a,ha,rfl⟩:=Yb.1 hc;refine ⟨(CellOk.new (LJ f) (h.cell ha)).1,fun x hx=> ?_⟩;obtain ⟨v,hv,hb,rfl⟩:=Dq hx;obtain ⟨i1,i2⟩:=(h.cell ha).inC;rcases X6.1 hv with hv|hv
 ·exact h.newHas i1 hv hb
 exact h.newHas i2 hv hb
end
end
section
open Go.RowKit
def yB (a:Int):Bool:=decide (0<a)&&decide (a.tmod 2=1)
theorem Qp (k:Nat):yB (2*(k:Int)+2)=false:=by
 unfold yB;rw [uD I,WY (p:=(2*(k:Int)+2)%2=1) I,Xd]
def KW (m:WO)(kept:List Int):Bool:=kept.all (fun a=> !yB a&&aW m a)&&decide (kept.Pairwise (· < ·))
theorem MK (N:Nat)(f:Int->Option Bool)(p:Int->Bool)(l:List Int)(hl:l.length<N)(a6:l.length<=6500)(hf:∀x∈l,f x=some (p x)):cH N l f=some (l.any p):=by
 have key: ∀k i:Nat,l.length<k+i->i<=l.length->Sat (dR N f l k (i:Int)) fun r=>decide (0<=r)=(l.drop i).any p:=by
  intro k
  induction k with
  |zero=>intro i h1 h2;omega
  | succ k ih=>
   intro i h1 h2;rw [dR.eq_2];by_cases hi:i<l.length
   ·have h3:=ih (i+1) I hi;rw [show (((i+1:Nat)):Int)=(i:Int)+1 by omega] at h3;rw [fO I,ct,aK hi,bs,Xt hi,List.any_cons,hf _ (Y4 _),bs,r64 I I];cases p l[i]
    ·exact h3
    exact ac (by rw [WX I];rfl)
   rw [fD I,cf,Xu I];exact ac J
 obtain ⟨r,h1,h2⟩:=key N 0 I I;have h1':dR N f l N 0=some r:=h1;unfold cH lz;rw [h1',bs,h2];rfl
def uS (m:WO)(i:Nat):Bool:=(fU (co m (2*(i:Int)+2))).any yB
def nY (m:WO):List Int:=((List.range m.Zj.length).filter (uS m)).map fun i:Nat=>2*(i:Int)+2
theorem vV:x∈nY m↔ ∃i:Nat,i<m.Zj.length/\uS m i=true/\x=2*(i:Int)+2:=by
 unfold nY;simp only [Yb,Ya,Yf];constructor
 ·rintro ⟨i,⟨h1,h2⟩,rfl⟩;exact ⟨i,h1,h2,J⟩
 rintro ⟨i,h1,h2,rfl⟩;exact ⟨i,⟨h1,h2⟩,J⟩
theorem NO (h:x∈nY m):aW m x=true/\yB x=false:=by
 obtain ⟨i,h1, -,rfl⟩:=vV.1 h;exact ⟨by rw [yv];exact WX h1,Qp i⟩
theorem Ph (m:WO):KW m (nY m)=true:=by
 unfold KW;rw [Y0,YS,Xo];refine ⟨fun x hx=> ?_,?_⟩
 ·obtain ⟨h1,h2⟩:=NO hx;rw [h1,h2];rfl
 unfold nY;refine List.Pairwise.map _ (fun a b (h:a<b)=> ?_) ((List.pairwise_lt_range).filter _);omega
end
section
open Go.RowKit
def H5 (c:WI)(g:Int):WI:=⟨c.Za,c.Zi,c.Ze,g,c.Zc,c.Zb⟩
end
section
open Go.RowKit
theorem EI {g h:α->Nat}: ∀{l:List α},(∀x∈l,g x=h x)->cJ g l=cJ h l
 | [],_=>rfl
 |a::l,hh=>by rw [cJ,cJ,hh a (by simp),EI fun x hx=>hh x (by simp [hx])]
end
section
open Go.RowKit
theorem zN (N:Nat)(hN:6500<N)(c:WI)(hS:c.Zc.length<=600)(hM:c.Zb.length<=2900):pX N c=some ((fU c).any yB):=by
 have h1:=uf c;have h2:=uB c
 have hy: ∀x,ne N x=some (yB x):=fun x=>by
  unfold ne yB;cases decide (0<x)<;>cases decide (x.tmod 2=1)<;>rfl
 unfold pX fU;rw [AG N I c I I,Dv N I c I I,bs,bs,MK N _ yB (gw c) I I (fun x _=>hy x),MK N _ yB (pN c) I I (fun x _=>hy x),bs,bs,List.any_append];cases (gw c).any yB<;>cases (pN c).any yB<;>rfl
theorem N0 {L:List (Int×Bool)}(h:a∉L.map (·.1)):Dm L a=L:=by
 unfold Dm;rcases La a L with ⟨i,c, -,h2⟩|⟨h1, -⟩
 ·exact absurd (Yb.2 ⟨_,Yc h2,J⟩) h
 rw [h1]
theorem Ku (N:Nat)(hN:6500<N){roots:List WK}(hs:Small m roots): ∃kv,eO N ⟨[]⟩ m=some ⟨kv⟩/\kv.map Prod.fst=nY m:=by
 have ho:=hs.old
 have key:Sat (eO N ⟨[]⟩ m) fun r=>r.at_.map Prod.fst=nY m:=by
  unfold eO pi;rw [bs];refine jo (fun k i (s:List (Int×Bool))=>fM N m k (i:Int) s) m.Zj.length (fun i s=>s.map Prod.fst=((List.range i).filter (uS m)).map (fun i:Nat=>2*(i:Int)+2)) _ ?_ ?_ N 0 [] I I J
  ·rintro k i s hi h1 go;show Sat (fM N m (k+1) (i:Int) s) _;have hc:=hs.cells _ (W3 m.Zh (Y4 hi))
   have hnext:((List.range (i+1)).filter (uS m)).map (fun i:Nat=>2*(i:Int)+2)=((List.range i).filter (uS m)).map (fun i:Nat=>2*(i:Int)+2)++(bif uS m i then [2*(i:Int)+2] else []):=by
    rw [List.range_succ,XA,X3];cases h:uS m i<;>simp [h]
   have hno:(2*(i:Int)+2)∉s.map Prod.fst:=by
    rw [h1];intro hm;obtain ⟨j,hj,e⟩:=Yb.1 hm;have:=Yf.1 (Ya.1 hj).1;omega
   have e:(fU m.Zj[i]).any yB=uS m i:=by unfold uS;rw [xg m i hi]
   rw [fM.eq_2,fO I,ct,aK hi,bs,r64 I I,r64 I I];unfold cQ kI sH;rw [zN N hN _ hc.1 hc.2,e,fO I,ct,uD I,tc I];simp only [bs,nt,cf];cases h:uS m i
   ·simp only [nf,ct,bs];rw [N0 hno,r64 I I];exact go s (by rw [hnext,h,h1,cf,Xp])
   simp only [nt,cf,bs];rw [r64 I I];refine go (AZ s (2*(i:Int)+2) true) ?_;have:=AY s (2*(i:Int)+2) true;rw [if_neg hno] at this;rw [hnext,h,ct, <-h1];exact this
  rintro k s h1;show Sat (fM N m (k+1) _ s) _;rw [fM.eq_2,fD I,cf];exact ac h1
 obtain ⟨r,e,h⟩:=key;exact ⟨r.at_,e,h⟩
theorem BZ (m:WO):(nY m).Pairwise (· < ·):=by
 have:=Ph m;unfold KW at this;rw [Y0,YS] at this;exact this.2
def xb (m:WO)(live f:List Int):List WK:=f.flatMap fun a=>uy live (co m a)
section
variable {N:Nat}{roots:List WK}(h:CollCtx N m roots live f)
include h
theorem CollCtx.nextTot:(roots.map (fZ (ts f) f)++(xb m live f).map (fZ (ts f) f)).length+wt (iD N m live f).Zh+wt (iD N m live f).Zj<=roots.length+wt m.Zh+wt m.Zj:=by
 have h1:=I3 h.lv;have e0:(iD N m live f).Zh=[]:=rfl
 have e1:(iD N m live f).Zj=f.map fun a=>rT (ts f) f (qC N live (co m a)):=rfl
 rw [e0,e1,YW,YY,YY];unfold xb;have e2:wt []=0:=rfl;omega
end
end
section
open Go.RowKit
theorem Il {γ:Type}(o:Option α)(f:α->Option β)(g:β->γ):(o.bind f).map g=o.bind fun x=>(f x).map g:=by cases o<;>rfl
theorem Te {γ:Type}(b:Bool)(x y:Option β)(g:β->γ):(bif b then x else y).map g=bif b then x.map g else y.map g:=by cases b<;>rfl
def VF:(WO×WW×WW×Int) ⊕ (WO×WW×WW)->WO×WW×WW×Int
 | .inl x=>x
 | .inr x=>(x.1,x.2.1,x.2.2,0)
theorem Tf (N:Nat)(m:WO)(roots:List WK):oZ N m roots=(dm N m roots).map VF:=by
 have a6:kM=mP:=rfl;have a7:kL=mO:=rfl;unfold oZ dm;rw [a6,a7,Il]
 congr 1;funext y7
 rw [Te];cases !decide (y7=0)
 ·simp only [cond_false,Il]
  congr 1;funext a8;congr 1;funext b0;congr 1;funext b5
  unfold qN;split
  ·simp only [Il]
   congr 1;funext b6;congr 1;funext b7
   split
   ·simp only [Il];rfl
   ·rfl
   ·rfl
   rfl
  ·rfl
  ·rfl
  rfl
 rfl
def mS (l:List WI):Nat:=cJ (fun c=>c.Zb.length) l
theorem CL (n:Nat): ∀l:List α,cJ (fun _=>n) l=n*l.length
 | []=>by simp [cJ]
 |a::l=>by rw [cJ,CL n l,XV,Nat.mul_succ];omega
theorem EH (g:α->Nat)(x:α): ∀(l:List α) (i:Nat),cJ g (l.set i x)<=cJ g l+g x
 | [],_=>by simp [cJ]
 |a::l,0=>by simp only [List.set_cons_zero,cJ];omega
 |a::l,i+1=>by have:=EH g x l i;simp only [List.set_cons_succ,cJ];omega
structure HInv (k:Nat) (g:WN):Prop where
 cnt:g.m_.Zh.length+g.m_.Zj.length<=k
 cells: ∀c∈g.m_.Zh++g.m_.Zj,c.Zc.length<=20/\c.Zb.length<=20
 sum:4*(g.Zt++g.Zv).length+3*(mS g.m_.Zh+mS g.m_.Zj)<=60*k
 w64:W64 g.m_
 r64: ∀v∈g.Zt++g.Zv,in64 v.N
 nd:(g.Zw.at_.map Prod.fst).Nodup
 keys: ∀x∈g.Zw.at_.map Prod.fst, ∃i:Nat,i<g.m_.Zj.length/\x=2*(i:Int)+2
section
variable {g:WN}(h:HInv k g)
include h
end
structure HB (g:WN):Prop where
 small:Small g.m_ (g.Zt++g.Zv)
 wtd:Wtd g.m_ (g.Zt++g.Zv)
 tot:cJ (fun a=>(co g.m_ a).Zb.length) (GM g.m_)<=3600
 four:4*(g.Zt++g.Zv).length+3*(mS g.m_.Zh+mS g.m_.Zj)<=9000
 w64:W64 g.m_
 r64: ∀v∈g.Zt++g.Zv,in64 v.N
 nd:(g.Zw.at_.map Prod.fst).Nodup
 keys: ∀x∈g.Zw.at_.map Prod.fst, ∃i:Nat,i<g.m_.Zj.length/\x=2*(i:Int)+2
theorem Ss (N:Nat)(g:WN)(ha:in64 a):jQ N g a=some (aW g.m_ a):=by
 unfold jQ aL;rw [bs,nf,ct,FN N _ _ ha];rfl
theorem yE {N:Nat}(hN:6500<N)(h1:c.Zc.length<=1000/\c.Zb.length<=2900):gM N c=some (bQ c):=by
 rw [Bi N I c h1.1 h1.2,Ap N I c h1.1 h1.2]
def BE (c:WI)(a:Int):WI:=⟨c.Za,c.Zi,c.Ze,a,c.Zc,c.Zb⟩
def BO (kv:List (Int×Bool))(a:Int)(c:WI):List (Int×Bool):=bif (fU c).any yB then AZ kv a true else Dm kv a
theorem NA {N:Nat}(hN:6500<N)(h1:c.Zc.length<=600/\c.Zb.length<=2900)(kv:List (Int×Bool))(i:Nat): ∃b,cQ N ⟨kv⟩ (2*(i:Int)+2) c=some (b,⟨BO kv (2*(i:Int)+2) c⟩):=by
 unfold cQ kI sH BO;rw [fO I,ct,uD I,tc I,zN N hN c h1.1 h1.2];simp only [bs,nt,cf];cases (fU c).any yB
 ·exact ⟨false,J⟩
 exact ⟨true,J⟩
theorem O1 (h:(kv.map Prod.fst).Nodup)(a:Int)(c:WI):((BO kv a c).map Prod.fst).Nodup:=by
 unfold BO;cases (fU c).any yB
 ·exact (HF h a).2.1
 show ((AZ kv a true).map (·.1)).Nodup;rw [AY];split
 ·exact h
 rename_i hn
 exact Yh.2 ⟨h,by simp,fun x hx y hy=>by rintro rfl;exact hn (by rw [Yg.1 hy] at hx;exact hx)⟩
theorem Hc (h:(kv.map Prod.fst).Nodup)(a:Int)(c:WI)(x:Int):x∈(BO kv a c).map Prod.fst↔((fU c).any yB=true/\(x∈kv.map Prod.fst\/x=a))\/((fU c).any yB=false/\x∈kv.map Prod.fst/\x≠a):=by
 unfold BO;cases (fU c).any yB
 ·simp only [Xf,false_and,false_or,true_and];exact (HF h a).1 x
 simp only [Bool.true_eq_false,false_and,or_false,true_and];show x∈(AZ kv a true).map (·.1)↔(x∈kv.map (·.1)\/x=a);rw [AY];split
 ·rename_i hn
  exact ⟨.inl,fun hx=>hx.elim id fun e=>e▸hn⟩
 rw [X6,Yg]
def iv (g:WN)(a:Int)(c:WI):WN:=
 bif decide (a%2=1) then ⟨⟨g.m_.Zh.set (a / 2).toNat (BE c (co g.m_ a).Zf),g.m_.Zj⟩,g.Zt,g.Zv,g.Zw⟩
 else ⟨⟨g.m_.Zh,g.m_.Zj.set (a / 2 - 1).toNat (BE c (co g.m_ a).Zf)⟩,g.Zt,g.Zv,⟨BO g.Zw.at_ a c⟩⟩
def GX (g:WN)(i:Int):Bool:=decide (0<=i)&&decide (i<(g.Zt.length:Int))
theorem Nh {g:WN}{i:Int}(h:GX g i=true): ∃j:Nat,i=j/\j<g.Zt.length:=by
 unfold GX at h;rw [Y0,YS,YS] at h;exact ⟨i.toNat,by omega,by omega⟩
theorem Ng (N:Nat)(g:WN)(i:Int):dh N g i=some (bif GX g i then g.Zt.getD i.toNat vZ else vZ):=by
 unfold dh aL
 cases hb:GX g i with
 |true=>
  obtain ⟨j,rfl,hj⟩:=Nh hb;rw [bs,cf,bs,WY (p:=(j:Int)<0) I,cf,bs,WY (p:=(g.Zt.length:Int)<=(j:Int)) I,cf,aK hj,bs,ct,Xm,List.getD_eq_getElem?_getD,XL hj];rfl
 |false=>
  unfold GX at hb;rw [bs,cf,bs,cf];by_cases h1:i<0
  ·rw [fO h1,ct,bs];rfl
  rw [WY h1,cf,bs];rw [WX (p:=(0:Int)<=i) I,Xg,YR] at hb;rw [WX (p:=(g.Zt.length:Int)<=i) I];rfl
end
section
open Go.RowKit
theorem Mc (l:List Int)(cb:WK): ∀xs:List WK,4*(pR l cb xs).length+3*(fd l xs).length<=3*xs.length
 | []=>by simp [fd,pR]
 | [_]=>by simp [fd,pR]
 | [_,_]=>by simp [fd,pR]
 | [_,_,_]=>by simp [fd,pR]
 |t::h::k::s::r=>by
  have:=Mc l cb r;unfold fd pR;cases decide (t.N∈l)<;>simp<;>omega
theorem PT (N:Nat)(l:List Int)(c:WI):4*(uy l c).length+3*(qC N l c).Zb.length<=3*c.Zb.length:=by
 have h1:=(Ez N l c).2;by_cases h10:c.Za=10
 ·have:=Mc l (c.Zb.headD nW) (c.Zb.drop 1);unfold qC uy;rw [WX h10,WY (p:=c.Za=8) I];show 4*(pR l (c.Zb.headD nW) (c.Zb.drop 1)).length+3*(c.Zb.take 1++fd l (c.Zb.drop 1)).length<=_;rw [YW,YX];rw [XW] at this;omega
 have e:uy l c=[]:=by unfold uy;rw [WY h10];rfl
 rw [e] at h1⊢;simp only [XY] at h1⊢;omega
theorem Ba (n:Nat)(g:α->Nat): ∀l:List α,cJ (fun x=>n*g x) l=n*cJ g l
 | []=>by simp [cJ]
 |a::l=>by simp only [cJ];rw [Ba n g l,Nat.mul_add]
theorem Im (m:WO):cJ (fun a=>(co m a).Zb.length) (GM m)=mS m.Zh+mS m.Zj:=by
 have h3:=xF (fun c:WI=>c.Zb.length) (co m) (GM m);rw [J5,Bb] at h3;exact h3.symm
theorem Ue {N:Nat}(hn:f.Nodup)(hf:∀a∈f,aW m a=true):4*(f.flatMap fun a=>uy lv (co m a)).length+3*cJ (fun a=>(qC N lv (co m a)).Zb.length) f<=3*(mS m.Zh+mS m.Zj):=by
 rw [yw]
 have h1:cJ (fun a=>4*(uy lv (co m a)).length+3*(qC N lv (co m a)).Zb.length) f<=cJ (fun a=>3*(co m a).Zb.length) f:=HZ fun a _=>PT N lv (co m a)
 rw [Bc,Ba,Ba,Ba] at h1
 have h2:=xE (fun a=>(co m a).Zb.length) hn fun a ha=>BP (hf a ha)
 rw [Im] at h2;omega
theorem DS (N:Nat)(a b:List WK)(ha:a.length<=100000)(hb:b.length<=100000):ei N a b=some (a++b):=by
 unfold ei lD mE iJ kP;rw [r64 I I,fD (a:=0+(a.length:Int)) I,cf,r64 I I,fD (a:=0+(a.length:Int)+(b.length:Int)) I,cf,r64 I I,r64 I I,cf];by_cases h:0<a.length+b.length
 ·rw [fO I,ct,cF ⟨by omega,by omega⟩,bs,rF (by simp;omega),rF (by simp;omega)];rfl
 rw [fD I,cf,bs,rF (by simp;omega),rF (by simp;omega)];rfl
theorem Ga (N:Nat)(a:List WK)(ha:a.length<=100000):dv N a=some a:=by
 unfold dv;rw [rF (by simp;omega)];rfl
theorem JF (N:Nat)(g:WN)(h:g.Zt.length<=600):kh N g=some g.Zt:=by
 unfold kh aL;rw [bs,cf,Ga N _ I,bs]
section
variable {g:WN}(h:HB g)
include h
end
theorem JC (h:kv.map Prod.fst=nY m):(kv.map Prod.fst).Nodup/\ ∀x∈kv.map Prod.fst, ∃i:Nat,i<m.Zj.length/\x=2*(i:Int)+2:=by
 rw [h];refine ⟨(BZ m).imp fun hab e=>by omega,fun x hx=> ?_⟩;obtain ⟨i,hi, -,e⟩:=vV.1 hx;exact ⟨i,hi,e⟩
theorem QU {N:Nat}(f:WK->WK)(r p gone:List WK){R:Type}(F:List WK->List WK->Option R)(h1:r.length+p.length<=600)(h2:gone.length<=3000):
  aG ((0:Int)<=(r.length:Int)/\0<=(r.length:Int).toNat/\(r.length:Int).toNat<=((r++p).map f).length) (aG ((0:Int)<=(r.length:Int)/\(r.length:Int).toNat<=((r++p).map f).length/\((r++p).map f).length<=((r++p).map f).length) ((dv N ((((r++p).map f).drop 0).take ((r.length:Int).toNat - 0))).bind fun a6=>(ei N ((((r++p).map f).drop ((r.length:Int).toNat)).take (((r++p).map f).length - (r.length:Int).toNat)) gone).bind fun a7=>F a6 a7))=F (r.map f) (p.map f++gone):=by
 have e1:(((r++p).map f).drop 0).take ((r.length:Int).toNat - 0)=r.map f:=by
  rw [Xx,Nat.sub_zero,Xm,X3,List.take_left' (by simp)]
 have e2:(((r++p).map f).drop ((r.length:Int).toNat)).take (((r++p).map f).length - (r.length:Int).toNat)=p.map f:=by
  rw [Xm,X3,List.drop_left' (by simp)];exact Yq (by simp)
 have hl:((r++p).map f).length=r.length+p.length:=by simp
 rw [cF ⟨by omega,by omega,by omega⟩,cF ⟨by omega,by omega,by omega⟩,e1,e2,Ga N _ (by simp;omega),bs,DS N _ _ (by simp;omega) I,bs]
section
variable {N:Nat}{roots:List WK}(h:CollCtx N m roots live f)
include h
theorem CollCtx.next4:4*(xb m live f).length+3*(mS (iD N m live f).Zh+mS (iD N m live f).Zj)<=3*(mS m.Zh+mS m.Zj):=by
 have h1:=Ue (N:=N) (lv:=live) h.lv.nd fun a ha=>h.lv.fhas ha
 have h3:mS (iD N m live f).Zj=cJ (fun a=>(qC N live (co m a)).Zb.length) f:=by
  show cJ (fun c:WI=>c.Zb.length) (f.map fun a=>rT (ts f) f (qC N live (co m a)))=_;rw [xF]
  exact EI fun a _=>by show ((qC N live (co m a)).Zb.map _).length=_;rw [YY]
 have h4:mS (iD N m live f).Zh=0:=rfl;unfold xb at*;omega
theorem CollCtx.nextCnt:(iD N m live f).Zj.length<=m.Zh.length+m.Zj.length:=by
 have h1:=xE (fun _=>1) h.lv.nd fun a ha=>BP (h.lv.fhas ha)
 rw [CL,CL] at h1;unfold GM at h1;unfold iD;simp only [YW,YY,List.length_range] at h1⊢;omega
end
theorem KS {N:Nat}{R:List WK}(h0:mC N m R=some 0){y:WO×List WK×List WK×Int}(h:dm N m R=some (.inl y)):False:=by
 unfold dm at h;rw [h0,bs,WX (p:=(0:Int)=0) rfl,nt,cf] at h;obtain ⟨a6, -,h⟩:=aa h;obtain ⟨a7, -,h⟩:=aa h;obtain ⟨a8, -,h⟩:=aa h;unfold qN at h;split at h
 ·obtain ⟨b0, -,h⟩:=aa h;obtain ⟨b5, -,h⟩:=aa h;split at h
  ·obtain ⟨b6, -,h⟩:=aa h;obtain ⟨b7, -,h⟩:=aa h;cases h
  ·cases h
  ·cases h
  cases h
 ·cases h
 ·cases h
 cases h
theorem Rf {N:Nat}(hN:6500<N){g:WN}(h:HB g):
  (ot N g.m_ (g.Zt++g.Zv)≠0/\dp N g=some (ot N g.m_ (g.Zt++g.Zv),g))\/
  ∃live f kv,CollCtx N g.m_ (g.Zt++g.Zv) live f/\kv.map Prod.fst=nY (iD N g.m_ live f)/\
   dp N g=some (0,⟨iD N g.m_ live f,g.Zt.map (fZ (ts f) f),g.Zv.map (fZ (ts f) f)++(xb g.m_ live f).map (fZ (ts f) f),⟨kv⟩⟩):=by
 have hs:=h.small;have hrl:=hs.roots;have hsum:=h.four;have hcnt:=h.wtd.cnt;rw [YW] at hrl hsum;obtain ⟨live,f,hl⟩:=Q3 N hN hs h.w64 h.r64;have hp:=IH N hN hs h.wtd h.w64 h.r64 hl;have hm:=Tf N g.m_ (g.Zt++g.Zv);rw [hp] at hm;unfold PR at hm
 have head:dp N g=((dm N g.m_ (g.Zt++g.Zv)).bind fun a6=>Ef a6 (fun y11_0=>some (.inl (y11_0.1,y11_0.2.1,y11_0.2.2.1,y11_0.2.2.2))) (fun y11_1=>some (.inr (y11_1.1,y11_1.2.1,y11_1.2.2)))).bind fun a7=>(Ef a7 (fun y27_0:WO×WW×WW×Int=>ee N g y27_0.1.Zh y27_0.1.Zj y27_0.2.1 y27_0.2.2.1 y27_0.2.2.2) (fun y27_1:WO×WW×WW=>d9 N g y27_1.1.Zh y27_1.1.Zj y27_1.2.1 y27_1.2.2)).bind fun y9=>some (y9.1,y9.2):=by
  unfold dp iM np aL;rw [bs,cf,DS N _ _ I I,bs,Option.bind_assoc]
 by_cases h0: ¬ot N g.m_ (g.Zt++g.Zv)=0
 ·rw [jg h0,cond_false] at hm;refine .inl ⟨h0,?_⟩;rw [head]
  cases hc:dm N g.m_ (g.Zt++g.Zv) with
  |none=>rw [hc] at hm;cases hm
  | some y=>
   rw [hc] at hm;have e:=congrArg (fun z:WO×WW×WW×Int=>z.2.2.2) (YL hm)
   cases y with
   |inl y=>
    obtain ⟨y1,y2,y3,y4⟩:=y;have e':ot N g.m_ (g.Zt++g.Zv)=y4:=e;rw [bs]
    dsimp only [Ef]
    rw [bs]
    dsimp only
    unfold ee;rw [<-e',jg h0,nf,ct,bs]
   |inr y=>exact absurd e h0
 replace h0:ot N g.m_ (g.Zt++g.Zv)=0:=by omega
 rw [tc h0,cond_true] at hm;have c:=Tz hN hs h.wtd h.w64 h.r64 hl h0;have h4:=c.next4;have hnc:=c.nextCnt;have h0n:(iD N g.m_ live f).Zh.length=0:=rfl;obtain ⟨kv,k1,k2⟩:=Ku N hN (m:=iD N g.m_ live f) (c.nextS [] (by simp));have k1':eO N g.Zw (⟨(iD N g.m_ live f).Zh,(iD N g.m_ live f).Zj⟩:WO)=some ⟨kv⟩:=k1;have hg:((xb g.m_ live f).map (fZ (ts f) f)).length=(xb g.m_ live f).length:=YY _;refine .inr ⟨live,f,kv,c,k2,?_⟩;rw [head]
 cases hc:dm N g.m_ (g.Zt++g.Zv) with
 |none=>rw [hc] at hm;cases hm
 | some y=>
  rw [hc] at hm;have e:=YL hm
  cases y with
  |inl y=>exact (KS (by rw [Gd N hN hs h.wtd h.w64 h.r64,h0]) hc).elim
  |inr y=>
   obtain ⟨y1,y2,y3⟩:=y;simp only [VF,Prod.mk.injEq,and_true] at e;obtain ⟨rfl,rfl,rfl⟩:=e;rw [bs]
   dsimp only [Ef]
   rw [bs]
   dsimp only
   unfold d9 ie;unfold JV
   dsimp only
   rw [QU (N:=N) (fZ (ts f) f) g.Zt g.Zv _ _ I (by unfold xb at hg;rw [hg];unfold xb at h4;omega)];have k2':eO N g.Zw (⟨[],f.map fun a=>rT (ts f) f (qC N live (co g.m_ a))⟩:WO)=some ⟨kv⟩:=k1;rw [k2',bs,bs];rfl
end
section
open Go.RowKit
theorem Oe {a b:List WK}(h:ox f (a++b)):ox f a:=fun v hv hb=>h v (W2 _ hv) hb
theorem Qx (h:c.Za≠10):uy lv c=[]:=by
 unfold uy;rw [WY h];rfl
theorem PS {N:Nat}(h8:c.Za≠8)(h10:c.Za≠10):qC N lv c=c:=by
 unfold qC;rw [WY h8,WY h10];rfl
theorem Ug (h:kv.map Prod.fst=nY m):FH kv=nY m:=by
 have e:FH kv=kA (kv.map Prod.fst):=rfl;rw [e,h]
 exact EN ((BZ m).imp fun hab e=>by omega) (BZ m) fun x=>Iff.rfl
structure Pl (g:WN):Prop where
 hb:HB g
 pend:g.Zv=[]
 cells: ∀c∈g.m_.Zh++g.m_.Zj,bQ c=true/\(∀x∈fU c,aW g.m_ x=true)/\c.Za≠8/\c.Za≠10
 roots: ∀x∈dF g.Zt,aW g.m_ x=true
 set:FH g.Zw.at_=nY g.m_
structure Mv (g g':WN) (ρ:Int->Int) (f:List Int):Prop where
 roots:g'.Zt=g.Zt.map (fZ ρ f)
 pend:g'.Zv=[]
 at_: ∀a∈f,aW g'.m_ (ρ a)=true/\ ∃age,co g'.m_ (ρ a)=H5 (rT ρ f (co g.m_ a)) age
 rin:ox f g.Zt
 has: ∀a∈f,aW g.m_ a=true
 cells: ∀c∈g'.m_.Zh++g'.m_.Zj,(∃a∈f, ∃age,c=H5 (rT ρ f (co g.m_ a)) age)/\bQ c=true/\ ∀x∈fU c,aW g'.m_ x=true
 cnt:g'.m_.Zh.length+g'.m_.Zj.length<=g.m_.Zh.length+g.m_.Zj.length
 sum:mS g'.m_.Zh+mS g'.m_.Zj<=mS g.m_.Zh+mS g.m_.Zj
 wts:wt g'.m_.Zh+wt g'.m_.Zj<=wt g.m_.Zh+wt g.m_.Zj
 w64:W64 g'.m_
 r64: ∀v∈g'.Zt,in64 v.N
 set:g'.Zw.at_.map Prod.fst=nY g'.m_
 inj: ∀a∈f, ∀b∈f,ρ a=ρ b->a=b
 cin: ∀a∈f,ox f (co g.m_ a).Zc/\ox f (co g.m_ a).Zb
theorem Pl.check {N:Nat}(hN:6500<N){g:WN}(h:Pl g):ot N g.m_ (g.Zt++g.Zv)=0:=by
 unfold ot
 have e1:(g.m_.Zh++g.m_.Zj).all (sc N)=true:=by
  rw [Xo];intro c hc;have:=h.hb.small.cells c hc;rw [Jg I I I];exact (h.cells c hc).1
 have e2:wh g.m_ ((g.m_.Zh++g.m_.Zj).flatMap fU++dF (g.Zt++g.Zv))=true:=by
  unfold wh;rw [Xo];intro x hx;rcases X6.1 hx with hx|hx
  ·obtain ⟨c,hc,hx⟩:=List.mem_flatMap.1 hx;exact (h.cells c hc).2.1 x hx
  rw [h.pend,Xp] at hx;exact h.roots x hx
 rw [e1,e2];rfl
theorem O9 {N:Nat}(hN:6500<N){g:WN}(h:Pl g): ∃g' ρ f,dp N g=some (0,g')/\Mv g g' ρ f:=by
 rcases Rf hN h.hb with ⟨hm, -⟩|⟨live,f,kv,c,k2,e⟩
 ·exact absurd (h.check hN) hm
 have hin:ox f g.Zt:=Oe c.rootIn
 have hk: ∀a∈f,(co g.m_ a).Za≠8/\(co g.m_ a).Za≠10:=fun a ha=>(h.cells _ (o9 (c.lv.fhas ha))).2.2
 have hg:xb g.m_ live f=[]:=by
  unfold xb;rw [List.flatMap_eq_nil_iff]
  exact fun a ha=>Qx (hk a ha).2
 have hp:g.Zv.map (fZ (ts f) f)++(xb g.m_ live f).map (fZ (ts f) f)=[]:=by rw [hg,h.pend];rfl
 rw [hp] at e;have h4:=c.next4;have ht:=c.nextTot;have hnc:=c.nextCnt;rw [hg,XY] at h4;rw [hg,List.map_nil,Xp,YY] at ht;have h0n:(iD N g.m_ live f).Zh.length=0:=rfl
 have hc: ∀a∈f,rT (ts f) f (qC N live (co g.m_ a))=H5 (rT (ts f) f (co g.m_ a)) (co g.m_ a).Zf:=fun a ha=>by
  rw [PS (hk a ha).1 (hk a ha).2];rfl
 refine ⟨_,ts f,f,e,⟨J,J,fun a ha=> ?_,hin,fun a ha=>c.lv.fhas ha,fun d hd=> ?_,by show (iD N g.m_ live f).Zh.length+(iD N g.m_ live f).Zj.length<=_;omega,by show mS (iD N g.m_ live f).Zh+mS (iD N g.m_ live f).Zj<=_;omega,by show wt (iD N g.m_ live f).Zh+wt (iD N g.m_ live f).Zj<=_;omega,c.nextW,fun v hv=> ?_,k2,fun _ ha _ hb=>LK ha hb,fun a ha=> ?_⟩⟩
 ·exact ⟨Jv ha,_,(QX ha).trans (hc a ha)⟩
 ·have hd':d∈f.map fun a=>rT (ts f) f (qC N live (co g.m_ a)):=hd
  obtain ⟨h1,h2⟩:=c.nextAddr hd';obtain ⟨a,ha,rfl⟩:=Yb.1 hd';exact ⟨⟨a,ha,_,hc a ha⟩,h1,h2⟩
 ·exact c.now64 v (by rw [X3];exact W2 _ hv)
 have:=(c.cell ha).inC;rw [PS (hk a ha).1 (hk a ha).2] at this;exact this
theorem Mv.pl {g g':WN}(m:Mv g g' ρ f)(h:Pl g):Pl g':=by
 obtain ⟨n1,n2⟩:=JC m.set;have hs:=h.hb.small;have hw:=h.hb.wtd
 have hl:g'.Zt.length=g.Zt.length:=by rw [m.roots,YY]
 have hrl:=hs.roots;have hle:=hw.le;have hf:=h.hb.four;have ht:=h.hb.tot;have hwc:=hw.cnt;have hc:=m.cnt;have hwt:=m.wts;have hsum:=m.sum;rw [Im] at ht;rw [h.pend,Xp] at hrl hle hf
 have hsz: ∀c∈g'.m_.Zh++g'.m_.Zj,c.Zc.length<=600/\c.Zb.length<=2900:=fun c hc=>by
  obtain ⟨⟨a,ha,age,rfl⟩, -⟩:=m.cells c hc;have:=hs.cells _ (o9 (m.has a ha));show ((co g.m_ a).Zc.map _).length<=600/\((co g.m_ a).Zb.map _).length<=2900;rw [YY,YY];exact this
 refine ⟨⟨⟨by omega,by omega,?_,hsz⟩,⟨?_,by omega⟩,?_,?_,m.w64,?_,n1,n2⟩,m.pend,fun c hc=> ?_,fun x hx=> ?_,Ug m.set⟩
 ·rw [m.pend,Xp];omega
 ·rw [m.pend,Xp];omega
 ·rw [Im];omega
 ·rw [m.pend,Xp];omega
 ·rw [m.pend,Xp];exact m.r64
 ·obtain ⟨⟨a,ha,age,rfl⟩,h1,h2⟩:=m.cells c hc;exact ⟨h1,h2,(h.cells _ (o9 (m.has a ha))).2.2⟩
 obtain ⟨v,hv,hb,rfl⟩:=tw.1 hx;rw [m.roots] at hv;obtain ⟨w,hw,rfl⟩:=Yb.1 hv;rw [LX] at hb;rw [C4 hb (m.rin w hw hb)];exact (m.at_ _ (m.rin w hw hb)).1
def SI (S:List Int)(c:WI):List WK:=bif decide (c.Za=8) then jJ (fun x=>decide (x∈S)) c.Zb else c.Zb
structure IsoC (ρ:Int->Int) (S:List Int) (c d:WI):Prop where
 kind:d.Za=c.Za
 shape:d.Zi=c.Zi
 flags:d.Ze=c.Ze
 slots:d.Zc=c.Zc.map (fZ ρ S)
 more:SI (S.map ρ) d=(SI S c).map (fZ ρ S)
 inS:ox S c.Zc
 inM:ox S (SI S c)
structure TVal (m:WO) (R:List WK):Prop where
 right: ∀c∈m.Zh++m.Zj,bQ c=true
 kind: ∀c∈m.Zh++m.Zj,c.Za=8\/c.Za=11
 addr: ∀c∈m.Zh++m.Zj, ∀x∈fU c,aW m x=true
 size: ∀c∈m.Zh++m.Zj,c.Zc.length<=20/\c.Zb.length<=20
 roots: ∀v∈R,v=nW\/(v.Za=9/\v.S=⟨#[]⟩/\aW m v.N=true)
structure Iso (mA mB:WO) (RA RB:List WK) (S:List Int) (ρ:Int->Int):Prop where
 ren:Ren ρ S
 inA: ∀a∈S,aW mA a=true
 inB: ∀a∈S,aW mB (ρ a)=true
 cell: ∀a∈S,IsoC ρ S (co mA a) (co mB (ρ a))
 rootIn:ox S RA
 roots:RB=RA.map (fZ ρ S)
section
variable {R:List WK}(h:TVal m R)
include h
end
section
variable {mA mB:WO}{RA RB:List WK}{S:List Int}(h:Iso mA mB RA RB S ρ)(vA:TVal mA RA)(vB:TVal mB RB)
include h vA vB
end
end
end Go.Proofs.YtmcifcmlojonnaaGreatDoor