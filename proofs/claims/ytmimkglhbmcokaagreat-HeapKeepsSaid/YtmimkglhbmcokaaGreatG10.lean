/- Merged texts: part 10. No conditions of their own. -/
import Derived.Test.YtmimkglhbmcokaaGreatG9
import Derived.ProofKit
import Derived.Test.YtmimkglhbmcokaaGreatG3
namespace Go.Proofs.YtmimkglhbmcokaaGreat
section
open Go.RowKit
theorem JY (N:Nat)(k:Int):ti N k=iq N k:=by
 unfold ti iq iG;by_cases h1:k=1
 ·subst h1;rfl
 by_cases h2:k=2
 ·subst h2;rfl
 by_cases h3:k=3
 ·subst h3;rfl
 by_cases h6:k=6
 ·subst h6;rfl
 by_cases h8:k=8
 ·subst h8;rfl
 by_cases h9:k=9
 ·subst h9;rfl
 by_cases h10:k=10
 ·subst h10;rfl
 rw [fK h1,fK h2,fK h3,fK h6,fK h8,fK h9,fK h10];rfl
theorem KA (N:Nat)(c:Ra):iF N c=gn N c:=by
 unfold iF gn;rw [JY];rfl
theorem OR (N:Nat)(v:Q5):th N v=gx N v:=by
 unfold th gx oK;by_cases h5:v.Kind=5
 ·rw [h5];rfl
 rw [fK h5];simp only [cf];by_cases hr:v.Kind<0∨9<v.Kind
 ·have h2:v.Kind≠2:=by omega
  have h3:v.Kind≠3:=by omega
  have h6:v.Kind≠6:=by omega
  have h7:v.Kind≠7:=by omega
  have h9:v.Kind≠9:=by omega
  have e1:((bif decide (v.Kind<0) then (some true) else (some (decide (9<v.Kind)))):Option Bool)=some true:=by
   rcases hr with h|h
   ·rw [cF h];rfl
   rw [cF (a:=9) h];cases decide (v.Kind<0)<;>rfl
  rw [e1,bs,ct,fK h2,fK h3,fK h6,fK h7,fK h9];simp only [cf]
  have e2:(((bif decide (v.N=0) then (some (decide (0≤v.Kind))) else (some false)).bind fun b14=>(bif b14 then (some (decide (v.Kind≤9))) else (some false)).bind fun b15=>some b15):Option Bool)=some false:=by
   cases decide (v.N=0)
   ·rfl
   rcases hr with h|h
   ·rw [Lb (a:=0) (b:=v.Kind) Y];rfl
   rw [Lb (a:=v.Kind) (b:=9) Y];cases decide (0≤v.Kind)<;>rfl
  rw [e2];cases s:(v.S.toList==(⟨#[]⟩:ByteArray).toList)<;>rfl
 have e1:((bif decide (v.Kind<0) then (some true) else (some (decide (9<v.Kind)))):Option Bool)=some false:=by
  rw [cD (a:=v.Kind) (b:=0) Y,cD (a:=9) (b:=v.Kind) Y];rfl
 rw [e1,bs,cf];cases hs:(v.S.toList==(⟨#[]⟩:ByteArray).toList)
 ·rfl
 simp only [nt,cf];by_cases h2:v.Kind=2
 ·rw [h2];rfl
 rw [fK h2];simp only [cf];by_cases h3:v.Kind=3
 ·rw [h3];rfl
 rw [fK h3];simp only [cf];by_cases h6:v.Kind=6
 ·rw [h6];rfl
 rw [fK h6];simp only [cf];by_cases h7:v.Kind=7
 ·rw [h7];rfl
 rw [fK h7];simp only [cf];by_cases h9:v.Kind=9
 ·rw [h9];rfl
 rw [fK h9,La (a:=0) Y,La (a:=v.Kind) Y];cases decide (v.N=0)<;>rfl
theorem Gg (N:Nat)(v:Q5): ∃b,gx N v=some b:=by
 unfold gx;cases decide (v.Kind<0)<;>cases decide (9<v.Kind)<;>cases decide (v.Kind=5)<;>cases decide (v.N=0)<;>cases (v.S.toList==(⟨#[]⟩:ByteArray).toList)<;>cases decide (v.Kind=2)<;>cases decide (v.Kind=3)<;>cases decide ((-9007199254740992)≤v.N)<;>cases decide (v.Kind=6)<;>cases decide (v.Kind=7)<;>cases decide (v.Kind=9)<;>exact ⟨_,rfl⟩
theorem yG (N:Nat)(k:Nat)(hk:k=2∨k=4)(l:List Q5)(hl:l.length≤1000): ∀(m i:Nat),l.length<m+i→i≤l.length→(l.length - i)%k=0→ ∃b,eK N (k:Int) l m (i:Int)=some b∧
  ia N (da (fun x st=>cr N (k:Int) x st)) l (k:Int) m (i:Int) (none,())=some (bif b then (none,()) else (some .ret,()))
 |0,i,h,h2,_=>by omega
 | m + 1,i,h,h2,h3=>by
  by_cases hi:i<l.length
  ·have hik:i+k≤l.length:=by
    rcases hk with rfl|rfl<;>omega
   have hmin:(min (k:Int) (((l.drop (i:Int).toNat).take (l.length - (i:Int).toNat)).length:Int))=k:=by
    rw [List.length_take,List.length_drop,Int.toNat_natCast];omega
   have hto:((i:Int)+(k:Int)).toNat=i+k:=by omega
   have hx: ∀j,j<k→aM ((l.drop i).take k) (j:Int)=l[i+j]? :=fun j hj=>by
    rw [lX,List.getElem?_take,if_pos hj,List.getElem?_drop]
   have hk0:=hx 0 Y;have hk1:=hx 1 Y;rw [List.getElem?_eq_getElem Y] at hk0 hk1;have hl0:aM l (i:Int)=some l[i]:=bf hi
   have hl1:aM l ((i:Int)+1)=some (l[i+1]'Y):=by
    have:=bf (xs:=l) (i:=i+1) Y;simpa using this
   obtain ⟨b,hb1,hb2⟩:=yG N k hk l hl m (i+k) Y hik (by rcases hk with rfl|rfl<;>omega);simp only [Int.natCast_add] at hb1 hb2
   have fin: ∀b',(bif b' then some false else bD (in64 ((i:Int)+(k:Int))) (eK N (k:Int) l m ((i:Int)+(k:Int))))=some (bif b' then false else b):=fun b'=>by
    cases b'
    ·rw [cf,r64 Y Y,hb1];rfl
    rfl
   have fin2: ∀b':Bool,((bif b' then (some (some Exit.ret,())) else (some (none,())):Option (Option Exit×Unit)).map fun r=>(r.1.isNone,r))=some (!b',(bif b' then some Exit.ret else none,())):=fun b'=>by cases b'<;>rfl
   have goal: ∀b',((some (!b',((bif b' then some Exit.ret else none:Option Exit),())):Option (Bool×(Option Exit×Unit))).bind fun y14=>bif !y14.1 then (some y14.2) else (bD (in64 ((i:Int)+(k:Int))) ((ia N (da (fun x st=>cr N (k:Int) x st)) l (k:Int) m) ((i:Int)+(k:Int)) y14.2)))=some (bif (bif b' then false else b) then (none,()) else (some .ret,())):=fun b'=>by
    cases b'
    ·rw [bs];simp only [nf,nt,cf];rw [r64 Y Y];exact hb2
    rfl
   have lift: ∀(x:List Q5) (b':Bool),cr N (k:Int) x ()=(bif b' then (some (some Exit.ret,())) else (some (none,())))→da (fun x st=>cr N (k:Int) x st) x (none,())=some (!b',(bif b' then some Exit.ret else none,())):=fun x b' hb=>by
    unfold da;simp only [hb];exact fin2 b'
   have key: ∃b',((aM l (i:Int)).bind fun x8=>(bif !decide (x8.Kind=7) then (some true) else (bD (in64 ((i:Int)+1)) ((aM l ((i:Int)+1)).bind fun x11=>some (decide (x11.Kind=8))))).bind fun b9=>bif b9 then (some false) else ((bif decide ((k:Int)=4) then (bD (in64 ((i:Int)+2)) ((aM l ((i:Int)+2)).bind fun x15=>(dB N x15 7).bind fun y16=>(bif !y16 then (some true) else (bD (in64 ((i:Int)+3)) ((aM l ((i:Int)+3)).bind fun x19=>(fh N x19 0 9007199254740992).bind fun y20=>some (!y20)))).bind fun b17=>some b17)) else (some false)).bind fun b13=>bif b13 then (some false) else (bD (in64 ((i:Int)+(k:Int))) ((eK N (k:Int) l m) ((i:Int)+(k:Int))))))=some (bif b' then false else b)∧cr N (k:Int) ((l.drop i).take k) ()=(bif b' then (some (some Exit.ret,())) else (some (none,()))):=by
    unfold cr;simp only [Int.cast_ofNat_Int,Int.natCast_zero,Int.natCast_one] at hk0 hk1;rw [hl0,bs,r64 (a:=(i:Int)+1) Y Y,hl1,bs];have hk0':aM ((l.drop i).take k) 0=some l[i]:=hk0;have hk1':aM ((l.drop i).take k) 1=some (l[i+1]'Y):=hk1;simp only [hk0',bs,hk1'];cases h7:(!decide (l[i].Kind=7))
    ·simp only [cf,bs];cases h8:decide ((l[i+1]'Y).Kind=8)
     ·simp only [cf];rcases hk with rfl|rfl
      ·simp only [show decide (((2:Nat):Int)=4)=false from rfl,cf,bs];have f:=fin false;rw [cf] at f;refine ⟨false,?_,U⟩;exact f
      have hk2:=hx 2 Y;have hk3:=hx 3 Y;rw [List.getElem?_eq_getElem Y] at hk2 hk3;have hk2':aM ((l.drop i).take 4) 2=some (l[i+2]'Y):=hk2;have hk3':aM ((l.drop i).take 4) 3=some (l[i+3]'Y):=hk3
      have hl2:aM l ((i:Int)+2)=some (l[i+2]'Y):=by
       have:=bf (xs:=l) (i:=i+2) Y;simpa using this
      have hl3:aM l ((i:Int)+3)=some (l[i+3]'Y):=by
       have:=bf (xs:=l) (i:=i+3) Y;simpa using this
      simp only [show decide (((4:Nat):Int)=4)=true from rfl,ct];rw [r64 (a:=(i:Int)+2) Y Y,hl2,bs,hk2',bs,r64 (a:=(i:Int)+3) Y Y,hl3,bs,hk3']
      have en: ∀v,gr N v 7=dB N v 7:=fun v=>rfl
      have em: ∀v,gt N v 0 9007199254740992=fh N v 0 9007199254740992:=fun v=>rfl
      have hn: ∃b1,dB N (l[i+2]'Y) 7=some b1:=by unfold dB;cases decide ((l[i+2]'Y).Kind=0)<;>exact ⟨_,rfl⟩
      have hm: ∃b1,fh N (l[i+3]'Y) 0 9007199254740992=some b1:=by unfold fh;cases decide ((l[i+3]'Y).Kind=3)<;>cases decide (0≤(l[i+3]'Y).N)<;>exact ⟨_,rfl⟩
      obtain ⟨b1,hn⟩:=hn;obtain ⟨b2,hm⟩:=hm;simp only [bs,en,em,hn,hm];cases b1
      ·simp only [nf,ct,bs];exact ⟨true,U,U⟩
      simp only [nt,cf,bs];exact ⟨!b2,fin (!b2),by cases b2<;>rfl⟩
     exact ⟨true,U,U⟩
    exact ⟨true,U,U⟩
   obtain ⟨b',e1,e2⟩:=key;refine ⟨bif b' then false else b,?_,?_⟩
   ·rw [eK.eq_2,cF Y,ct];exact e1
   rw [ia.eq_2,cF Y,ct,hmin,kw (show (0:Int)≤(i:Int)∧(i:Int).toNat≤l.length∧l.length≤l.length from ⟨by omega,by omega,Nat.le_refl _⟩),r64 (a:=(i:Int)+(k:Int)) Y Y,r64 (a:=(i:Int)+(k:Int)) Y Y];rw [kw (show (0:Int)≤(i:Int)∧(0:Int)≤(i:Int)+(k:Int)∧(i:Int).toNat≤((i:Int)+(k:Int)).toNat∧((i:Int)+(k:Int)).toNat≤l.length from ⟨by omega,by omega,by omega,by omega⟩),hto,Int.toNat_natCast,show i+k - i=k by omega,lift _ b' e2];exact goal b'
  rw [eK.eq_2,ia.eq_2,cD Y,cf,cf];exact ⟨true,U,U⟩
theorem qp (N:Nat)(hN:2000<N)(k:Nat)(hk:k=2∨k=4)(l:List Q5)(hl:l.length≤1000): ∃b,dN N l (k:Int)=some b∧cX N l (k:Int)=some b∧(b=true→l.length%k=0):=by
 unfold dN cX
 have hk0:(k:Int)≠0:=by rcases hk with rfl|rfl<;>decide
 rw [kw hk0,kw hk0]
 have ht:(l.length:Int).tmod (k:Int)=((l.length%k:Nat):Int):=by
  rw [Int.tmod_eq_emod_of_nonneg Y];rfl
 rw [ht];by_cases h:l.length%k=0
 ·rw [nn Y];obtain ⟨b,h1,h2⟩:=yG N k hk l hl N 0 Y Y (by simpa using h)
  have e:jy N l (k:Int)=some ():=by
   unfold jy;rw [cD (by rcases hk with rfl|rfl<;>omega),cf]
  unfold pH;simp only [nt,cf,e,bs];have h1':eK N (k:Int) l N 0=some b:=h1;have h2':ia N (da (fun x st=>cr N (k:Int) x st)) l (k:Int) N 0 (none,())=some (bif b then (none,()) else (some .ret,())):=h2;rw [h1',h2',bs];exact ⟨b,by cases b<;>rfl,rfl,fun _=>h⟩
 rw [fK Y];exact ⟨false,U,U,fun h=>by cases h⟩
theorem MW (N:Nat)(hN:2000<N)(c:Ra)(hc:c.More.length≤1000):jk N c.Kind c.More=iK N c:=by
 obtain ⟨b2,h2,h2', -⟩:=qp N hN 2 (.inl rfl) c.More hc;obtain ⟨b4,h4,h4', -⟩:=qp N hN 4 (.inr rfl) ((c.More.drop ((1:Int).toNat)).take (c.More.length - (1:Int).toNat)) (by rw [List.length_take,List.length_drop];omega);have e2:dN N c.More 2=cX N c.More 2:=h2.trans h2'.symm;have e4:dN N ((c.More.drop ((1:Int).toNat)).take (c.More.length - (1:Int).toNat)) 4=cX N ((c.More.drop ((1:Int).toNat)).take (c.More.length - (1:Int).toNat)) 4:=h4.trans h4'.symm;unfold jk iK kE ip;rw [e2,e4];rfl
theorem Gh (N:Nat)(c:Ra)(b:Bool)(v:Q5): ∃y,gx N v=some y∧da (fun x st=>fM N c x st) (b,v) (none,())=some (y,(bif y then none else some Exit.ret,())):=by
 obtain ⟨y,hy⟩:=Gg N v;refine ⟨y,hy,?_⟩;unfold da fM;simp only [OR,hy,bs];cases y<;>rfl
theorem BK (N:Nat)(c:Ra)(hc:c.More.length≤1000): ∀(m i:Nat),c.More.length<m+i→i≤c.More.length→ ∃b,kc N c m (i:Int)=(bif b then cY N c else some false)∧
  jV N (da (fun x st=>fM N c x st)) c m (i:Int) (none,())=some (bif b then none else some Exit.ret,())
 |0,i,h,h2=>by omega
 | m+1,i,h,h2=>by
  rw [kc.eq_2,jV.eq_2];by_cases hi:i<c.More.length
  ·rw [cF Y,ct,ct,bf hi,bs,bs]
   have hs:(bif !decide (c.Kind=8) then ((bif !decide (c.Kind=10) then (some true) else (some (decide ((i:Int).tmod 2=0)))).bind fun b22=>some b22) else (some false))=some (ku c.Kind i):=by
    unfold ku;cases decide (c.Kind=8)<;>cases decide (c.Kind=10)<;>rfl
   obtain ⟨y,h3,h4⟩:=Gh N c (ku c.Kind i) c.More[i];rw [hs,bs,h3,h4,bs,bs];cases y
   ·simp only [nf,nt,ct,cf];exact ⟨false,cf.symm,by rw [cf]⟩
   obtain ⟨b,h5,h6⟩:=BK N c hc m (i+1) Y hi;simp only [Int.natCast_add,Int.cast_ofNat_Int] at h5 h6;simp only [nt,cf,ct];rw [r64 Y Y,r64 Y Y];exact ⟨b,h5,h6⟩
  rw [cD Y,cf,cf];exact ⟨true,ct.symm,by rw [ct]⟩
theorem qN (N:Nat)(hN:2000<N)(c:Ra)(hS:c.Slots.length≤1000)(hc:c.More.length≤1000): ∀(m i:Nat),c.Slots.length<m+i→i≤c.Slots.length→ ∃b,fq N c m (i:Int)=(bif b then cY N c else some false)∧
  jl N (da (fun x st=>fM N c x st)) c m (i:Int) (none,())=some (bif b then none else some Exit.ret,())
 |0,i,h,h2=>by omega
 | m+1,i,h,h2=>by
  rw [fq.eq_2,jl.eq_2];by_cases hi:i<c.Slots.length
  ·rw [cF Y,ct,ct,bf hi,bs,bs];obtain ⟨y,h3,h4⟩:=Gh N c true c.Slots[i];rw [h3,h4,bs,bs];cases y
   ·simp only [nf,nt,ct,cf];exact ⟨false,cf.symm,by rw [cf]⟩
   obtain ⟨b,h5,h6⟩:=qN N hN c hS hc m (i+1) Y hi;simp only [Int.natCast_add,Int.cast_ofNat_Int] at h5 h6;simp only [nt,cf,ct];rw [r64 Y Y,r64 Y Y];exact ⟨b,h5,h6⟩
  rw [cD Y,cf,cf];exact BK N c hc N 0 Y Y
theorem ue (N:Nat)(hN:2000<N)(c:Ra)(hS:c.Slots.length≤1000)(hc:c.More.length≤1000):dH N c=cP N c:=by
 unfold dH cP lY
 have hAge:((bif !decide (c.Age=0) then (some (!decide (c.Age=1))) else (some false)).bind fun b10=>some b10)=(some (decide (c.Age<0)||decide (1<c.Age)):Option Bool):=by
  by_cases h0:c.Age=0
  ·rw [h0];rfl
  by_cases h1:c.Age=1
  ·rw [h1];rfl
  rw [fK h0,fK h1];by_cases h2:c.Age<0
  ·rw [cF h2];rfl
  rw [cF (a:=1) (b:=c.Age) Y,cD (a:=c.Age) Y];rfl
 obtain ⟨b,h1,h2⟩:=qN N hN c hS hc N 0 Y Y;have h1':fq N c N 0=(bif b then cY N c else some false):=h1;have h2':jl N (da (fun x st=>fM N c x st)) c N 0 (none,())=some (bif b then none else some Exit.ret,()):=h2;have e:qr N c=some ():=rfl;rw [hAge,h1',h2',e]
 have tail:((some ()).bind fun (y12:Unit)=>(some ((bif b then none else some Exit.ret:Option Exit),())).bind fun y15=>nH y15.1 ((iF N c).bind fun y19=>(bif y19 then ((jk N c.Kind c.More).bind fun y21=>some y21) else (some false)).bind fun b20=>some b20) (some false) (fun _=>none))=(bif b then cY N c else some false):=by
  cases b
  ·rfl
  rw [KA,MW N hN c hc];rfl
 rw [tail];cases decide (c.Kind<1)<;>cases decide (11<c.Kind)<;>cases decide (c.Shape<0)<;>cases decide (c.Flags<0)<;>cases decide (63<c.Flags)<;>cases decide (c.Age<0)<;>cases decide (1<c.Age)<;>rfl
theorem KO {m:Option Bool}{x:Bool}:m=some x→(m.bind fun b=>some b)=some x:=fun h=>by rw [h];rfl
theorem Hc (N:Nat)(hN:2000<N)(c:Ra)(hS:c.Slots.length≤1000)(hc:c.More.length≤1000)(h8:c.Kind=8): ∃b,cP N c=some b∧(b=true→c.More.length%2=0):=by
 obtain ⟨b1,g1, -⟩:=qN N hN c hS hc N 0 Y Y;have g1':fq N c N 0=(bif b1 then cY N c else some false):=g1;obtain ⟨b2, -,h2,h3⟩:=qp N hN 2 (.inl rfl) c.More hc
 have hm:iK N c=some b2:=by
  unfold iK ip;rw [h8,cD Y];show ((cX N c.More 2).bind fun y37=>some y37)=_;exact KO h2
 have hs: ∃b3,gn N c=some b3:=by
  unfold gn;rw [h8];have:iq N 8=some true:=rfl;rw [this,bs,ct,bs,ct];by_cases hl:1≤(c.Slots.length:Int)
  ·rw [La hl,ct,bs,Fj (xs:=c.Slots) (i:=0) Y Y,bs];cases decide ((c.Slots.length:Int)≤1025)
   ·exact ⟨_,U⟩
   cases decide (c.Slots[(0:Int).toNat].Kind=1)<;>exact ⟨_,rfl⟩
  rw [Lb Y];exact ⟨_,U⟩
 obtain ⟨b3,hs⟩:=hs
 have hj:cY N c=some (b3&&b2):=by
  unfold cY;rw [hs,hm];cases b3<;>rfl
 unfold cP;rw [g1',hj]
 have fin: ∃b,((bif b1 then some (b3&&b2) else some false):Option Bool)=some b∧(b=true→c.More.length%2=0):=by
  cases b1
  ·exact ⟨false,U,fun h=>by cases h⟩
  exact ⟨b3&&b2,U,fun h=>h3 (by cases b3<;>cases b2<;>first|rfl|cases h)⟩
 obtain ⟨b,e1,e2⟩:=fin;rw [e1];have ff: ∃b',(some false:Option Bool)=some b'∧(b'=true→c.More.length%2=0):=⟨false,rfl,fun h=>by cases h⟩
 cases decide (c.Kind<1)<;>cases decide (11<c.Kind)<;>cases decide (c.Shape<0)<;>cases decide (c.Flags<0)<;>cases decide (63<c.Flags)<;>cases decide (c.Age<0)<;>cases decide (1<c.Age)<;>first|exact ff|exact ⟨b,rfl,e2⟩
def km (N:Nat)(c:Ra):Bool:=decide (c.Kind=8)&&(cP N c).getD false
theorem Fg (N:Nat)(hN:2000<N)(c:Ra)(hS:c.Slots.length≤1000)(hc:c.More.length≤1000):uw N c=some (km N c)∧rT N c=some (km N c)∧(km N c=true→c.More.length%2=0):=by
 unfold uw rT km;rw [ue N hN c hS hc];by_cases h8:c.Kind=8
 ·obtain ⟨b,h1,h2⟩:=Hc N hN c hS hc h8;rw [h1,h8];exact ⟨U,U,h2⟩
 rw [fK h8];exact ⟨U,U,fun h=>by cases h⟩
abbrev FK {ρ:Type}(m:Option ρ):Prop:=Sat m fun _=>True
theorem bO {ρ:Type}(x:ρ):FK (some x):=aR trivial
theorem ks {ρ:Type}{b:Bool}{x y:Option ρ}(hx:b=true→FK x)(hy:b=false→FK y):FK (bif b then x else y):=pJ hx hy
theorem yd (N:Nat)(v:Q5)(a b:Int):FK (fh N v a b):=by
 unfold fh
 refine Sat.bind (P:=fun _=>True) (ks (fun _=>bO _) fun _=>bO _) fun x _=>Sat.bind (P:=fun _=>True) (ks (fun _=>bO _) fun _=>bO _) fun y _=>bO _
theorem uB (N:Nat)(v:Q5)(a:Int):FK (dB N v a):=by
 unfold dB
 exact Sat.bind (P:=fun _=>True) (ks (fun _=>bO _) fun _=>bO _) fun x _=>bO _
theorem vm {c:Bool}{m:Option Bool}(h:c=true→FK m):FK (bif c then m else some false):=ks h fun _=>bO _
theorem t6 {l:List Q5}{i:Nat}{f:Q5→Option Bool}(hi:i<l.length)(h: ∀v,FK (f v)):FK ((aM l (i:Int)).bind f):=by
 rw [bf hi,bs];exact h _
theorem eH {m:Option Bool}{f:Bool→Option Bool}(h:FK m)(k: ∀b,FK (f b)):FK (m.bind f):=Sat.bind h fun b _=>k b
theorem po {m:Option Bool}{p:Prop}{f:Bool→Option Bool}(h:Sat m fun b=>b=true→p)(k: ∀b,(b=true→p)→FK (f b)):FK (m.bind f):=Sat.bind h k
theorem Jn (N:Nat)(c:Ra):FK (gn N c):=by
 unfold gn
 have hp:FK (iq N c.Kind):=by
  unfold iq
  iterate 6 refine eH (ks (fun _=>bO _) fun _=>bO _) fun _=> ?_
  exact bO _
 refine eH hp fun y=>eH (ks (fun _=>bO _) fun _=>eH (ks (fun _=>bO _) fun _=>bO _) fun _=>bO _) fun b=> ?_
 refine ks (fun _=> ?_) fun _=> ?_
 ·refine po (p:=0<c.Slots.length) (dR (fun h=>aR fun _=>by omega) fun _=>aR fun h=>by cases h) fun b hb=>eH (vm fun h=> ?_) fun _=>bO _
  have h0:=hb h
  refine t6 (i:=0) h0 fun v=>eH (ks (fun _=>bO _) fun _=>t6 (i:=0) h0 fun _=>bO _) fun _=>bO _
 refine ks (fun _=>bO _) fun _=>eH (ks (fun _=>bO _) fun _=>bO _) fun _=>ks (fun _=>bO _) fun _=>pJ (fun _=> ?_) fun _=>bO _
 refine po (p:=1<c.Slots.length) (dR (fun h=> ?_) fun _=>aR fun h=>by cases h) fun b hb=>eH (vm fun h=> ?_) fun _=>bO _
 ·rw [show ((0:Int))=((0:Nat):Int) from rfl,bf Y,bs];obtain ⟨x,hx, -⟩:=uB N c.Slots[0] 7
  rw [hx,bs];exact aR fun _=>by omega
 refine t6 (i:=1) (hb h) fun v=>eH (uB N v 7) fun _=>bO _
theorem HS {l:List Q5}{i:Nat}{m:Q5→Option Bool}(hi:i<l.length)(h: ∀v,FK (m v)){p:Prop}(hp:p):Sat ((aM l (i:Int)).bind fun x=>(m x).bind fun y=>some y) fun b=>b=true→p:=by
 rw [bf hi,bs];obtain ⟨x,hx, -⟩:=h l[i]
 rw [hx,bs];exact aR fun _=>hp
def xh (c:Ra):Prop:=(c.Kind=8→c.More.length%2=0)∧(c.Kind=10→1≤c.More.length∧(c.More.length - 1)%4=0)
theorem KY (N:Nat)(hN:2000<N)(c:Ra)(hc:c.More.length≤1000):Sat (iK N c) fun b=>b=true→xh c:=by
 have j6: ∀p,(p=true→c.Kind=1∨c.Kind=5)→Sat (ip N c p) fun b=>b=true→xh c:=by
  intro p hp
  have other: ∀{m:Option Bool},c.Kind≠8→c.Kind≠10→FK m→Sat m fun b=>b=true→xh c:=fun h8 h10 h=>h.mono fun _ _ _=>⟨fun e=>absurd e h8,fun e=>absurd e h10⟩
  unfold ip
  refine pJ (fun h=>other (by rcases hp h with e|e<;>omega) (by rcases hp h with e|e<;>omega) (bO _)) fun _=> ?_
  refine dR (fun hk=>other Y Y ?_) fun _=> ?_
  ·refine po (p:=1<c.More.length) (dR (fun h=>HS (i:=0) Y (fun v=>yd N v _ _) Y) fun _=>aR fun h=>by cases h) fun b hb=>eH (vm fun h=>t6 (i:=1) (hb h) fun v=>eH (uB N v 9) fun _=>bO _) fun _=>bO _
  refine dR (fun hk=>other Y Y ?_) fun _=> ?_
  ·refine po (p:=0<c.More.length) (dR (fun h=>aR fun _=>by omega) fun _=>aR fun h=>by cases h) fun b hb=>eH (vm fun h=>t6 (i:=0) (hb h) fun v=>eH (uB N v 9) fun _=>bO _) fun _=>bO _
  refine dR (fun hk=>other Y Y ?_) fun _=> ?_
  ·refine po (p:=1<c.More.length) (dR (fun h=>HS (i:=0) Y (fun v=>yd N v _ _) Y) fun _=>aR fun h=>by cases h) fun b hb=>eH (vm fun h=>t6 (i:=1) (hb h) fun v=>eH (uB N v 9) fun _=>bO _) fun _=>bO _
  refine dR (fun hk=>other Y Y ?_) fun _=> ?_
  ·refine po (p:=3<c.More.length) (dR (fun h=>HS (i:=2) Y (fun v=>yd N v _ _) Y) fun _=>aR fun h=>by cases h) fun b hb=>eH (vm fun h=>t6 (i:=3) (hb h) fun v=>eH (yd N v _ _) fun _=>bO _) fun _=>bO _
  refine dR (fun hk=> ?_) fun hk8=> ?_
  ·obtain ⟨b, -,h2,h3⟩:=qp N hN 2 (.inl rfl) c.More hc;have h2':cX N c.More 2=some b:=h2;rw [h2',bs]
   exact aR fun hb=>⟨fun _=>h3 hb,fun e=>absurd e Y⟩
  refine dR (fun hk=> ?_) fun hk10=> ?_
  ·refine Sat.bind (P:=fun b=>b=true→1≤c.More.length) (dR (fun h=> ?_) fun _=>aR fun h=>by cases h) fun b hb=> ?_
   ·rw [show ((0:Int))=((0:Nat):Int) from rfl,bf Y,bs];exact aR fun _=>by omega
   refine Sat.bind (P:=fun b=>b=true→xh c) (pJ (fun h=> ?_) fun _=>aR fun h=>by cases h) fun b' hb'=>aR hb'
   have h1:=hb h;rw [xA ⟨by omega,by show (1:Int).toNat≤_;exact h1,Nat.le_refl _⟩]
   have hl:((c.More.drop ((1:Int).toNat)).take (c.More.length - (1:Int).toNat)).length=c.More.length - 1:=by
    rw [List.length_take,List.length_drop];show min (c.More.length - 1) (c.More.length - 1)=_;omega
   obtain ⟨b2, -,h2,h3⟩:=qp N hN 4 (.inr rfl) ((c.More.drop ((1:Int).toNat)).take (c.More.length - (1:Int).toNat)) (by rw [hl];omega);have h2':cX N ((c.More.drop ((1:Int).toNat)).take (c.More.length - (1:Int).toNat)) 4=some b2:=h2;rw [h2',bs]
   exact aR fun hb2=>⟨fun e=>absurd e Y,fun _=>⟨h1,by have:=h3 hb2;rw [hl] at this;exact this⟩⟩
  refine dR (fun hk=>other Y Y ?_) fun _=>other hk8 hk10 (bO _)
  refine eH ?_ fun _=>bO _
  exact ks (fun h=>t6 (i:=0) (by have:=of_decide_eq_true h;omega) fun v=>eH (yd N v _ _) fun _=>bO _) fun _=>bO _
 unfold iK
 refine dR (fun _=>aR fun h=>by cases h) fun _=>dR (fun hk=>aR fun _=>⟨fun e=>absurd e Y,fun e=>absurd e Y⟩) fun _=>dR (fun hk=>j6 _ fun _=> .inl hk) fun _=>j6 _ fun h=> .inr (of_decide_eq_true h)
theorem rZ (N:Nat)(hN:2000<N)(c:Ra)(hS:c.Slots.length≤1000)(hc:c.More.length≤1000):Sat (cP N c) fun b=>b=true→xh c:=by
 obtain ⟨b1,g1, -⟩:=qN N hN c hS hc N 0 Y Y;have g1':fq N c N 0=(bif b1 then cY N c else some false):=g1
 have hj:Sat (cY N c) fun b=>b=true→xh c:=by
  unfold cY
  refine Sat.bind (Jn N c) fun y _=> ?_
  refine Sat.bind (P:=fun b=>b=true→xh c) (pJ (fun _=>Sat.bind (KY N hN c hc) fun _ h=>aR h) fun _=>aR fun h=>by cases h) fun _ h=>aR h
 unfold cP;rw [g1']
 iterate 6 refine Sat.bind (P:=fun _=>True) (ks (fun _=>bO _) fun _=>bO _) fun _ _=> ?_
 refine pJ (fun _=>aR fun h=>by cases h) fun _=>pJ (fun _=>hj) fun _=>aR fun h=>by cases h
theorem vD {α ρ:Type}(L:Nat→Int→Option ρ)(l:List α)(p:α→Bool)(bad k:Option ρ)
  (step: ∀m (i:Nat) (h:i<l.length),L (m+1) (i:Int)=bif p l[i] then L m ((i:Int)+1) else bad)
  (fin: ∀m,L (m+1) (l.length:Int)=k) (N:Nat) (hN:l.length<N):L N 0=bif l.all p then k else bad:=by
 have key: ∀m i:Nat,l.length<m+i→i≤l.length→L m (i:Int)=bif (l.drop i).all p then k else bad:=by
  intro m
  induction m with
  |zero=>intro i h1 h2;omega
  | succ m ih=>
   intro i h1 h2;by_cases hi:i<l.length
   ·rw [step m i hi,List.drop_eq_getElem_cons hi,List.all_cons];have h3:=ih (i+1) Y hi;rw [show (((i+1:Nat)):Int)=(i:Int)+1 by omega] at h3;rw [h3];cases p l[i]<;>rfl
   have e:i=l.length:=by omega
   subst e;rw [fin,List.drop_length];rfl
 have:=key N 0 Y Y;simpa using this
theorem uM {α:Type}(L:Nat→Int→Option Bool)(l:List α)(p:α→Bool)
  (step: ∀m (i:Nat) (h:i<l.length),L (m+1) (i:Int)=bif p l[i] then L m ((i:Int)+1) else some false)
  (fin: ∀m,L (m+1) (l.length:Int)=some true) (N:Nat) (hN:l.length<N):L N 0=some (l.all p):=by
 rw [vD L l p _ _ step fin N hN];cases l.all p<;>rfl
theorem all_map {α β:Type}(f:α→β)(p:β→Bool)(l:List α):(l.map f).all p=l.all fun x=>p (f x):=by rw [List.all_map];rfl
theorem C8 {α:Type}(q p:α→Bool): ∀l:List α,(l.filter q).all p=l.all fun x=> !q x||p x
 | []=>rfl
 |x::l=>by
  rw [List.filter_cons,List.all_cons, ←C8 q p l];cases h:q x<;>simp
theorem Kr {α β:Type}(L:Nat→Int→Option Bool)(a:List α)(b:List β)(p:α×β→Bool)
  (step: ∀m (i:Nat) (h:i<a.length) (h':i<b.length),L (m+1) (i:Int)=bif p (a[i],b[i]) then L m ((i:Int)+1) else some false)
  (fin: ∀m,L (m+1) (a.length:Int)=some true) (N:Nat) (hN:a.length<N):(bif !decide ((a.length:Int)=(b.length:Int)) then some false else L N 0)=some (decide (a.length=b.length)&&(a.zip b).all p):=by
 by_cases hl:a.length=b.length
 ·have hz:(a.zip b).length=a.length:=by rw [List.length_zip];omega
  rw [Rk (p:=((a.length:Int)=(b.length:Int))) Y,nt,cf,Rk hl,Bool.true_and];refine uM L (a.zip b) p (fun m i h=> ?_) (fun m=>by rw [hz];exact fin m) N Y;rw [List.getElem_zip];exact step m i Y Y
 rw [Rl (p:=((a.length:Int)=(b.length:Int))) Y,nf,ct,Rl hl];rfl
def Mw {α β:Type}[DecidableEq α](a:α)(b:β):List (α×β)→List (α×β)
 | []=> [(a,b)]
 |p::l=>if p.1=a then (a,b)::l else p::Mw a b l
theorem Mx {α β:Type}[DecidableEq α](L:List (α×β))(a:α)(b:β):tW L a b=Mw a b L:=by
 have key: ∀(L:List (α×β)) (j:Nat),(∃i c,fp a L j=some (i,c)∧j≤i∧L.set (i - j) (a,b)=Mw a b L)∨(fp a L j=none∧L++ [(a,b)]=Mw a b L):=by
  intro L
  induction L with
  |nil=>intro j;exact .inr ⟨U,U⟩
  | cons p l ih=>
   intro j;obtain ⟨x,y⟩:=p;by_cases e:a=x
   ·refine .inl ⟨j,y,by simp [fp,e],Nat.le_refl _,?_⟩;rw [Nat.sub_self];simp [Mw,e]
   have e': ¬x=a:=fun h=>e h.symm
   rcases ih (j+1) with ⟨i,c,h1,h2,h3⟩|⟨h1,h2⟩
   ·refine .inl ⟨i,c,by simp [fp,e,h1],by omega,?_⟩;rw [show i - j=(i - (j+1))+1 by omega,List.set_cons_succ,h3];simp [Mw,e']
   exact .inr ⟨by simp [fp,e,h1],by simp [Mw,e',h2]⟩
 unfold tW;rcases key L 0 with ⟨i,c,h1, -,h3⟩|⟨h1,h2⟩
 ·rw [h1];exact h3
 rw [h1];exact h2
theorem ym {α β:Type}[DecidableEq α](p:α×β)(l:List (α×β))(x:α):lk (p::l) x=if p.1=x then some p.2 else lk l x:=by
 unfold lk;rw [List.find?_cons];by_cases e:p.1=x<;>simp [e]
theorem Gj {α β:Type}[DecidableEq α](L:List (α×β))(a:α)(b:β)(x:α):lk (tW L a b) x=if a=x then some b else lk L x:=by
 rw [Mx]
 induction L with
 |nil=>rw [Mw,ym]
 | cons p l ih=>
  unfold Mw;by_cases e:p.1=a
  ·rw [if_pos e,ym,ym,e];by_cases e2:a=x<;>simp [e2]
  rw [if_neg e,ym,ym,ih];by_cases e2:p.1=x
  ·rw [if_pos e2,if_pos e2,if_neg (fun h=>e (by rw [e2,h]))]
  rw [if_neg e2,if_neg e2]
abbrev vZ:Q5:=⟨0,0,⟨#[]⟩⟩
def o5 (l:List Q5)(i:Nat):Q5:=l.getD i vZ
theorem jU {l:List Q5}{i:Nat}(h:i<l.length):aM l (i:Int)=some (o5 l i):=by
 rw [bf h];unfold o5;simp [List.getD,h]
def pk (v:Q5):Bool:=(gx 0 v).getD false
theorem Gf (N:Nat)(v:Q5):gx N v=some (pk v):=by
 obtain ⟨b,hb⟩:=Gg 0 v;have e:gx N v=gx 0 v:=Eq.trans rfl rfl;unfold pk;rw [e,hb];rfl
def numB (v:Q5)(a b:Int):Bool:=decide (v.Kind=3)&&(decide (a≤v.N)&&decide (v.N≤b))
def noneB (v:Q5)(k:Int):Bool:=decide (v.Kind=0)||decide (v.Kind=k)
theorem uA (N:Nat)(v:Q5)(a b:Int):fh N v a b=some (numB v a b):=by
 unfold fh numB;cases decide (v.Kind=3)<;>cases decide (a≤v.N)<;>cases decide (v.N≤b)<;>rfl
theorem sf (N:Nat)(v:Q5)(k:Int):dB N v k=some (noneB v k):=by
 unfold dB noneB;cases decide (v.Kind=0)<;>cases decide (v.Kind=k)<;>rfl
def E4 (k:Int):Bool:=decide (k=1)||decide (k=2)||decide (k=3)||decide (k=6)||decide (k=8)||decide (k=9)||decide (k=10)
theorem Hj (N:Nat)(k:Int):iq N k=some (E4 k):=by
 unfold iq E4;cases decide (k=1)<;>cases decide (k=2)<;>cases decide (k=3)<;>cases decide (k=6)<;>cases decide (k=8)<;>cases decide (k=9)<;>cases decide (k=10)<;>rfl
def oO (k sh fl:Int)(l:List Q5):Bool:=
 bif E4 k||(decide (k=7)&&decide (0<l.length)) then decide (1≤l.length)&&decide (l.length≤1025)&&(decide ((o5 l 0).Kind=1)||decide ((o5 l 0).Kind=7))
 else bif decide (k=7) then decide (sh=0) else bif !decide (sh=0)|| !decide (fl=0) then false else bif decide (k=5) then decide (l.length=2)&&noneB (o5 l 0) 7&&noneB (o5 l 1) 7 else decide (l.length=0)
theorem eQ {p q:Prop}[Decidable p][Decidable q](h:p↔q):decide p=decide q:=by
 by_cases hp:p
 ·rw [Rk hp,Rk (h.1 hp)]
 rw [Rl hp,Rl fun hq=>hp (h.2 hq)]
theorem G7 (N:Nat)(c:Ra):gn N c=some (oO c.Kind c.Shape c.Flags c.Slots):=by
 unfold gn oO;rw [Hj,bs,eQ (p:=(0:Int)<(c.Slots.length:Int)) (q:=0<c.Slots.length) Y,eQ (p:=(1:Int)≤(c.Slots.length:Int)) (q:=1≤c.Slots.length) Y,eQ (p:=(c.Slots.length:Int)≤1025) (q:=c.Slots.length≤1025) Y,eQ (p:=(c.Slots.length:Int)=2) (q:=c.Slots.length=2) Y,eQ (p:=(c.Slots.length:Int)=0) (q:=c.Slots.length=0) Y]
 have hA: ∀b:Bool,((bif decide (1≤c.Slots.length) then some (decide (c.Slots.length≤1025)) else some false).bind fun b8=>(bif b8 then ((aM c.Slots 0).bind fun x10=>(bif decide (x10.Kind=1) then (some true) else ((aM c.Slots 0).bind fun x12=>some (decide (x12.Kind=7)))).bind fun b11=>some b11) else (some false)).bind fun b9=>some b9)=some (decide (1≤c.Slots.length)&&decide (c.Slots.length≤1025)&&(decide ((o5 c.Slots 0).Kind=1)||decide ((o5 c.Slots 0).Kind=7))):=fun _=>by
  by_cases h:1≤c.Slots.length
  ·have g:aM c.Slots 0=some (o5 c.Slots 0):=jU (i:=0) Y;rw [Rk h,g];simp only [bs];cases decide (c.Slots.length≤1025)<;>cases decide ((o5 c.Slots 0).Kind=1)<;>cases decide ((o5 c.Slots 0).Kind=7)<;>rfl
  rw [Rl h];rfl
 have hB:((bif decide (c.Slots.length=2) then ((aM c.Slots 0).bind fun x18=>(dB N x18 7).bind fun y19=>some y19) else (some false)).bind fun b17=>(bif b17 then ((aM c.Slots 1).bind fun x21=>(dB N x21 7).bind fun y22=>some y22) else (some false)).bind fun b20=>some b20)=some (decide (c.Slots.length=2)&&noneB (o5 c.Slots 0) 7&&noneB (o5 c.Slots 1) 7):=by
  by_cases h:c.Slots.length=2
  ·have g:aM c.Slots 0=some (o5 c.Slots 0):=jU (i:=0) Y;have g1:aM c.Slots 1=some (o5 c.Slots 1):=jU (i:=1) Y;rw [Rk h,g,g1];simp only [bs,sf];cases noneB (o5 c.Slots 0) 7<;>cases noneB (o5 c.Slots 1) 7<;>rfl
  rw [Rl h];rfl
 rw [hA true,hB];cases E4 c.Kind<;>cases decide (c.Kind=7)<;>cases decide (0<c.Slots.length)<;>cases decide (c.Shape=0)<;>cases decide (c.Flags=0)<;>cases decide (c.Kind=5)<;>rfl
def nG:List Q5→Bool
 |k::v::r=>decide (k.Kind=7)&& !decide (v.Kind=8)&&nG r
 | [_]=>false
 | []=>true
def kD:List Q5→Bool
 |t::h::k::s::r=>decide (t.Kind=7)&& !decide (h.Kind=8)&&(noneB k 7&&numB s 0 9007199254740992)&&kD r
 | []=>true
 |_=>false
theorem jJ (k v:Q5)(r:List Q5):nG (k::v::r)=(decide (k.Kind=7)&& !decide (v.Kind=8)&&nG r):=Eq.trans rfl rfl
theorem lc (t h k s:Q5)(r:List Q5):kD (t::h::k::s::r)=(decide (t.Kind=7)&& !decide (h.Kind=8)&&(noneB k 7&&numB s 0 9007199254740992)&&kD r):=Eq.trans rfl rfl
theorem Eg: ∀{l:List Q5},nG l=true→l.length%2=0
 | [],_=>rfl
 | [_],h=>by cases h
 |k::v::r,h=>by
  rw [jJ] at h;rw [Bool.and_eq_true] at h;have:=Eg h.2;simp only [List.length_cons];omega
theorem Ef: ∀{l:List Q5},kD l=true→l.length%4=0
 | [],_=>rfl
 | [_],h=>by cases h
 | [_,_],h=>by cases h
 | [_,_,_],h=>by cases h
 |t::a::k::s::r,h=>by
  rw [lc] at h;rw [Bool.and_eq_true] at h;have:=Ef h.2;simp only [List.length_cons];omega
theorem vR {l r:List Q5}{i:Nat}{v:Q5}(h:l.drop i=v::r):aM l (i:Int)=some v∧l.drop (i+1)=r:=by
 have hl:i<l.length:=by
  rcases Nat.lt_or_ge i l.length with h1|h1
  ·exact h1
  rw [List.drop_eq_nil_of_le h1] at h;cases h
 rw [List.drop_eq_getElem_cons hl] at h;obtain ⟨e1,e2⟩:=List.cons.inj h;exact ⟨by rw [bf hl,e1],e2⟩
theorem Ej (N:Nat)(l:List Q5)(hl:l.length≤1000): ∀(m i:Nat),l.length<m+i→i≤l.length→(l.length - i)%2=0→eK N 2 l m (i:Int)=some (nG (l.drop i))
 |0,i,h,h2,_=>by omega
 | m+1,i,h,h2,h3=>by
  rw [eK.eq_2]
  match hd:l.drop i with
  | []=>
   have hi:l.length≤i:=by have:=congrArg List.length hd;rw [List.length_drop] at this;simp at this;omega
   rw [cD Y,cf];rfl
  | [x]=>have:=congrArg List.length hd;rw [List.length_drop] at this;simp at this;omega
  |k::v::r=>
   have hlen:=congrArg List.length hd;rw [List.length_drop] at hlen;simp only [List.length_cons] at hlen;obtain ⟨g1,d1⟩:=vR hd;obtain ⟨g2,d2⟩:=vR d1;rw [show (((i+1:Nat)):Int)=(i:Int)+1 by omega] at g2;have ih:=Ej N l hl m (i+2) Y Y Y;rw [show (((i+2:Nat)):Int)=(i:Int)+2 by omega,d2] at ih;rw [cF Y,ct,g1,bs,r64 Y Y,g2,bs,Rl (p:=(2:Int)=4) (by decide),cf,bs,cf,r64 Y Y,ih];simp only [jJ];cases decide (k.Kind=7)<;>cases decide (v.Kind=8)<;>rfl
theorem Eh (N:Nat)(l:List Q5)(hl:l.length≤1000): ∀(m i:Nat),l.length<m+i→i≤l.length→(l.length - i)%4=0→eK N 4 l m (i:Int)=some (kD (l.drop i))
 |0,i,h,h2,_=>by omega
 | m+1,i,h,h2,h3=>by
  rw [eK.eq_2]
  match hd:l.drop i with
  | []=>
   have hi:l.length≤i:=by have:=congrArg List.length hd;rw [List.length_drop] at this;simp at this;omega
   rw [cD Y,cf];rfl
  | [x]=>have:=congrArg List.length hd;rw [List.length_drop] at this;simp at this;omega
  | [x,y]=>have:=congrArg List.length hd;rw [List.length_drop] at this;simp at this;omega
  | [x,y,z]=>have:=congrArg List.length hd;rw [List.length_drop] at this;simp at this;omega
  |t::v::k::s::r=>
   have hlen:=congrArg List.length hd;rw [List.length_drop] at hlen;simp only [List.length_cons] at hlen;obtain ⟨g1,d1⟩:=vR hd;obtain ⟨g2,d2⟩:=vR d1;obtain ⟨g3,d3⟩:=vR d2;obtain ⟨g4,d4⟩:=vR d3;rw [show (((i+1:Nat)):Int)=(i:Int)+1 by omega] at g2;rw [show (((i+1+1:Nat)):Int)=(i:Int)+2 by omega] at g3;rw [show (((i+1+1+1:Nat)):Int)=(i:Int)+3 by omega] at g4;have ih:=Eh N l hl m (i+4) Y Y Y;rw [show (((i+4:Nat)):Int)=(i:Int)+4 by omega,d4] at ih;rw [cF Y,ct,g1,bs,r64 Y Y,g2,bs,Rk (p:=(4:Int)=4) rfl,ct,r64 Y Y,g3,bs,sf,bs,r64 Y Y,g4,bs,uA,bs,r64 Y Y,ih];simp only [lc];cases decide (t.Kind=7)<;>cases decide (v.Kind=8)<;>cases noneB k 7<;>cases numB s 0 9007199254740992<;>rfl
theorem Ls (N:Nat)(hN:2000<N)(l:List Q5)(hl:l.length≤1000):cX N l 2=some (nG l):=by
 unfold cX;rw [kw (by decide)]
 have e:(l.length:Int).tmod 2=((l.length%2:Nat):Int):=by rw [Int.tmod_eq_emod_of_nonneg Y];omega
 rw [e];by_cases h:l.length%2=0
 ·rw [h,Rk (p:=((0:Nat):Int)=0) rfl,nt,cf];exact Ej N l hl N 0 Y Y Y
 rw [Rl Y,nf,ct]
 cases hb:nG l with
 |false=>rfl
 |true=>exact absurd (Eg hb) h
theorem Lr (N:Nat)(hN:2000<N)(l:List Q5)(hl:l.length≤1000):cX N l 4=some (kD l):=by
 unfold cX;rw [kw (by decide)]
 have e:(l.length:Int).tmod 4=((l.length%4:Nat):Int):=by rw [Int.tmod_eq_emod_of_nonneg Y];omega
 rw [e];by_cases h:l.length%4=0
 ·rw [h,Rk (p:=((0:Nat):Int)=0) rfl,nt,cf];exact Eh N l hl N 0 Y Y Y
 rw [Rl Y,nf,ct]
 cases hb:kD l with
 |false=>rfl
 |true=>exact absurd (Ef hb) h
def pX (k:Int)(l:List Q5):Bool:=
 bif decide (k=2) then decide (l.length≤4096)
 else bif decide (k=1)||decide (k=5) then decide (l.length=0)
 else bif decide (k=3) then decide (l.length=3)&&numB (o5 l 0) 0 9007199254740992&&noneB (o5 l 1) 9
 else bif decide (k=4) then decide (1≤l.length)&&decide (l.length≤4097)&&noneB (o5 l 0) 9
 else bif decide (k=6) then decide (l.length=2)&&numB (o5 l 0) 0 3&&noneB (o5 l 1) 9
 else bif decide (k=7) then decide (4≤l.length)&&numB (o5 l 2) 0 1&&numB (o5 l 3) 0 9007199254740992
 else bif decide (k=8) then nG l
 else bif decide (k=10) then decide (1≤l.length)&&decide ((o5 l 0).Kind=7)&&kD (l.drop 1)
 else bif decide (k=9) then decide (2≤l.length)&&numB (o5 l 0) 0 2
 else true
theorem JM (N:Nat)(hN:2000<N)(c:Ra)(hc:c.More.length≤1000):iK N c=some (pX c.Kind c.More):=by
 have h6: ∀p:Bool,p=(decide (c.Kind=1)||decide (c.Kind=5))→c.Kind≠2→ip N c p=some (pX c.Kind c.More):=by
  intro p hp h2;subst hp;unfold ip pX;rw [fK h2,cf];rcases Bool.eq_false_or_eq_true (decide (c.Kind=1)||decide (c.Kind=5)) with h15|h15
  ·rw [h15,ct,ct,eQ (p:=(c.More.length:Int)=0) (q:=c.More.length=0) Y]
  rw [h15,cf,cf];by_cases k3:c.Kind=3
  ·rw [nn k3,ct,ct,eQ (p:=(c.More.length:Int)=3) (q:=c.More.length=3) Y];by_cases h:c.More.length=3
   ·have g0:aM c.More 0=some (o5 c.More 0):=jU (i:=0) Y;have g1:aM c.More 1=some (o5 c.More 1):=jU (i:=1) Y;rw [Rk h,g0,g1];simp only [bs,uA,sf];cases numB (o5 c.More 0) 0 9007199254740992<;>cases noneB (o5 c.More 1) 9<;>rfl
   rw [Rl h];rfl
  rw [fK k3,cf,cf];by_cases k4:c.Kind=4
  ·rw [nn k4,ct,ct,eQ (p:=(1:Int)≤(c.More.length:Int)) (q:=1≤c.More.length) Y,eQ (p:=(c.More.length:Int)≤4097) (q:=c.More.length≤4097) Y];by_cases h:1≤c.More.length
   ·have g0:aM c.More 0=some (o5 c.More 0):=jU (i:=0) Y;rw [Rk h,g0];simp only [bs,sf];cases decide (c.More.length≤4097)<;>cases noneB (o5 c.More 0) 9<;>rfl
   rw [Rl h];rfl
  rw [fK k4,cf,cf];by_cases k6:c.Kind=6
  ·rw [nn k6,ct,ct,eQ (p:=(c.More.length:Int)=2) (q:=c.More.length=2) Y];by_cases h:c.More.length=2
   ·have g0:aM c.More 0=some (o5 c.More 0):=jU (i:=0) Y;have g1:aM c.More 1=some (o5 c.More 1):=jU (i:=1) Y;rw [Rk h,g0,g1];simp only [bs,uA,sf];cases numB (o5 c.More 0) 0 3<;>cases noneB (o5 c.More 1) 9<;>rfl
   rw [Rl h];rfl
  rw [fK k6,cf,cf];by_cases k7:c.Kind=7
  ·rw [nn k7,ct,ct,eQ (p:=(4:Int)≤(c.More.length:Int)) (q:=4≤c.More.length) Y];by_cases h:4≤c.More.length
   ·have g2:aM c.More 2=some (o5 c.More 2):=jU (i:=2) Y;have g3:aM c.More 3=some (o5 c.More 3):=jU (i:=3) Y;rw [Rk h,g2,g3];simp only [bs,uA];cases numB (o5 c.More 2) 0 1<;>cases numB (o5 c.More 3) 0 9007199254740992<;>rfl
   rw [Rl h];rfl
  rw [fK k7,cf,cf];by_cases k8:c.Kind=8
  ·rw [nn k8,ct,ct,Ls N hN _ hc,bs]
  rw [fK k8,cf,cf];by_cases k10:c.Kind=10
  ·rw [nn k10,ct,ct,eQ (p:=(1:Int)≤(c.More.length:Int)) (q:=1≤c.More.length) Y];by_cases h:1≤c.More.length
   ·have g0:aM c.More 0=some (o5 c.More 0):=jU (i:=0) Y;have hd:((c.More.drop ((1:Int).toNat)).take (c.More.length - (1:Int).toNat))=c.More.drop 1:=List.take_of_length_le (by rw [List.length_drop];exact Nat.le_refl _);rw [Rk h,g0,hd,kw ⟨by omega,by show 1≤_;omega,Nat.le_refl _⟩,Lr N hN _ (by rw [List.length_drop];omega)];simp only [bs];cases decide ((o5 c.More 0).Kind=7)<;>cases kD (c.More.drop 1)<;>rfl
   rw [Rl h];rfl
  rw [fK k10,cf,cf];by_cases k9:c.Kind=9
  ·rw [nn k9,ct,ct,eQ (p:=(2:Int)≤(c.More.length:Int)) (q:=2≤c.More.length) Y];by_cases h:2≤c.More.length
   ·have g0:aM c.More 0=some (o5 c.More 0):=jU (i:=0) Y;rw [Rk h,g0];simp only [bs,uA];cases numB (o5 c.More 0) 0 2<;>rfl
   rw [Rl h];rfl
  rw [fK k9,cf,cf]
 unfold iK;rw [cD Y,cf];by_cases k2:c.Kind=2
 ·rw [nn k2,ct];unfold pX;rw [nn k2,ct,eQ (p:=(c.More.length:Int)≤4096) (q:=c.More.length≤4096) Y]
 rw [fK k2,cf];by_cases k1:c.Kind=1
 ·rw [nn k1,ct];exact h6 _ (by rw [nn k1];rfl) k2
 rw [fK k1,cf];exact h6 _ (by rw [fK k1];rfl) k2
def dz (c:Ra):Bool:=
 (!decide (c.Kind<1)&& !decide (11<c.Kind)&& !decide (c.Shape<0)&& !decide (c.Flags<0)&& !decide (63<c.Flags)&& !decide (c.Age<0)&& !decide (1<c.Age))&&(c.Slots.all pk&&(c.More.all pk&&(oO c.Kind c.Shape c.Flags c.Slots&&pX c.Kind c.More)))
theorem pL (N:Nat)(hN:2000<N)(c:Ra)(hS:c.Slots.length≤1000)(hc:c.More.length≤1000):cP N c=some (dz c):=by
 have h19:cY N c=some (oO c.Kind c.Shape c.Flags c.Slots&&pX c.Kind c.More):=by
  unfold cY;rw [G7,JM N hN c hc,bs];cases oO c.Kind c.Shape c.Flags c.Slots<;>rfl
 have h20:kc N c N 0=some (c.More.all pk&&(oO c.Kind c.Shape c.Flags c.Slots&&pX c.Kind c.More)):=by
  rw [vD (fun k i=>kc N c k i) c.More pk (some false) (some (oO c.Kind c.Shape c.Flags c.Slots&&pX c.Kind c.More)) (fun k i h=> ?_) (fun k=> ?_) N Y]
  ·cases c.More.all pk<;>rfl
  ·rw [kc.eq_2,cF Y,ct,bf h,bs,Gf,bs,r64 Y Y];cases pk c.More[i]<;>rfl
  rw [kc.eq_2,cD Y,cf,h19]
 have h12:fq N c N 0=some (c.Slots.all pk&&(c.More.all pk&&(oO c.Kind c.Shape c.Flags c.Slots&&pX c.Kind c.More))):=by
  rw [vD (fun k i=>fq N c k i) c.Slots pk (some false) (some (c.More.all pk&&(oO c.Kind c.Shape c.Flags c.Slots&&pX c.Kind c.More))) (fun k i h=> ?_) (fun k=> ?_) N Y]
  ·cases c.Slots.all pk<;>rfl
  ·rw [fq.eq_2,cF Y,ct,bf h,bs,Gf,bs,r64 Y Y];cases pk c.Slots[i]<;>rfl
  rw [fq.eq_2,cD Y,cf];unfold rK;exact h20
 unfold cP dz;rw [h12];cases decide (c.Kind<1)<;>cases decide (11<c.Kind)<;>cases decide (c.Shape<0)<;>cases decide (c.Flags<0)<;>cases decide (63<c.Flags)<;>cases decide (c.Age<0)<;>cases decide (1<c.Age)<;>rfl
theorem CJ (N:Nat)(x:Int)(l:List Int)(hl:l.length≤5000): ∀(m i:Nat),l.length<m+i→i≤l.length→Sat (jL N x l m (i:Int)) fun r=>decide (0≤r)=decide (x∈l.drop i)
 |0,i,h,h2=>by omega
 | m+1,i,h,h2=>by
  rw [jL.eq_2];by_cases hi:i<l.length
  ·rw [cF Y,ct,bf hi,bs,List.drop_eq_getElem_cons hi]
   refine dR (fun e=> ?_) fun e=> ?_
   ·exact aR (by rw [Rk Y,Rk];rw [e];exact List.mem_cons_self ..)
   rw [r64 Y Y];have:=CJ N x l hl m (i+1) Y hi;simp only [Int.natCast_add,Int.cast_ofNat_Int] at this
   refine this.mono fun r hr=> ?_
   rw [hr];have:(x∈l[i]::l.drop (i+1))↔x∈l.drop (i+1):=⟨fun h=>(List.mem_cons.1 h).resolve_left (fun e2=>e e2),List.mem_cons_of_mem _⟩;rw [decide_eq_decide];exact this.symm
  rw [cD Y,cf,List.drop_eq_nil_of_le Y];exact aR (by simp)
theorem og (N:Nat)(hN:5000<N)(l:List Int)(hl:l.length≤5000)(x:Int):dP N l x=some (decide (x∈l)):=by
 obtain ⟨r,h1,h2⟩:=CJ N x l hl N 0 Y Y;unfold dP pF;rw [show jL N x l N 0=some r from h1,bs,h2];rfl
theorem PG (N:Nat)(hN:5000<N)(l:List Int)(hl:l.length≤5000)(x:Int):sc N x l=some (decide (x∈l)):=by
 apply Sat.eq;unfold sc
 have key: ∀(m i:Nat),l.length<m+i→i≤l.length→Sat (vv N x l m (i:Int)) (· =decide (x∈l.drop i)):=by
  intro m
  induction m with
  |zero=>intro i h h2;omega
  | succ m ih=>
   intro i h h2;rw [vv.eq_2];by_cases hi:i<l.length
   ·rw [cF Y,ct,bf hi,bs,List.drop_eq_getElem_cons hi]
    refine dR (fun e=> ?_) fun e=> ?_
    ·exact aR (by rw [Rk];rw [e];exact List.mem_cons_self ..)
    rw [r64 Y Y];have:=ih (i+1) Y hi;simp only [Int.natCast_add,Int.cast_ofNat_Int] at this
    refine this.mono fun r hr=> ?_
    rw [hr];have:(x∈l[i]::l.drop (i+1))↔x∈l.drop (i+1):=⟨fun h=>(List.mem_cons.1 h).resolve_left (fun e2=>e e2.symm),List.mem_cons_of_mem _⟩;rw [decide_eq_decide];exact this.symm
   rw [cD Y,cf,List.drop_eq_nil_of_le Y];exact aR (by simp)
 exact key N 0 Y Y
theorem P7 (N:Nat)(hN:5000<N)(l:List Int)(hl:l.length≤5000)(x:Int):xT N l x=some (decide (x∈l)):=by
 apply Sat.eq;unfold xT
 have key: ∀(m i:Nat),l.length<m+i→i≤l.length→Sat (vt N x l m (i:Int)) (· =decide (x∈l.drop i)):=by
  intro m
  induction m with
  |zero=>intro i h h2;omega
  | succ m ih=>
   intro i h h2;rw [vt.eq_2];by_cases hi:i<l.length
   ·rw [cF Y,ct,bf hi,bs,List.drop_eq_getElem_cons hi]
    refine dR (fun e=> ?_) fun e=> ?_
    ·exact aR (by rw [Rk];rw [e];exact List.mem_cons_self ..)
    rw [r64 Y Y];have:=ih (i+1) Y hi;simp only [Int.natCast_add,Int.cast_ofNat_Int] at this
    refine this.mono fun r hr=> ?_
    rw [hr];have:(x∈l[i]::l.drop (i+1))↔x∈l.drop (i+1):=⟨fun h=>(List.mem_cons.1 h).resolve_left (fun e2=>e e2.symm),List.mem_cons_of_mem _⟩;rw [decide_eq_decide];exact this.symm
   rw [cD Y,cf,List.drop_eq_nil_of_le Y];exact aR (by simp)
 exact key N 0 Y Y
def opens (p:Int→Bool):List Q5→List Int
 |k::v::l=>(bif bM v&&p k.N then [v.N] else [])++opens p l
 |_=> []
theorem iL (p:Int→Bool)(k v:Q5)(l:List Q5):opens p (k::v::l)=(bif bM v&&p k.N then [v.N] else [])++opens p l:=rfl
theorem DW (p:Int→Bool): ∀l:List Q5,(opens p l).length≤l.length
 | []=>Nat.le_refl _
 | [_]=>Nat.zero_le _
 |k::v::l=>by
  have:=DW p l;rw [iL,List.length_append];cases bM v&&p k.N<;>simp<;>omega
theorem DU {p:Int→Bool}{x:Int}: ∀{l:List Q5},x∈opens p l→ ∃v∈l,v.N=x
 | [],h=>by cases h
 | [_],h=>by cases h
 | k::v::l,h=>by
  rw [iL,List.mem_append] at h;rcases h with h|h
  ·cases hb:bM v&&p k.N
   ·rw [hb] at h;cases h
   rw [hb] at h;exact ⟨v,by simp,(List.mem_singleton.1 h).symm⟩
  obtain ⟨w,h1,h2⟩:=DU h;exact ⟨w,by simp [h1],h2⟩
theorem F9 {p q:Int→Bool}(h: ∀x,p x=q x)(l:List Q5):opens p l=opens q l:=by rw [show p=q from funext h]
theorem oE (v:Q5):((bif decide (v.Kind=7) then (some true) else (some (decide (v.Kind=9)))):Option Bool)=some (bM v):=by unfold bM;cases decide (v.Kind=7)<;>rfl
def ca (N:Nat)(c:Ra)(l:List Int):List Int:=bif km N c then opens (fun x=>decide (x∈l)) c.More else []
theorem Cn (N:Nat)(c:Ra)(l:List Int):(ca N c l).length≤c.More.length:=by
 unfold ca;cases km N c
 ·exact Nat.zero_le _
 exact DW _ _
theorem Hp {N:Nat}{c:Ra}{l:List Int}{x:Int}(h:x∈ca N c l): ∃v∈c.Slots++c.More,v.N=x:=by
 unfold ca at h;cases hw:km N c
 ·rw [hw] at h;cases h
 rw [hw] at h;obtain ⟨v,h1,h2⟩:=DU h;exact ⟨v,by simp [h1],h2⟩
theorem Hl (N:Nat)(hN:5000<N)(l:List Int)(hl:l.length≤5000)(k v:Q5)(s:List Int)(hs:s.length≤5000):da (fun x st=>gJ N l x st) (k,v) (none,s)=some (true,(none,s++(bif bM v&&decide (k.N∈l) then [v.N] else []))):=by
 unfold da gJ;simp only [oE,bs,og N hN l hl];cases bM v
 ·simp only [cf,bs,Bool.false_and,List.append_nil];rfl
 simp only [ct,bs,Bool.true_and];cases decide (k.N∈l)
 ·simp only [cf,List.append_nil];rfl
 simp only [ct];rw [rF (by simp;omega)];rfl
theorem yF (N:Nat)(hN:5000<N)(l:List Int)(hl:l.length≤5000)(c:Ra)(hc:c.More.length≤1000)(he:c.More.length%2=0): ∀(m i:Nat) (s:List Int),c.More.length<m+i→i≤c.More.length→i%2=0→s.length≤i→el N (da (fun x st=>gJ N l x st)) c m (i:Int) (none,s)=some (none,s++opens (fun x=>decide (x∈l)) (c.More.drop i))
 |0,i,s,h,h2,_,_=>by omega
 | m+1,i,s,h,h2,h3,h4=>by
  rw [el.eq_2,r64 (a:=(i:Int)+1) Y Y];by_cases hi:i<c.More.length
  ·have hi1:i+1<c.More.length:=by omega
   have hl1:aM c.More ((i:Int)+1)=some c.More[i+1]:=by
    have:=bf hi1;simpa using this
   rw [cF Y,ct,bf hi,bs,r64 (a:=(i:Int)+1) Y Y,hl1,bs,Hl N hN l hl _ _ s Y,bs];simp only [nt,cf];rw [r64 Y Y]
   have hlen:(s++(bif bM c.More[i+1]&&decide (c.More[i].N∈l) then [c.More[i+1].N] else [])).length≤i+2:=by
    cases bM c.More[i+1]&&decide (c.More[i].N∈l)<;>simp<;>omega
   have:=yF N hN l hl c hc he m (i+2) _ Y Y Y hlen;simp only [Int.natCast_add,Int.cast_ofNat_Int] at this;rw [this,List.drop_eq_getElem_cons hi,List.drop_eq_getElem_cons hi1,iL,Rn]
  rw [cD Y,cf,List.drop_eq_nil_of_le Y];simp [opens]
theorem Cl (N:Nat)(hN:5000<N)(l:List Int)(hl:l.length≤5000)(c:Ra)(hS:c.Slots.length≤1000)(hc:c.More.length≤1000):mJ N c l=some (ca N c l):=by
 obtain ⟨-,h1,h2⟩:=Fg N Y c hS hc;unfold mJ ca ie;rw [h1,bs];cases hw:km N c
 ·rfl
 have e:kF N c=some ():=rfl;have:=yF N hN l hl c hc (h2 hw) N 0 [] Y Y rfl (by simp);simp only [nt,cf,ct,e,bs];have h3:el N (da (fun x st=>gJ N l x st)) c N 0 (none,[])=some (none,[]++opens (fun x=>decide (x∈l)) (c.More.drop 0)):=this;rw [h3,bs];rfl
theorem JC (N:Nat)(hN:5000<N)(l:List Int)(hl:l.length≤5000)(c:Ra)(hS:c.Slots.length≤1000)(hc:c.More.length≤1000):qW N c l=some (ca N c l):=by
 obtain ⟨h1, -,h2⟩:=Fg N Y c hS hc;unfold qW ca;cases hw:km N c
 ·obtain ⟨n,rfl⟩: ∃n,N=n+1:=⟨N - 1,by omega⟩;rw [ln.eq_2,h1,bs,hw];simp only [cf,bs];rfl
 have he:=h2 hw
 have key: ∀(m i:Nat) (s:List Int),c.More.length<m+i→i≤c.More.length→i%2=0→s.length≤i→ln N l c m s (i:Int)=some (s++opens (fun x=>decide (x∈l)) (c.More.drop i)):=by
  intro m
  induction m with
  |zero=>intro i s h h2;omega
  | succ m ih=>
   intro i s h h2 h3 h4;rw [ln.eq_2,h1,bs,hw,ct,bs];by_cases hi:i<c.More.length
   ·have hi1:i+1<c.More.length:=by omega
    have hl1:aM c.More ((i:Int)+1)=some c.More[i+1]:=by
     have:=bf hi1;simpa using this
    rw [cF Y,ct,r64 (a:=(i:Int)+1) Y Y,hl1,bs,bf hi,bs,PG N hN l hl,bs];simp only [oE,bs]
    have hlen:(s++(bif bM c.More[i+1]&&decide (c.More[i].N∈l) then [c.More[i+1].N] else [])).length≤i+2:=by
     cases bM c.More[i+1]&&decide (c.More[i].N∈l)<;>simp<;>omega
    have:=ih (i+2) _ Y Y Y hlen;simp only [Int.natCast_add,Int.cast_ofNat_Int] at this;rw [List.drop_eq_getElem_cons hi,List.drop_eq_getElem_cons hi1,iL, ←Rn, ←this];unfold nW;rw [r64 (a:=(i:Int)+2) Y Y,r64 (a:=(i:Int)+2) Y Y];cases decide (c.More[i].N∈l)
    ·simp only [cf,bs,Bool.and_false,List.append_nil]
    cases bM c.More[i+1]
    ·simp only [ct,cf,bs,Bool.and_true,List.append_nil]
    simp only [ct,bs,Bool.and_true];rw [rF (by simp;omega)]
   rw [cD Y,cf,List.drop_eq_nil_of_le Y];simp [opens,sM]
 have:=key N 0 [] Y Y rfl (by simp);simpa using this
theorem ye: ∀(b:Nat) {l:List Int},l.Nodup→(∀x∈l,1≤x∧x≤(b:Int))→l.length≤b
 |0,l,_,h=>by
  cases l with
  |nil=>exact Nat.le_refl _
  |cons x l=>have:=h x (by simp);omega
 | b+1,l,hn,h=>by
  have h1:=ye b (hn.erase ((b:Int)+1)) fun x hx=>by
   obtain ⟨h2,h3⟩:=hn.mem_erase_iff.1 hx;have:=h x h3;omega
  have h2:=List.length_erase (a:=(b:Int)+1) (l:=l);split at h2<;>omega
theorem OV (kv:List (Int×Unit))(a:Int):(lk kv a).isSome=decide (a∈kv.map (·.1)):=by
 unfold lk;rw [Bool.eq_iff_iff];simp [List.find?_isSome,List.mem_map]
def W64 (m:Rg):Prop:= ∀c∈m.Young++m.Old, ∀v∈c.Slots++c.More,in64 v.N
theorem W64.at_ {m:Rg}(h:W64 m)(a:Int): ∀v∈(bU m a).Slots++(bU m a).More,in64 v.N:=by
 unfold bU
 cases hc:fk m a with
 |none=>intro v hv;simp [Bn] at hv
 |some c=>exact h c (qw hc)
structure Tr (m:Rg) (all:List Int) (met:List (Int×Unit)):Prop where
 nd:all.Nodup
 mem: ∀x,x∈met.map (·.1)↔x∈all
 has: ∀x∈all,br m x=true
theorem Tr.len {m:Rg}{roots:List Q5}(hs:Small m roots){all:List Int}{met:List (Int×Unit)}(h:Tr m all met):all.length≤1200:=ye 1200 h.nd fun x hx=>⟨by have:=qj (h.has x hx);omega,by have:=vH hs (h.has x hx);omega⟩
theorem Tr.in64 {m:Rg}{roots:List Q5}(hs:Small m roots){all:List Int}{met:List (Int×Unit)}(h:Tr m all met){x:Int}(hx:x∈all):in64 x:=by
 have h1:=qj (h.has x hx);have h2:=vH hs (h.has x hx);unfold Go.Proofs.YtmimkglhbmcokaaGreat.in64;omega
theorem Tr.add {m:Rg}{all:List Int}{met:List (Int×Unit)}(h:Tr m all met){x:Int}(hx:x∉all)(hh:br m x=true):Tr m (all++ [x]) (tW met x ()):=⟨List.nodup_append.2 ⟨h.nd,by simp,fun a ha b hb e=>by rw [List.mem_singleton] at hb;subst hb;subst e;exact hx ha⟩,fun y=>by
 rw [My,List.mem_append,List.mem_singleton,h.mem y];exact Or.comm,fun y hy=>by
 rcases List.mem_append.1 hy with hy|hy
 ·exact h.has y hy
 ·rw [List.mem_singleton] at hy;subst hy;exact hh⟩
def QR (m:Rg)(all:List Int)(k:Nat):Prop:= ∀(i:Nat) (a x:Int),i<k→all[i]? =some a→x∈bL (bU m a)→br m x=true→x∈all
theorem Gk {m:Rg}{roots:List Q5}(hs:Small m roots)(hw:W64 m)(a:Int):(bL (bU m a)).length≤2000∧ ∀x∈bL (bU m a),in64 x:=by
 have h1:=hs.at_ a;have h2:=jE (bU m a);refine ⟨by omega,fun x hx=> ?_⟩;obtain ⟨v,h3,rfl⟩:=CF hx;exact hw.at_ a v h3
structure Gr where
 has:Int→Bool
 leads:Int→List Int
 opens:List Int→Int→List Int
def dn (has:Int→Bool):List Int→List Int→List Int
 |row,[]=>row
 |row,x::l=>dn has (bif has x&& !decide (x∈row) then row++ [x] else row) l
inductive Thr (g:Gr):List Int→Nat→List Int→Prop
 |done {row:List Int} {k:Nat}:row.length≤k→Thr g row k row
 |step {row:List Int} {k:Nat} {a:Int} {r:List Int}:row[k]? =some a→Thr g (dn g.has row (g.leads a)) (k+1) r→Thr g row k r
def kx (g:Gr):List Int→List Int→List Int
 |row,[]=>row
 |row,a::avs=>kx g (dn g.has row (g.opens row a)) avs
inductive Ord (g:Gr):List Int→List Int→Prop
 |done {row:List Int}:kx g row row=row→Ord g row row
 |step {row r1 r:List Int}:kx g row row≠row→Thr g (kx g row row) row.length r1→Ord g r1 r→Ord g row r
structure IsOrder (g:Gr) (roots:List Int) (b l:List Int):Prop where
 strong:Thr g (dn g.has [] roots) 0 b
 all:Ord g b l
theorem gN (has:Int→Bool): ∀(row l:List Int), ∃t,dn has row l=row++t∧(∀x∈t,has x=true∧x∈l)
 |row,[]=>⟨[],by simp [dn],by simp⟩
 | row,x::l=>by
  unfold dn
  cases h:has x&& !decide (x∈row) with
  |false=>
   obtain ⟨t,h1,h2⟩:=gN has row l;exact ⟨t,h1,fun y hy=>⟨(h2 y hy).1,by simp [(h2 y hy).2]⟩⟩
  |true=>
   obtain ⟨t,h1,h2⟩:=gN has (row++ [x]) l;refine ⟨x::t,by rw [cond_true,h1];simp,fun y hy=> ?_⟩;rw [Bool.and_eq_true] at h;rcases List.mem_cons.1 hy with e|hy
   ·subst e;exact ⟨h.1,by simp⟩
   exact ⟨(h2 y hy).1,by simp [(h2 y hy).2]⟩
theorem qe (has:Int→Bool): ∀(row l l':List Int),dn has row (l++l')=dn has (dn has row l) l'
 |_,[],_=>rfl
 |row,x::l,l'=>by
  show dn has _ (l++l')=_;rw [qe has _ l l'];rfl
theorem nO {has:Int→Bool}: ∀{row:List Int} (l:List Int),row.Nodup→(dn has row l).Nodup
 |_,[],h=>h
 | row,x::l,h=>by
  unfold dn
  cases h2:has x&& !decide (x∈row) with
  |false=>exact nO l h
  |true=>
   rw [Bool.and_eq_true] at h2
   have hx:x∉row:=by simpa using h2.2
   exact nO l (List.nodup_append.2 ⟨h,by simp,fun a ha b hb e=>by rw [List.mem_singleton] at hb;subst hb;subst e;exact hx ha⟩)
theorem so {has:Int→Bool}: ∀(row l:List Int) {x:Int},x∈l→has x=true→x∈dn has row l
 | row,y::l,x,h,hx=>by
  unfold dn;rcases List.mem_cons.1 h with e|h
  ·subst e;obtain ⟨t,h1, -⟩:=gN has (bif has x&& !decide (x∈row) then row++ [x] else row) l;rw [h1];refine Rp _ ?_;rw [hx,Bool.true_and];by_cases hm:x∈row<;>simp [hm]
  exact so _ l h hx
theorem yo {has:Int→Bool}{row l:List Int}{x:Int}(h:x∈dn has row l):x∈row∨(has x=true∧x∈l):=by
 obtain ⟨t,h1,h2⟩:=gN has row l;rw [h1] at h;rcases List.mem_append.1 h with h|h
 ·exact .inl h
 exact .inr (h2 x h)
theorem pu (g:Gr): ∀(row avs:List Int), ∃t,kx g row avs=row++t
 |row,[]=>⟨[],by simp [kx]⟩
 |row,a::avs=>by
  obtain ⟨t,h1, -⟩:=gN g.has row (g.opens row a);obtain ⟨t2,h2⟩:=pu g (dn g.has row (g.opens row a)) avs;exact ⟨t++t2,by unfold kx;rw [h2,h1,Rn]⟩
theorem zn (g:Gr): ∀(row avs bs:List Int),kx g row (avs++bs)=kx g (kx g row avs) bs
 |_,[],_=>rfl
 |row,a::avs,bs=>by
  show kx g _ (avs++bs)=_;rw [zn g _ avs bs];rfl
theorem Ac {g:Gr}: ∀{row:List Int} (avs:List Int),row.Nodup→(kx g row avs).Nodup
 |_,[],h=>h
 |_,_::avs,h=>Ac avs (nO _ h)
theorem DP {g:Gr}: ∀{row:List Int} (avs:List Int),(∀x∈row,g.has x=true)→ ∀x∈kx g row avs,g.has x=true
 |_,[],h=>h
 |_,_::avs,h=>DP avs fun x hx=>(yo hx).elim (h x) (·.1)
theorem Thr.app {g:Gr}{row r:List Int}{k:Nat}(h:Thr g row k r): ∃t,r=row++t:=by
 induction h with
 |done _=>exact ⟨[],by simp⟩
 |step _ _ ih=>
  rename_i row _ a _ _ _
  obtain ⟨t,rfl⟩:=ih;obtain ⟨t2,h1, -⟩:=gN g.has row (g.leads a);exact ⟨t2++t,by rw [h1,Rn]⟩
theorem Thr.nodup {g:Gr}{row r:List Int}{k:Nat}(h:Thr g row k r)(hn:row.Nodup):r.Nodup:=by
 induction h with
 |done _=>exact hn
 |step _ _ ih=>exact ih (nO _ hn)
theorem Thr.has {g:Gr}{row r:List Int}{k:Nat}(h:Thr g row k r)(hn: ∀x∈row,g.has x=true): ∀x∈r,g.has x=true:=by
 induction h with
 |done _=>exact hn
 |step _ _ ih=>exact ih fun x hx=>(yo hx).elim (hn x) (·.1)
theorem Thr.det {g:Gr}{row r r':List Int}{k:Nat}(h:Thr g row k r)(h':Thr g row k r'):r=r':=by
 induction h with
 |done hk=>
  cases h' with
  |done _=>rfl
  |step ha _=>rw [List.getElem?_eq_none hk] at ha;cases ha
 |step ha _ ih=>
  cases h' with
  |done hk=>rw [List.getElem?_eq_none hk] at ha;cases ha
  |step ha' h2=>rw [ha] at ha';cases ha';exact ih h2
theorem Ord.det {g:Gr}{row r r':List Int}(h:Ord g row r)(h':Ord g row r'):r=r':=by
 induction h with
 |done hk=>
  cases h' with
  |done _=>rfl
  |step ha _ _=>exact absurd hk ha
 |step ha h1 _ ih=>
  cases h' with
  |done hk=>exact absurd hk ha
  |step _ h1' h2=>exact ih (h1.det h1'▸h2)
theorem IsOrder.det {g:Gr}{roots b l b' l':List Int}(h:IsOrder g roots b l)(h':IsOrder g roots b' l'):b=b'∧l=l':=by
 obtain ⟨h1,h2⟩:=h;obtain ⟨h3,h4⟩:=h';have e:=h1.det h3;subst e;exact ⟨U,h2.det h4⟩
theorem Ord.app {g:Gr}{row r:List Int}(h:Ord g row r): ∃t,r=row++t:=by
 induction h with
 |done _=>exact ⟨[],by simp⟩
 |step _ h1 _ ih=>
  rename_i row r1 _ _ _
  obtain ⟨t,rfl⟩:=ih;obtain ⟨t1,rfl⟩:=h1.app;obtain ⟨t2,h2⟩:=pu g row row;exact ⟨t2++t1++t,by rw [h2];simp [Rn]⟩
theorem Ord.nodup {g:Gr}{row r:List Int}(h:Ord g row r)(hn:row.Nodup):r.Nodup:=by
 induction h with
 |done _=>exact hn
 |step _ h1 _ ih=>exact ih (h1.nodup (Ac _ hn))
theorem Ord.has {g:Gr}{row r:List Int}(h:Ord g row r)(hn: ∀x∈row,g.has x=true): ∀x∈r,g.has x=true:=by
 induction h with
 |done _=>exact hn
 |step _ h1 _ ih=>exact ih (h1.has (DP _ hn))
theorem IsOrder.nodup {g:Gr}{roots b l:List Int}(h:IsOrder g roots b l):b.Nodup∧l.Nodup:=
 have hb:=h.strong.nodup (nO _ List.nodup_nil)
 ⟨hb,h.all.nodup hb⟩
theorem IsOrder.has {g:Gr}{roots b l:List Int}(h:IsOrder g roots b l):(∀x∈b,g.has x=true)∧ ∀x∈l,g.has x=true:=
 have hb:=h.strong.has fun x hx=>(yo hx).elim (fun h=>by cases h) (·.1)
 ⟨hb,h.all.has hb⟩
theorem IsOrder.sub {g:Gr}{roots b l:List Int}(h:IsOrder g roots b l){x:Int}(hx:x∈b):x∈l:=by
 obtain ⟨t,e⟩:=h.all.app;rw [e];exact Rp _ hx
theorem IsOrder.roots {g:Gr}{roots b l:List Int}(h:IsOrder g roots b l){x:Int}(hx:x∈roots)(hh:g.has x=true):x∈b:=by
 obtain ⟨t,e⟩:=h.strong.app;rw [e];exact Rp _ (so _ _ hx hh)
def CloG (g:Gr)(row:List Int)(k:Nat):Prop:= ∀(i:Nat) (a x:Int),i<k→row[i]? =some a→x∈g.leads a→g.has x=true→x∈row
theorem CloG.app {g:Gr}{row t:List Int}{k:Nat}(hk:k≤row.length)(h:CloG g row k):CloG g (row++t) k:=fun i a x hi ha hx hh=>by
 rw [List.getElem?_append_left Y] at ha;exact Rp _ (h i a x hi ha hx hh)
theorem Thr.clo {g:Gr}{row r:List Int}{k:Nat}(h:Thr g row k r)(hk:k≤row.length)(hc:CloG g row k):CloG g r r.length:=by
 induction h with
 |done hk2=>intro i a x hi ha hx hh;exact hc i a x Y ha hx hh
 | step ha _ ih=>
  rename_i row k a _ _
  have hlt:=(List.getElem?_eq_some_iff.1 ha).1;obtain ⟨t,h1, -⟩:=gN g.has row (g.leads a)
  refine ih (by rw [h1,List.length_append];omega) fun i b x hi hb hx hh=> ?_
  by_cases e:i=k
  ·subst e;rw [h1,List.getElem?_append_left hlt,ha] at hb;cases hb;exact so _ _ hx hh
  rw [h1] at hb⊢;exact (CloG.app hk hc (t:=t)) i b x Y hb hx hh
theorem DQ {g:Gr}: ∀{row avs:List Int},kx g row avs=row→ ∀a∈avs, ∀x∈g.opens row a,g.has x=true→x∈row
 | row,b::avs,h,a,ha,x,hx,hh=>by
  have h1:dn g.has row (g.opens row b)=row:=by
   obtain ⟨t,e1, -⟩:=gN g.has row (g.opens row b);obtain ⟨t2,e2⟩:=pu g (dn g.has row (g.opens row b)) avs
   have h3:row++t++t2=row:=by rw [←e1, ←e2];exact h
   have h4:=congrArg List.length h3;simp only [List.length_append] at h4;have h5:t=[]:=List.eq_nil_of_length_eq_zero Y;rw [e1,h5,List.append_nil]
  rcases List.mem_cons.1 ha with e|ha
  ·subst e;have:=so row _ hx hh;rwa [h1] at this
  refine DQ (avs:=avs) ?_ a ha x hx hh;unfold kx at h;rw [h1] at h;exact h
theorem Ord.closed {g:Gr}{row r:List Int}(h:Ord g row r)(hc:CloG g row row.length):CloG g r r.length∧ ∀a∈r, ∀x∈g.opens r a,g.has x=true→x∈r:=by
 induction h with
 |done hp=>exact ⟨hc,DQ hp⟩
 |step _ h1 _ ih=>
  rename_i row _ _ _ _
  obtain ⟨t,e⟩:=pu g row row;refine ih (h1.clo (by rw [e,List.length_append];omega) ?_);rw [e];exact hc.app (Nat.le_refl _)
theorem IsOrder.closed {g:Gr}{roots b l:List Int}(h:IsOrder g roots b l):(∀a∈l, ∀x∈g.leads a,g.has x=true→x∈l)∧ ∀a∈l, ∀x∈g.opens l a,g.has x=true→x∈l:=by
 obtain ⟨h1,h2⟩:=h.all.closed (h.strong.clo (Nat.zero_le _) fun i _ _ hi=>absurd hi Y);refine ⟨fun a ha x hx hh=> ?_,h2⟩;obtain ⟨i,hi,e⟩:=List.getElem_of_mem ha;exact h1 i a x hi (by rw [List.getElem?_eq_getElem hi,e]) hx hh
structure ClosedS (g:Gr) (S:Int→Prop):Prop where
 leads: ∀a,S a→ ∀x∈g.leads a,g.has x=true→S x
 opens: ∀row:List Int,(∀x∈row,S x)→ ∀a,S a→ ∀x∈g.opens row a,g.has x=true→S x
def An (N:Nat)(m:Rg):Gr:=⟨br m,fun a=>bL (bU m a),fun row a=>ca N (bU m a) row⟩
def ce (l:List Q5):List Int:=(l.filter bM).map (·.N)
theorem vT (l l':List Q5):ce (l++l')=ce l++ce l':=by unfold ce;simp
theorem lA {l:List Q5}{x:Int}:x∈ce l↔ ∃v∈l,bM v=true∧v.N=x:=by
 unfold ce;simp only [List.mem_map,List.mem_filter];constructor
 ·rintro ⟨v,⟨h1,h2⟩,h3⟩;exact ⟨v,h1,h2,h3⟩
 rintro ⟨v,h1,h2,h3⟩;exact ⟨v,⟨h1,h2⟩,h3⟩
theorem Fe (N:Nat){m:Rg}{roots:List Q5}(hN:5000<N)(hs:Small m roots)(d:Int)(l:List Int)(hl:l.length≤2000)(h64: ∀x∈l,in64 x){all:List Int}{met:List (Int×Unit)}(ht:Tr m all met):
  Sat (eh N ⟨m,all,met,d⟩ l) fun r=>r.m_=m∧r.done_=d∧Tr m r.all_ r.met_∧r.all_=dn (br m) all l:=by
 unfold eh;refine cI (fun k i (s:List Int×List (Int×Unit))=>dm N l ⟨m,all,met,d⟩ k (i:Int) s.1 s.2) l.length (fun i s=>Tr m s.1 s.2∧s.1=dn (br m) all (l.take i)) _ ?_ ?_ N 0 (all,met) Y Y ⟨ht,U⟩
 ·rintro k i ⟨al,mt⟩ hi ⟨h1,h2⟩ go;show Sat (dm N l ⟨m,all,met,d⟩ (k+1) i al mt) _;simp only at h1 h2;have hx64:=h64 l[i] (List.getElem_mem _)
  have hnext:dn (br m) all (l.take (i+1))=(bif br m l[i]&& !decide (l[i]∈al) then al++ [l[i]] else al):=by
   rw [bh hi,qe, ←h2];rfl
  rw [dm.eq_2,cF Y,ct,bf hi,bs,OV];unfold ik;rw [r64 (a:=(i:Int)+1) Y Y,r64 (a:=(i:Int)+1) Y Y];by_cases hm:l[i]∈al
  ·rw [Rk ((h1.mem _).2 hm)];simp only [nt,cf,bs];exact go (al,mt) ⟨h1,by rw [hnext,Rk hm];simp⟩
  rw [Rl (fun h=>hm ((h1.mem _).1 h))];simp only [nf,ct,bs,sw N m _ hx64];cases hh:br m l[i]
  ·simp only [cf];exact go (al,mt) ⟨h1,by rw [hnext,hh];rfl⟩
  simp only [ct];have hlen:=h1.len hs;rw [rF (by simp;omega)];exact go (al++ [l[i]],tW mt l[i] ()) ⟨h1.add hm hh,by rw [hnext,hh,Rl hm];rfl⟩
 rintro k ⟨al,mt⟩ ⟨h1,h2⟩;show Sat (dm N l ⟨m,all,met,d⟩ (k+1) _ al mt) _;rw [dm.eq_2,cD Y,cf];exact aR ⟨U,U,h1,by simpa using h2⟩
theorem zT (N:Nat)(hN:5000<N){m:Rg}{roots:List Q5}(hs:Small m roots)(hw:W64 m){all:List Int}{met:List (Int×Unit)}(ht:Tr m all met)(k:Nat)(hk:k≤all.length):
  Sat (gb N ⟨m,all,met,(k:Int)⟩) fun r=>r.m_=m∧r.done_=(r.all_.length:Int)∧Tr m r.all_ r.met_∧Thr (An N m) all k r.all_:=by
 unfold gb;refine ni (fun f (s:List Int×List (Int×Unit)×Nat)=>fA N f m.Young m.Old s.1 s.2.1 (s.2.2:Int)) (fun s=>1300 - s.2.2) (fun s=>Tr m s.1 s.2.1∧s.2.2≤s.1.length∧ ∀r,Thr (An N m) s.1 s.2.2 r→Thr (An N m) all k r) _ ?_ N (all,met,k) (by show 1300 - k<N;omega) ⟨ht,hk,fun _ h=>h⟩;rintro f ⟨al,mt,j⟩ ⟨h1,h3,h4⟩ go;show Sat (fA N (f+1) m.Young m.Old al mt (j:Int)) _;simp only at h1 h3 h4;have hlen:=h1.len hs;rw [fA.eq_2];by_cases hj:j<al.length
 ·have hx:=List.getElem_mem hj;have hat:=FJ N hs al[j] (h1.in64 hs hx);have hsm:=hs.at_ al[j];obtain ⟨hl1,hl2⟩:=Gk hs hw al[j];rw [cF Y,ct,bf hj,bs];have hat':gL N ⟨m.Young,m.Old⟩ al[j]=some (bU m al[j]):=hat;rw [hat',bs,ms N Y _ Y Y,bs];refine Sat.bind (Fe N hN hs (j:Int) _ hl1 hl2 h1) ?_;rintro ⟨m',al',mt',d'⟩ ⟨e1,e2,h5,h6⟩;simp only at e1 e2 h5 h6;subst e1 e2;have hlen':=h5.len hs
  dsimp only
  rw [r64 Y Y]
  have hge:al.length≤al'.length:=by
   obtain ⟨t,e, -⟩:=gN (br m') al (bL (bU m' al[j]));rw [h6,e,List.length_append];omega
  have hgo:=go (al',mt',j+1) (by show 1300 - (j+1)<1300 - j;omega) ⟨h5,by show j+1≤al'.length;omega,fun r hr=>h4 r (.step (List.getElem?_eq_getElem hj) (by rw [h6] at hr;exact hr))⟩;simpa using hgo
 have:j=al.length:=by omega
 subst this;rw [cD Y,cf];exact aR ⟨U,U,h1,h4 _ (.done (Nat.le_refl _))⟩
theorem Ke (N:Nat)(hN:5000<N){m:Rg}{roots:List Q5}(hs:Small m roots)(hw:W64 m)(hr: ∀v∈roots,in64 v.N):
  Sat (jX N m roots) fun r=>r.m_=m∧r.done_=(r.all_.length:Int)∧Tr m r.all_ r.met_∧Thr (An N m) (dn (br m) [] (ce roots)) 0 r.all_:=by
 have hrl:=hs.roots;unfold jX;refine cI (fun k i (s:List Int×List (Int×Unit))=>ib N roots k (i:Int) m.Young m.Old s.1 s.2 0) roots.length (fun i s=>Tr m s.1 s.2∧s.1=dn (br m) [] (ce (roots.take i))) _ ?_ ?_ N 0 ([],[]) Y Y ⟨⟨by simp,by simp,by simp⟩,U⟩
 ·rintro k i ⟨al,mt⟩ hi ⟨h1,h2⟩ go;show Sat (ib N roots (k+1) (i:Int) m.Young m.Old al mt 0) _;simp only at h1 h2;have hx64:=hr roots[i] (List.getElem_mem _)
  have ha:fX N roots[i]=some (roots[i].N,bM roots[i]):=by
   unfold fX;rw [oE,bs]
  have hnext:dn (br m) [] (ce (roots.take (i+1)))=dn (br m) al (ce [roots[i]]):=by
   rw [bh hi,vT,qe, ←h2]
  rw [ib.eq_2,cF Y,ct,bf hi,bs];unfold nJ;rw [ha,bs];cases hb:bM roots[i]
  ·simp only [cf,bs];rw [r64 Y Y];refine go (al,mt) ⟨h1,?_⟩;rw [hnext];simp [ce,hb,dn]
  simp only [ct];obtain ⟨⟨m',al',mt',d'⟩,e0,e1,e2,h5,h6⟩:=Fe N hN hs 0 [roots[i].N] (by simp) (by intro x hx;rw [List.mem_singleton] at hx;subst hx;exact hx64) h1;simp only at e1 e2 h5 h6;subst e1 e2;have e0':eh N ⟨⟨m'.Young,m'.Old⟩,al,mt,0⟩ [roots[i].N]=some ⟨m',al',mt',0⟩:=e0;rw [e0',bs,bs]
  dsimp only
  rw [r64 Y Y];refine go (al',mt') ⟨h5,?_⟩;show al'=_;rw [hnext,h6];simp [ce,hb]
 rintro k ⟨al,mt⟩ ⟨h1,h2⟩;show Sat (ib N roots (k+1) _ m.Young m.Old al mt 0) _;rw [ib.eq_2,cD Y,cf];unfold pO;refine Sat.bind (zT N hN hs hw h1 0 (Nat.zero_le _)) ?_;rintro r ⟨e1,e2,h5,h6⟩;simp only [List.take_length] at h2;exact aR ⟨e1,e2,h5,by rw [←h2];exact h6⟩
theorem F8 (N:Nat){m:Rg}{roots:List Q5}(hs:Small m roots)(hw:W64 m)(a:Int)(l:List Int):(ca N (bU m a) l).length≤2000∧ ∀x∈ca N (bU m a) l,in64 x:=by
 have h1:=hs.at_ a;have h2:=Cn N (bU m a) l;refine ⟨by omega,fun x hx=> ?_⟩;obtain ⟨v,h3,rfl⟩:=Hp hx;exact hw.at_ a v h3
theorem KL (N:Nat)(hN:5000<N){m:Rg}{roots:List Q5}(hs:Small m roots)(hw:W64 m){all:List Int}{met:List (Int×Unit)}(ht:Tr m all met)(d:Int):
  Sat (jc N ⟨m,all,met,d⟩) fun r=>r.2.m_=m∧r.2.done_=d∧Tr m r.2.all_ r.2.met_∧r.1=decide ((all.length:Int)<(r.2.all_.length:Int))∧r.2.all_=kx (An N m) all all:=by
 have hlen:=ht.len hs;unfold jc;refine cI (fun k i (s:List Int×List (Int×Unit))=>dA N ⟨m,all,met,d⟩ k (i:Int) m.Young m.Old s.1 s.2 d) all.length (fun i s=>Tr m s.1 s.2∧(∃t,s.1=all++t)∧s.1=kx (An N m) all (all.take i)) _ ?_ ?_ N 0 (all,met) Y Y ⟨ht,⟨[],by simp⟩,U⟩
 ·rintro k i ⟨al,mt⟩ hi ⟨h1,⟨t,h2⟩,h3⟩ go;show Sat (dA N ⟨m,all,met,d⟩ (k+1) (i:Int) m.Young m.Old al mt d) _;simp only at h1 h2 h3;have hlen1:=h1.len hs
  have htk:List.take all.length al=all:=by rw [h2,List.take_left'];rfl
  have hx:=List.getElem_mem hi;have hsm:=hs.at_ all[i];have hat:gL N ⟨m.Young,m.Old⟩ all[i]=some (bU m all[i]):=FJ N hs all[i] (ht.in64 hs hx)
  have hnext:kx (An N m) all (all.take (i+1))=dn (br m) al (ca N (bU m all[i]) al):=by
   rw [bh hi,zn, ←h3];rfl
  rw [dA.eq_2];simp only [List.take_length];rw [cF Y,ct,htk,bf hi,bs,hat,bs];unfold jA;by_cases h8:(bU m all[i]).Kind=8
  ·rw [nn h8,ct,Cl N hN al Y _ Y Y,bs];obtain ⟨hl1,hl2⟩:=F8 N hs hw all[i] al;obtain ⟨⟨m',al',mt',d'⟩,e0,e1,e2,h5,h6⟩:=Fe N hN hs d _ hl1 hl2 h1;simp only at e1 e2 h5 h6;subst e1 e2;have e0':eh N ⟨⟨m'.Young,m'.Old⟩,al,mt,d'⟩ (ca N (bU m' all[i]) al)=some ⟨m',al',mt',d'⟩:=e0;rw [e0',bs]
   dsimp only
   rw [r64 Y Y];obtain ⟨t',e', -⟩:=gN (br m') al (ca N (bU m' all[i]) al);exact go (al',mt') ⟨h5,⟨t++t',by show al'=_;rw [h6,e',h2,Rn]⟩,by show al'=_;rw [hnext,h6]⟩
  rw [fK h8,cf,r64 Y Y];refine go (al,mt) ⟨h1,⟨t,h2⟩,?_⟩
  have h0:ca N (bU m all[i]) al=[]:=by
   unfold ca km;rw [fK h8];rfl
  show al=_;rw [hnext,h0];rfl
 rintro k ⟨al,mt⟩ ⟨h1,⟨t,h2⟩,h3⟩;show Sat (dA N ⟨m,all,met,d⟩ (k+1) _ m.Young m.Old al mt d) _;rw [dA.eq_2];simp only [List.take_length] at h3⊢;rw [cD Y,cf];exact aR ⟨U,U,h1,U,h3⟩
theorem pv (N:Nat)(hN:5000<N){m:Rg}{roots:List Q5}(hs:Small m roots)(hw:W64 m)(hr: ∀v∈roots,in64 v.N):
  ∃b all,IsOrder (An N m) (ce roots) b.all_ all∧all.length≤1200∧b.all_.length≤1200∧jX N m roots=some b∧dD N m roots=some all:=by
 obtain ⟨⟨m',al0,mt0,d0⟩,e0,e1,e2,h1,h2⟩:=Ke N hN hs hw hr;simp only at e1 e2 h1 h2;subst e1 e2;have hlen0:=h1.len hs
 have key:Sat (dD N m' roots) fun all=>Ord (An N m') al0 all∧all.length≤1200:=by
  unfold dD;rw [e0,bs];refine ni (fun f (s:List Int×List (Int×Unit))=>jP N f m'.Young m'.Old s.1 s.2 (s.1.length:Int)) (fun s=>1300 - s.1.length) (fun s=>Tr m' s.1 s.2∧ ∀r,Ord (An N m') s.1 r→Ord (An N m') al0 r) _ ?_ N (al0,mt0) (by show 1300 - al0.length<N;omega) ⟨h1,fun _ h=>h⟩;rintro f ⟨al,mt⟩ ⟨h4,h5⟩ go;show Sat (jP N (f+1) m'.Young m'.Old al mt (al.length:Int)) _;simp only at h4 h5;have hlen:=h4.len hs;rw [jP.eq_2];obtain ⟨⟨b,m2,al2,mt2,d2⟩,g0,g1,g2,g3,g5,g6⟩:=KL N hN hs hw h4 (al.length:Int);simp only at g1 g2 g3 g5 g6;subst g1 g2;have hlen2:=g3.len hs;have g0':jc N ⟨⟨m2.Young,m2.Old⟩,al,mt,(al.length:Int)⟩=some (b,⟨m2,al2,mt2,(al.length:Int)⟩):=g0;obtain ⟨t2,ht2⟩:=pu (An N m2) al al;rw [g0',bs]
  dsimp only
  rw [g5]
  refine dR (fun hlt=> ?_) fun hge=> ?_
  ·refine Sat.bind (zT N hN hs hw g3 al.length Y) ?_;rintro ⟨m3,al3,mt3,d3⟩ ⟨k1,k2,k3,k4⟩;simp only at k1 k2 k3 k4;subst k1 k2;have hlen3:=k3.len hs;refine go (al3,mt3) ?_ ⟨k3,fun r h=>h5 r (.step ?_ (by rw [←g6];exact k4) h)⟩
   ·show 1300 - al3.length<1300 - al.length;obtain ⟨t3,e3⟩:=k4.app
    have:al2.length≤al3.length:=by rw [e3,List.length_append];omega
    omega
   rw [←g6];intro e;rw [e] at hlt;omega
  have e:al2=al:=by
   rw [ht2] at g6;have h0:t2=[]:=List.eq_nil_of_length_eq_zero (by rw [g6,List.length_append] at hge;omega);rw [g6,h0,List.append_nil]
  subst e;unfold oR;exact aR ⟨h5 _ (.done g6.symm),by omega⟩
 obtain ⟨all,k1,k2,k3⟩:=key;exact ⟨⟨m',al0,mt0,(al0.length:Int)⟩,all,⟨h2,k2⟩,k3,hlen0,e0,k1⟩
theorem pq (l:List Int)(x:Int):x∈i9 l↔x∈l:=by unfold i9;exact List.mem_mergeSort
theorem zb {l:List Int}(h:l.Nodup):(i9 l).Pairwise (· < ·):=by
 have h1:(i9 l).Pairwise fun a b=>decide (a≤b)=true:=List.pairwise_mergeSort (by intro a b c h1 h2;simp at*;omega) (by intro a b;simp;omega) l
 have h2:(i9 l).Nodup:=(List.mergeSort_perm l _).nodup_iff.2 h;rw [List.nodup_iff_pairwise_ne] at h2;exact h1.imp₂ (fun a b h3 h4=>by simp at h3;omega) h2
theorem FV {l s:List Int}(h:l.Nodup)(hs:s.Pairwise (· < ·))(he: ∀x,x∈l↔x∈s):i9 l=s:=I6 (zb h) hs fun x=>(pq l x).trans (he x)
theorem Jm (N:Nat)(l:List Int)(h:l.length≤5000):lQ N l=some (i9 l):=by
 unfold lQ;rw [rF Y]
def QF (n:Int):Q5:=⟨7,n,⟨#[]⟩⟩
def Qs (l:List Q5):Ra:=⟨11,0,0,0,[],l⟩
def QJ:Rg:=⟨[⟨11,0,0,0,[],[⟨7,3,⟨#[]⟩⟩,⟨7,2,⟨#[]⟩⟩]⟩,⟨11,0,0,0,[],[]⟩],[⟨11,0,0,0,[],[]⟩]⟩
def QH:Rg:=⟨[⟨8,0,0,0,[⟨1,0,⟨#[]⟩⟩],[⟨7,3,⟨#[]⟩⟩,⟨7,5,⟨#[]⟩⟩]⟩,⟨11,0,0,0,[],[]⟩,⟨11,0,0,0,[],[]⟩],[]⟩
theorem MZ {N:Nat}{m:Rg}{roots:List Q5}{l s:List Int}(h:dD N m roots=some l)(hl:l.length≤5000)(hs:i9 l=s):eJ N m roots=some s:=by
 unfold eJ;rw [h,bs,Jm N l hl,bs,hs]
structure Tq (m:Rg) (all:List Int):Prop where
 nd:all.Nodup
 has: ∀x∈all,br m x=true
theorem Tq.len {m:Rg}{roots:List Q5}(hs:Small m roots){all:List Int}(h:Tq m all):all.length≤1200:=ye 1200 h.nd fun x hx=>⟨by have:=qj (h.has x hx);omega,by have:=vH hs (h.has x hx);omega⟩
theorem Tq.in64 {m:Rg}{roots:List Q5}(hs:Small m roots){all:List Int}(h:Tq m all){x:Int}(hx:x∈all):in64 x:=by
 have h1:=qj (h.has x hx);have h2:=vH hs (h.has x hx);unfold Go.Proofs.YtmimkglhbmcokaaGreat.in64;omega
theorem Tq.lay {m:Rg}{all:List Int}(h:Tq m all)(l:List Int):Tq m (dn (br m) all l):=⟨nO l h.nd,fun x hx=>(yo hx).elim (h.has x) (·.1)⟩
theorem BH (N:Nat){m:Rg}{roots:List Q5}(hN:5000<N)(hs:Small m roots)(l:List Int)(hl:l.length≤2000)(h64: ∀x∈l,in64 x){all:List Int}(ht:Tq m all):mD N m all l=some (dn (br m) all l):=by
 apply Sat.eq;unfold mD;refine cI (fun k i (s:List Int)=>kP N l m k s (i:Int)) l.length (fun i s=>Tq m s∧s=dn (br m) all (l.take i)) _ ?_ ?_ N 0 all Y Y ⟨ht,U⟩
 ·rintro k i s hi ⟨h0,h1⟩ go;show Sat (kP N l m (k+1) s (i:Int)) _;have hx64:=h64 l[i] (List.getElem_mem _);have hsl:=h0.len hs
  have hnext:dn (br m) all (l.take (i+1))=(bif br m l[i]&& !decide (l[i]∈s) then s++ [l[i]] else s):=by
   rw [bh hi,qe, ←h1];rfl
  have hT:Tq m (dn (br m) all (l.take (i+1))):=ht.lay _;rw [kP.eq_2,cF Y,ct];simp only [bf hi,bs,Ba N m _ hx64,P7 N hN s Y l[i]];unfold qV;cases hh:br m l[i]
  ·simp only [cf,bs];rw [r64 Y Y];exact go s ⟨h0,by rw [hnext,hh];rfl⟩
  simp only [ct,bs];by_cases hm:l[i]∈s
  ·rw [Rk hm];simp only [nt,cf];rw [r64 Y Y];exact go s ⟨h0,by rw [hnext,hh,Rk hm];rfl⟩
  have e:dn (br m) all (l.take (i+1))=s++ [l[i]]:=by rw [hnext,hh,Rl hm];rfl
  rw [Rl hm];simp only [nf,ct];rw [rF (by simp;omega),r64 Y Y];exact go (s++ [l[i]]) ⟨e▸hT,e.symm⟩
 rintro k s ⟨h0,h1⟩;show Sat (kP N l m (k+1) s _) _;rw [kP.eq_2,cD Y,cf];exact aR (by simpa using h1)
theorem Jv (N:Nat)(hN:5000<N)(l:List Q5)(hl:l.length≤2000):fY N l=some (ce l):=by
 apply Sat.eq;unfold fY;refine cI (fun k i (s:List Int)=>er N l k s (i:Int)) l.length (fun i s=>s=ce (l.take i)) _ ?_ ?_ N 0 [] Y Y U
 ·rintro k i s hi h1 go;show Sat (er N l (k+1) s (i:Int)) _
  have hsl:s.length≤2000:=by
   rw [h1];unfold ce;rw [List.length_map];exact Nat.le_trans (List.length_filter_le _ _) (by rw [List.length_take];omega)
  have hnext:ce (l.take (i+1))=s++ce [l[i]]:=by rw [bh hi,vT,h1]
  rw [er.eq_2,cF Y,ct];simp only [bf hi,bs,oE];unfold ll;cases hb:bM l[i]
  ·simp only [cf];rw [r64 Y Y];exact go s (by rw [hnext];simp [ce,hb])
  simp only [ct];rw [rF (by simp;omega),r64 Y Y];exact go (s++ [l[i].N]) (by rw [hnext];simp [ce,hb])
 rintro k s h1;show Sat (er N l (k+1) s _) _;rw [er.eq_2,cD Y,cf];exact aR (by simpa using h1)
theorem xy (N:Nat)(hN:5000<N){m:Rg}{roots:List Q5}(hs:Small m roots)(hw:W64 m){all:List Int}(ht:Tq m all)(k:Nat)(hk:k≤all.length):
  Sat (gl N m all (k:Int)) fun r=>Tq m r∧Thr (An N m) all k r:=by
 unfold gl;refine ni (fun f (s:List Int×Nat)=>kO N m f s.1 (s.2:Int)) (fun s=>1300 - s.2) (fun s=>Tq m s.1∧s.2≤s.1.length∧ ∀r,Thr (An N m) s.1 s.2 r→Thr (An N m) all k r) _ ?_ N (all,k) (by show 1300 - k<N;omega) ⟨ht,hk,fun _ h=>h⟩;rintro f ⟨al,j⟩ ⟨h1,h3,h4⟩ go;show Sat (kO N m (f+1) al (j:Int)) _;simp only at h1 h3 h4;have hlen:=h1.len hs;rw [kO.eq_2];by_cases hj:j<al.length
 ·have hx:=List.getElem_mem hj;have hsm:=hs.at_ al[j];obtain ⟨hl1,hl2⟩:=Gk hs hw al[j];rw [cF Y,ct,bf hj,bs,FI N m _ (h1.in64 hs hx),bs,JR N Y _ Y Y,bs,BH N hN hs _ hl1 hl2 h1,bs,r64 Y Y]
  have hge:al.length≤(dn (br m) al (bL (bU m al[j]))).length:=by
   obtain ⟨t,e, -⟩:=gN (br m) al (bL (bU m al[j]));rw [e,List.length_append];omega
  exact go (dn (br m) al (bL (bU m al[j])),j+1) (by show 1300 - (j+1)<1300 - j;omega) ⟨h1.lay _,by show j+1≤(dn (br m) al (bL (bU m al[j]))).length;omega,fun r hr=>h4 r (.step (List.getElem?_eq_getElem hj) hr)⟩
 have:j=al.length:=by omega
 subst this;rw [cD Y,cf];exact aR ⟨h1,h4 _ (.done (Nat.le_refl _))⟩
theorem BG (N:Nat)(hN:5000<N){m:Rg}{roots:List Q5}(hs:Small m roots)(hw:W64 m)(hr: ∀v∈roots,in64 v.N):
  ∃b all,IsOrder (An N m) (ce roots) b all∧io N m roots=some all∧((fY N roots).bind fun y5=>(mD N m ([]:List Int) y5).bind fun y8=>gl N m y8 0)=some b:=by
 have hrl:=hs.roots;have ha:=Jv N hN roots Y
 have h64: ∀x∈ce roots,in64 x:=fun x hx=>by
  obtain ⟨v,h1, -,rfl⟩:=lA.1 hx;exact hr v h1
 have hal:(ce roots).length≤2000:=by
  unfold ce;rw [List.length_map];exact Nat.le_trans (List.length_filter_le _ _) Y
 have hT0:Tq m []:=⟨List.nodup_nil,by simp⟩;have hlay:=BH N hN hs (ce roots) hal h64 hT0;obtain ⟨b,b0,b1,b2⟩:=xy N hN hs hw (hT0.lay (ce roots)) 0 (Nat.zero_le _);have b0':gl N m (dn (br m) [] (ce roots)) 0=some b:=b0
 have key:Sat (io N m roots) fun all=>Ord (An N m) b all:=by
  unfold io;rw [ha,bs,hlay,bs,b0',bs];refine ni (fun f (s:List Int)=>eD N m f s) (fun s=>1300 - s.length) (fun s=>Tq m s∧ ∀r,Ord (An N m) s r→Ord (An N m) b r) _ ?_ N b (by show 1300 - b.length<N;omega) ⟨b1,fun _ h=>h⟩;rintro f al ⟨h4,h5⟩ go;show Sat (eD N m (f+1) al) _;have hlen:=h4.len hs;rw [eD.eq_2];refine cI (fun k i (s:List Int)=>jY N (eD N m f) al m k s (i:Int)) al.length (fun i s=>Tq m s∧(∃t,s=al++t)∧s=kx (An N m) al (al.take i)) _ ?_ ?_ N 0 al Y Y ⟨h4,⟨[],by simp⟩,U⟩
  ·rintro k i s hi ⟨h0,⟨t,h1⟩,h2⟩ go2;show Sat (jY N (eD N m f) al m (k+1) s (i:Int)) _;have hsl:=h0.len hs
   have hg:aM s (i:Int)=some al[i]:=by
    rw [lX,h1,List.getElem?_append_left hi,List.getElem?_eq_getElem hi]
   have hx:=List.getElem_mem hi;have hsm:=hs.at_ al[i];obtain ⟨hl1,hl2⟩:=F8 N hs hw al[i] s
   have hnext:kx (An N m) al (al.take (i+1))=dn (br m) s (ca N (bU m al[i]) s):=by
    rw [bh hi,zn, ←h2];rfl
   rw [jY.eq_2,cF Y,ct,hg,bs,FI N m _ (h4.in64 hs hx),bs,JC N hN s Y _ Y Y,bs,BH N hN hs _ hl1 hl2 h0,bs,r64 Y Y];obtain ⟨t',e', -⟩:=gN (br m) s (ca N (bU m al[i]) s);exact go2 _ ⟨h0.lay _,⟨t++t',by rw [e',h1,Rn]⟩,hnext.symm⟩
  rintro k s ⟨h0,⟨t,h1⟩,h2⟩;show Sat (jY N (eD N m f) al m (k+1) s _) _;have hsl:=h0.len hs;simp only [List.take_length] at h2;rw [jY.eq_2,cD Y,cf];unfold rH
  refine dR (fun he=> ?_) fun hne=> ?_
  ·have h6:t=[]:=List.eq_nil_of_length_eq_zero (by rw [h1,List.length_append] at he;omega)
   have h7:s=al:=by rw [h1,h6,List.append_nil]
   exact aR (by rw [h7] at h2⊢;exact h5 _ (.done h2.symm))
  have hle:al.length≤s.length:=by rw [h1,List.length_append];omega
  refine Sat.bind (xy N hN hs hw h0 al.length hle) fun r ⟨r1,r2⟩=> ?_
  obtain ⟨t3,e3⟩:=r2.app;have hl3:=r1.len hs;refine go r ?_ ⟨r1,fun r' hr'=>h5 r' (.step ?_ (by rw [←h2];exact r2) hr')⟩
  ·show 1300 - r.length<1300 - al.length
   have:s.length≤r.length:=by rw [e3,List.length_append];omega
   omega
  rw [←h2];intro e;rw [e] at hne;omega
 obtain ⟨all,k1,k2⟩:=key;exact ⟨b,all,⟨b2,k2⟩,k1,by rw [ha,bs,hlay,bs];exact b0'⟩
theorem DB: ∀{s:List Int} {k:Nat} (h:k+1<s.length),((s.set (k+1) (s[k]'Y)).set k s[k+1]).Perm s
 |a::b::r,0,_=>List.Perm.swap a b r
 |a::r,k+1,h=>by
  have ih:=DB (s:=r) (k:=k) (by simpa using h);simp only [List.set_cons_succ,List.getElem_cons_succ];exact ih.cons a
def Qe (s:List Int)(i k:Nat):Prop:= ∀a b:Nat,a<b→b≤i→b≠k→s.getD a 0≤s.getD b 0
theorem yr (s:List Int)(i j:Nat)(x:Int)(hi:i<s.length):(s.set i x).getD j 0=if j=i then x else s.getD j 0:=by
 by_cases e:j=i
 ·subst e;simp [List.getD,hi]
 rw [if_neg e];simp only [List.getD];rw [List.getElem?_set_ne (fun h=>e h.symm)]
theorem vI (s:List Int)(i:Nat)(hi:i<s.length):s.getD i 0=s[i]:=by simp [List.getD,hi]
theorem Hb (N:Nat)(hN:5000<N)(l:List Int)(hl:l.length≤2000)(hn:l.Nodup):ph N l=some (i9 l):=by
 apply Sat.eq;unfold ph;rw [rF (by simp;omega),List.nil_append]
 have fin: ∀s:List Int,s.Perm l→Qe s (l.length - 1) l.length→s=i9 l:=fun s hp hi=>by
  have hlen:=hp.length_eq;have hnd:s.Nodup:=hp.nodup_iff.2 hn;refine (FV hn (List.pairwise_iff_getElem.2 fun a b ha hb hab=> ?_) fun x=>(hp.mem_iff).symm).symm;have h1:=hi a b hab Y Y;rw [vI s a ha,vI s b hb] at h1;have h2:=List.pairwise_iff_getElem.1 (List.nodup_iff_pairwise_ne.1 hnd) a b ha hb hab;omega
 by_cases h0:l.length=0
 ·have e:l=[]:=List.eq_nil_of_length_eq_zero h0;subst e;obtain ⟨n,rfl⟩: ∃n,N=n+1:=⟨N - 1,by omega⟩;rw [gm.eq_2,cD (by simp),cf];exact aR (by unfold i9;simp)
 refine cI (fun k i (s:List Int)=>gm N k s (i:Int)) l.length (fun i s=>s.Perm l∧Qe s (i - 1) l.length) _ ?_ ?_ N 1 l Y Y ⟨List.Perm.refl _,fun a b h1 h2=>absurd h2 Y⟩
 ·rintro f i s hi ⟨h1,h2⟩ go;show Sat (gm N (f+1) s (i:Int)) _;have hlen:=h1.length_eq;rw [gm.eq_2,hlen,cF Y,ct]
  have hi0:i≤l.length:=by omega
  refine ni (fun k (st:List Int×Nat)=>mR N (gm N f) (i:Int) k st.1 (st.2:Int)) (fun st=>st.2) (fun st=>st.1.Perm l∧st.2≤i∧Qe st.1 i st.2) _ ?_ N (s,i) (by show i<N;omega) ⟨h1,Nat.le_refl _,fun a b q1 q2 q3=>h2 a b q1 (by show b≤i - 1;simp only at q3;omega) Y⟩;rintro k ⟨t,j⟩ ⟨g1,g2,g3⟩ go2;simp only at g1 g2 g3;show Sat (mR N (gm N f) (i:Int) (k+1) t (j:Int)) _;have hlt:=g1.length_eq
  have stop:(j=0∨t.getD (j - 1) 0≤t.getD j 0)→Sat (pP N (gm N f) (i:Int) t) (· =i9 l):=fun hst=>by
   unfold pP;rw [r64 Y Y];refine go t ⟨g1,fun a b q1 q2 q3=> ?_⟩
   have q2':b≤i:=by omega
   by_cases e:b=j
   ·subst e;rcases hst with h|h
    ·omega
    by_cases e2:a=b - 1
    ·subst e2;exact h
    have:=g3 a (b - 1) Y Y Y;omega
   exact g3 a b q1 q2' e
  rw [mR.eq_2];by_cases hj:0<j
  ·have hp:aM t ((j:Int) - 1)=some (t[j - 1]'Y):=by
    have:=bf (xs:=t) (i:=j - 1) Y;rw [show (((j - 1:Nat)):Int)=(j:Int) - 1 by omega] at this;exact this
   have hq:aM t (j:Int)=some (t[j]'Y):=bf Y;rw [cF Y,ct,r64 Y Y,hp,bs,hq,bs,bs];by_cases hc:t[j]'Y<t[j - 1]'Y
   ·rw [cF hc,ct,bs,r64 (a:=(j:Int) - 1) Y Y,bs,bs,r64 (a:=(j:Int) - 1) Y Y]
    have hs2:aM (List.set t (j:Int).toNat (t[j - 1]'Y)) ((j:Int) - 1)=some ((List.set t (j:Int).toNat (t[j - 1]'Y))[j - 1]'(by simp;omega)):=by
     have:=bf (xs:=List.set t (j:Int).toNat (t[j - 1]'Y)) (i:=j - 1) (by simp;omega);rw [show (((j - 1:Nat)):Int)=(j:Int) - 1 by omega] at this;exact this
    rw [hs2,bs,r64 (a:=(j:Int) - 1) Y Y,Int.toNat_natCast,show ((j:Int) - 1).toNat=j - 1 by omega,show (j:Int) - 1=((j - 1:Nat):Int) by omega];obtain ⟨q,rfl⟩: ∃q,j=q+1:=⟨j - 1,by omega⟩;simp only [Nat.add_sub_cancel] at*;refine go2 ((t.set (q+1) (t[q]'Y)).set q (t[q+1]'Y),q) (by show q<q+1;omega) ⟨(DB Y).trans g1,by show q≤i;omega,fun a b q1 q2 q3=> ?_⟩;have q3':b≠q:=q3;have hqa:=vI t q Y;have hqb:=vI t (q+1) Y;show ((t.set (q+1) (t[q]'Y)).set q (t[q+1]'Y)).getD a 0≤((t.set (q+1) (t[q]'Y)).set q (t[q+1]'Y)).getD b 0;rw [yr _ q _ _ (by simp;omega),yr _ q _ _ (by simp;omega),yr t (q+1) _ _ Y,yr t (q+1) _ _ Y,if_neg q3'];by_cases b1:b=q+1
    ·rw [if_pos b1];by_cases a1:a=q
     ·rw [if_pos a1];omega
     rw [if_neg a1,if_neg Y, ←hqa];exact g3 a q Y Y Y
    rw [if_neg b1];by_cases a1:a=q
    ·rw [if_pos a1, ←hqb];exact g3 (q+1) b Y q2 b1
    rw [if_neg a1];by_cases a2:a=q+1
    ·rw [if_pos a2, ←hqa];exact g3 q b Y q2 b1
    rw [if_neg a2];exact g3 a b q1 q2 b1
   rw [cD Y,cf];refine stop (.inr ?_);rw [vI t (j - 1) Y,vI t j Y];omega
  rw [cD Y,cf,bs,cf];exact stop (.inl Y)
 rintro f s ⟨h1,h2⟩;show Sat (gm N (f+1) s _) _;rw [gm.eq_2,h1.length_eq,cD Y,cf];unfold wv;exact aR (fin s h1 h2)
def kq (c:Ra):List Int:=pick (fun i v=>i7 c.Kind i&&bM v) 0 c.More
theorem qH (N:Nat)(hN:2000<N)(c:Ra)(hS:c.Slots.length≤1000)(hc:c.More.length≤1000):gu N c=some (kq c):=by
 unfold gu kq;rw [vb N hN false c hS hc,bs]
 have e1:(fun (_:Nat) (v:Q5)=>(true==false)&&bM v)=fun _ _=>false:=by funext i v;rfl
 have e2:(fun (i:Nat) (v:Q5)=>(ku c.Kind i==false)&&bM v)=fun i v=>i7 c.Kind i&&bM v:=by funext i v;rw [zW];cases i7 c.Kind i<;>rfl
 rw [e1,e2,zm,List.nil_append]
theorem mA (c:Ra):(kq c).length≤c.More.length:=ya _ 0 c.More
theorem FO {c:Ra}{x:Int}(h:x∈kq c): ∃v∈c.Slots++c.More,v.N=x:=by
 obtain ⟨v,h1,h2⟩:=xY h;exact ⟨v,Rq _ h1,h2⟩
def d9 (m:Rg)(l:List Int):Bool:=l.all (br m)
def Ap (N:Nat)(m:Rg)(c:Ra):Bool:=(cP N c).getD false&&(d9 m (bL c)&&d9 m (kq c))
def PZ (N:Nat)(m:Rg)(roots:List Q5):Bool:=m.Young.all (Ap N m)&&(m.Old.all (Ap N m)&&d9 m (ce roots))
theorem yW {m:Rg}{roots:List Q5}(hs:Small m roots)(hw:W64 m){c:Ra}(hc:c∈m.Young++m.Old):((bL c).length≤1200∧ ∀x∈bL c,in64 x)∧(kq c).length≤1200∧ ∀x∈kq c,in64 x:=by
 have h1:=hs.cells c hc;have h2:=jE c;have h3:=mA c;refine ⟨⟨by omega,fun x hx=> ?_⟩,by omega,fun x hx=> ?_⟩
 ·obtain ⟨v,h4,rfl⟩:=CF hx;exact hw c hc v h4
 obtain ⟨v,h4,rfl⟩:=FO hx;exact hw c hc v h4
structure Bnd (B:Nat) (m:Rg) (roots:List Q5):Prop where
 young:m.Young.length≤B
 old:m.Old.length≤B
 roots:roots.length≤B
 cells: ∀c∈m.Young++m.Old,c.Slots.length≤B∧c.More.length≤B
def wt:List Ra→Nat
 | []=>0
 |c::l=>1+c.Slots.length+c.More.length+wt l
theorem Bo: ∀a b:List Ra,wt (a++b)=wt a+wt b
 | [],b=>by simp [wt]
 |c::a,b=>by rw [List.cons_append,wt,wt,Bo a b];omega
theorem Mu {l:List Ra}{i:Nat}(h:i<l.length):wt (l.take (i+1))=wt (l.take i)+(1+l[i].Slots.length+l[i].More.length):=by
 rw [bh h,Bo];simp [wt]
def W6 (m:Rg)(roots:List Q5):Prop:=roots.length+wt m.Young+wt m.Old≤600
structure Wtd (m:Rg) (roots:List Q5):Prop where
 le:roots.length+wt m.Young+wt m.Old≤2400
 cnt:m.Young.length+m.Old.length≤600
def cM (p:Int→Bool):List Q5→List Q5
 |k::v::r=>(bif p k.N then [k,v] else [])++cM p r
 |_=> []
theorem C0 (p:Int→Bool): ∀l:List Q5,(cM p l).length≤l.length
 | []=>by simp [cM]
 | [_]=>by simp [cM]
 |k::v::r=>by
  have:=C0 p r;unfold cM;cases p k.N<;>simp<;>omega
theorem xc {p:Int→Bool}{x:Q5}: ∀{l:List Q5},x∈cM p l→x∈l
 | [],h=>by simp [cM] at h
 | [_],h=>by simp [cM] at h
 | k::v::r,h=>by
  unfold cM at h;rcases List.mem_append.1 h with h|h
  ·cases hp:p k.N with
   |false=>rw [hp] at h;cases h
   |true=>rw [hp] at h;simp at h;rcases h with h|h<;>simp [h]
  have:=xc h;simp [this]
def cV (N:Nat)(l:List Int)(c:Ra):Ra:=bif km N c then ⟨c.Kind,c.Shape,c.Flags,c.Age,c.Slots,cM (fun x=>decide (x∈l)) c.More⟩ else c
theorem JS (N:Nat)(hN:5000<N)(l:List Int)(hl:l.length≤5000)(y:Ra)(k v:Q5)(s:List Q5)(hs:s.length≤5000):da (fun x st=>iI N (fun x=>gZ N x l) y x st) (k,v) (none,s)=some (true,(none,s++(bif decide (k.N∈l) then [k,v] else []))):=by
 unfold da iI gZ;simp only [bs,og N hN l hl];cases decide (k.N∈l)
 ·simp only [cf,List.append_nil];rfl
 simp only [ct];rw [rF (by simp;omega)];rfl
theorem D2 (N:Nat)(hN:5000<N)(l:List Int)(hl:l.length≤5000)(y c:Ra)(hc:c.More.length≤1000)(he:c.More.length%2=0): ∀(m i:Nat) (s:List Q5),c.More.length<m+i→i≤c.More.length→i%2=0→s.length≤i→el N (da (fun x st=>iI N (fun x=>gZ N x l) y x st)) c m (i:Int) (none,s)=some (none,s++cM (fun x=>decide (x∈l)) (c.More.drop i))
 |0,i,s,h,h2,_,_=>by omega
 | m+1,i,s,h,h2,h3,h4=>by
  rw [el.eq_2,r64 (a:=(i:Int)+1) Y Y];by_cases hi:i<c.More.length
  ·have hi1:i+1<c.More.length:=by omega
   have hl1:aM c.More ((i:Int)+1)=some c.More[i+1]:=by
    have:=bf hi1;simpa using this
   rw [cF Y,ct,bf hi,bs,r64 (a:=(i:Int)+1) Y Y,hl1,bs,JS N hN l hl y _ _ s Y,bs];simp only [nt,cf];rw [r64 Y Y]
   have hlen:(s++(bif decide (c.More[i].N∈l) then [c.More[i],c.More[i+1]] else [])).length≤i+2:=by
    cases decide (c.More[i].N∈l)<;>simp<;>omega
   have:=D2 N hN l hl y c hc he m (i+2) _ Y Y Y hlen;simp only [Int.natCast_add,Int.cast_ofNat_Int] at this;rw [this,List.drop_eq_getElem_cons hi,List.drop_eq_getElem_cons hi1,Rn];rfl
  rw [cD Y,cf,List.drop_eq_nil_of_le Y];simp [cM]
theorem CX (N:Nat)(hN:5000<N)(l:List Int)(hl:l.length≤5000)(c:Ra)(hS:c.Slots.length≤600)(hc:c.More.length≤600):jt N c l=some (bif km N c then cV N l c else Bn):=by
 obtain ⟨-,h1,h2⟩:=Fg N Y c Y Y;unfold jt tZ ie cV;rw [h1,bs];cases hw:km N c
 ·rfl
 have e:kF N c=some ():=rfl;have:=D2 N hN l hl c c Y (h2 hw) N 0 [] Y Y rfl (by simp);simp only [nt,cf,ct,e,bs,mI N c ⟨hS,hc⟩];have h3:el N (da (fun x st=>iI N (fun x=>gZ N x l) c x st)) c N 0 (none,[])=some (none,[]++cM (fun x=>decide (x∈l)) (c.More.drop 0)):=this;rw [h3,bs];rfl
theorem CY (N:Nat)(l:List Int)(c:Ra):(cV N l c).Slots.length=c.Slots.length∧(cV N l c).More.length≤c.More.length:=by
 unfold cV;cases km N c
 ·exact ⟨U,Nat.le_refl _⟩
 exact ⟨U,C0 _ _⟩
theorem xb {N:Nat}{l:List Int}{c:Ra}{v:Q5}(h:v∈(cV N l c).Slots++(cV N l c).More):v∈c.Slots++c.More:=by
 unfold cV at h;cases hw:km N c
 ·rw [hw] at h;exact h
 rw [hw] at h;rcases List.mem_append.1 h with h|h
 ·exact Rp _ h
 exact Rq _ (xc h)
def qE (N:Nat)(c:Ra):Bool:=decide (c.Kind=10)&&(cP N c).getD false
def ck (N:Nat)(c:Ra):Ra:=bif qE N c then ⟨c.Kind,c.Shape,c.Flags,c.Age,c.Slots,c.More.take 1⟩ else c
theorem Kh (N:Nat)(c:Ra):(ck N c).Slots.length=c.Slots.length∧(ck N c).More.length≤c.More.length:=by
 unfold ck;cases qE N c
 ·exact ⟨U,Nat.le_refl _⟩
 exact ⟨U,by show (c.More.take 1).length≤_;rw [List.length_take];omega⟩
theorem Kg {N:Nat}{c:Ra}{v:Q5}(h:v∈(ck N c).Slots++(ck N c).More):v∈c.Slots++c.More:=by
 unfold ck at h;cases hw:qE N c
 ·rw [hw] at h;exact h
 rw [hw] at h;rcases List.mem_append.1 h with h|h
 ·exact Rp _ h
 exact Rq _ (List.mem_of_mem_take h)
def dc (N:Nat)(m:Rg):Rg:=⟨m.Young.map (ck N),m.Old.map (ck N)⟩
theorem Small.cell {m:Rg}{roots:List Q5}(hs:Small m roots){c:Ra}(h:c∈m.Young++m.Old):c.Slots.length≤600∧c.More.length≤600:=hs.cells c h
theorem AB (N:Nat)(m:Rg)(a:Int):fk (dc N m) a=(fk m a).map (ck N):=by
 unfold fk dc;split
 ·rfl
 split<;>simp
theorem mH (N:Nat)(m:Rg):br (dc N m)=br m:=by
 funext a;unfold br;rw [AB];cases fk m a<;>rfl
theorem sC (N:Nat)(m:Rg)(a:Int)(h:br m a=true):bU (dc N m) a=ck N (bU m a):=by
 unfold bU;rw [AB];unfold br at h
 cases hc:fk m a with
 |none=>rw [hc] at h;cases h
 |some c=>rfl
theorem Small.bare {m:Rg}{roots:List Q5}(hs:Small m roots)(N:Nat):Small (dc N m) roots:=by
 refine ⟨by unfold dc;simpa using hs.young,by unfold dc;simpa using hs.old,hs.roots,fun c hc=> ?_⟩;unfold dc at hc;rw [←List.map_append] at hc;obtain ⟨d,hd,rfl⟩:=List.mem_map.1 hc;have h1:=hs.cell hd;have h2:=Kh N d;omega
theorem W64.bare {m:Rg}(hw:W64 m)(N:Nat):W64 (dc N m):=fun c hc v hv=>by
 unfold dc at hc;rw [←List.map_append] at hc;obtain ⟨d,hd,rfl⟩:=List.mem_map.1 hc;exact hw d hd v (Kg hv)
theorem yp {m:Rg}{roots:List Q5}(hs:Small m roots){x:Int}(h:br m x=true):in64 x:=by
 have h2:=qj h;have h3:=vH hs h;unfold in64;omega
theorem Jz {f:Nat→Q5→Bool}{x:Int}{k:Nat}: ∀{i:Nat} {l:List Q5},x∈pick f i (l.take k)→x∈pick f i l:=by
 induction k with
 |zero=>intro i l h;simp [pick] at h
 | succ k ih=>
  intro i l h
  cases l with
  |nil=>exact h
  |cons v l=>
   rw [List.take_succ_cons,gy] at h;rw [gy];rcases List.mem_append.1 h with h|h
   ·exact Rp _ h
   exact Rq _ (ih h)
theorem Hz {N:Nat}{c:Ra}{x:Int}(h:x∈bL (ck N c)):x∈bL c:=by
 unfold ck at h;cases hw:qE N c
 ·rw [hw] at h;exact h
 rw [hw] at h;unfold bL at h⊢;rcases List.mem_append.1 h with h|h
 ·exact Rp _ h
 exact Rq _ (Jz h)
theorem Cm {p q:Int→Bool}(hpq: ∀x,p x=true→q x=true){x:Int}: ∀{l:List Q5},x∈opens p l→x∈opens q l
 | [],h=>by simp [opens] at h
 | [_],h=>by simp [opens] at h
 | k::v::r,h=>by
  rw [iL] at h⊢;rcases List.mem_append.1 h with h|h
  ·refine Rp _ ?_
   cases hk:p k.N with
   |false=>rw [hk,Bool.and_false] at h;cases h
   |true=>rw [hk] at h;rw [hpq _ hk];exact h
  exact Rq _ (Cm hpq h)
theorem Hm {N:Nat}{c:Ra}{row l:List Int}(hr: ∀x∈row,x∈l){x:Int}(h:x∈ca N (ck N c) row):x∈ca N c l:=by
 unfold ck at h;cases hw:qE N c
 ·rw [hw] at h;unfold ca at h⊢;cases hm:km N c
  ·rw [cf,hm] at h;cases h
  rw [cf,hm] at h;exact Cm (fun x hx=>by simp at hx⊢;exact hr x hx) h
 exfalso;rw [hw] at h
 have h10:c.Kind=10:=by unfold qE at hw;simp at hw;exact hw.1
 unfold ca km at h;rw [ct,fK (by show c.Kind≠8;omega)] at h;cases h
def lB:Q5:=⟨0,0,⟨#[]⟩⟩
def ex (l:List Int):List Q5→List Q5
 |t::h::k::s::r=>(bif decide (t.N∈l) then [t,h,(bif decide (k.Kind=7)&& !decide (k.N∈l) then lB else k),s] else [])++ex l r
 |_=> []
def ig (l:List Int)(cb:Q5):List Q5→List Q5
 |t::h::_::s::r=>(bif decide (t.N∈l) then [] else [cb,h,s])++ig l cb r
 |_=> []
theorem sX (l:List Int)(t h k s:Q5)(r:List Q5):ex l (t::h::k::s::r)=(bif decide (t.N∈l) then [t,h,(bif decide (k.Kind=7)&& !decide (k.N∈l) then lB else k),s] else [])++ex l r:=Eq.trans rfl rfl
theorem wL (l:List Int)(cb t h k s:Q5)(r:List Q5):ig l cb (t::h::k::s::r)=(bif decide (t.N∈l) then [] else [cb,h,s])++ig l cb r:=Eq.trans rfl rfl
theorem oJ (p:Int→Bool)(k v:Q5)(r:List Q5):cM p (k::v::r)=(bif p k.N then [k,v] else [])++cM p r:=Eq.trans rfl rfl
theorem Lc (l:List Int)(cb:Q5): ∀xs:List Q5,(ex l xs).length+(ig l cb xs).length≤xs.length
 | []=>by simp [ex,ig]
 | [_]=>by simp [ex,ig]
 | [_,_]=>by simp [ex,ig]
 | [_,_,_]=>by simp [ex,ig]
 |t::h::k::s::r=>by
  have:=Lc l cb r;unfold ex ig;cases decide (t.N∈l)<;>simp<;>omega
def tg (l:List Int)(c:Ra):Ra×List Q5:=(⟨c.Kind,c.Shape,c.Flags,c.Age,c.Slots,c.More.take 1++ex l (c.More.drop 1)⟩,ig l (c.More.headD lB) (c.More.drop 1))
theorem P8 {l:List Q5}(h:4≤l.length): ∃t a k s r,l=t::a::k::s::r:=by
 match l,h with
 |t::a::k::s::r,_=>exact ⟨t,a,k,s,r,rfl⟩
theorem Gu (N:Nat)(hN:5000<N)(l:List Int)(p:List (Int×Bool))(hp: ∀x,(lk p x).getD false=decide (x∈l))(c y:Ra)(cb:Q5)(hcb:c.More[0]? =some cb)(hc:c.More.length≤1000): ∀(m i:Nat) (o t:List Q5),c.More.length<m+i→i≤c.More.length→(c.More.length - i)%4=0→o.length≤i→t.length≤i→fI N (da (fun x st=>fj N c p y x st)) c m (i:Int) (none,(o,t))=some (none,(o++ex l (c.More.drop i),t++ig l cb (c.More.drop i)))
 |0,i,o,t,h,h2,_,_,_=>by omega
 | m +1,i,o,t,h,h2,h3,h4,h5=>by
  rw [fI.eq_2,r64 (a:=(i:Int)+4) Y Y];by_cases hi:i+4≤c.More.length
  ·obtain ⟨v1,v2,v3,v4,r,hd⟩:=P8 (l:=c.More.drop i) (by rw [List.length_drop];omega)
   have hd4:c.More.drop (i+4)=r:=by rw [←List.drop_drop,hd];rfl
   have hx:(c.More.drop (i:Int).toNat).take (((i:Int)+4).toNat - (i:Int).toNat)=[v1,v2,v3,v4]:=by
    rw [Int.toNat_natCast,show ((i:Int)+4).toNat - i=4 by omega,hd];rfl
   have h0:aM c.More 0=some cb:=by
    have:=lX c.More 0;rw [hcb] at this;exact this
   have e0:aM [v1,v2,v3,v4] 0=some v1:=rfl;have e1:aM [v1,v2,v3,v4] 1=some v2:=rfl;have e2:aM [v1,v2,v3,v4] 2=some v3:=rfl;have e3:aM [v1,v2,v3,v4] 3=some v4:=rfl;rw [La Y,ct,r64 Y Y,r64 Y Y,kw ⟨by omega,by omega,by omega,by omega⟩,hx]
   have hb:da (fun x st=>fj N c p y x st) ((i:Int),[v1,v2,v3,v4]) (none,(o,t))=some (true,(none,(o++(bif decide (v1.N∈l) then [v1,v2,(bif decide (v3.Kind=7)&& !decide (v3.N∈l) then lB else v3),v4] else []),t++(bif decide (v1.N∈l) then [] else [cb,v2,v4])))):=by
    unfold da fj;simp only [e0,e1,e2,e3,bs,hp,h0];unfold lx;simp only [e0,e1,e2,e3,bs];cases decide (v1.N∈l)
    ·simp only [nf,ct,cf,List.append_nil];rw [rF (by simp;omega)];rfl
    simp only [nt,ct,cf,List.append_nil];rw [rF (by simp;omega),rF (by simp;omega)];cases decide (v3.Kind=7)<;>cases decide (v3.N∈l)<;>rfl
   rw [hb,bs];simp only [nt,cf];rw [r64 Y Y];have:=Gu N hN l p hp c y cb hcb hc m (i+4) (o++(bif decide (v1.N∈l) then [v1,v2,(bif decide (v3.Kind=7)&& !decide (v3.N∈l) then lB else v3),v4] else [])) (t++(bif decide (v1.N∈l) then [] else [cb,v2,v4])) Y hi Y (by cases decide (v1.N∈l)<;>simp<;>omega) (by cases decide (v1.N∈l)<;>simp<;>omega);rw [show (((i+4:Nat)):Int)=(i:Int)+4 by omega] at this;rw [this,hd4,hd,Rn,Rn];rfl
  rw [Lb Y,cf,List.drop_eq_nil_of_le Y];simp [ex,ig]
theorem Nb (N:Nat)(hN:2000<N)(c:Ra)(hS:c.Slots.length≤1000)(hc:c.More.length≤1000):rf N c=some (qE N c)∧(qE N c=true→1≤c.More.length∧(c.More.length - 1)%4=0):=by
 obtain ⟨b,hb,hb2⟩:=rZ N hN c hS hc;unfold rf qE;rw [ue N hN c hS hc,hb];refine ⟨by cases decide (c.Kind=10)<;>cases b<;>rfl,fun h=> ?_⟩;rw [Bool.and_eq_true,decide_eq_true_eq] at h;exact (hb2 h.2).2 h.1
theorem wF (N:Nat)(hN:5000<N)(l:List Int)(hl:l.length≤5000)(c:Ra)(hS:c.Slots.length≤600)(hc:c.More.length≤600):jg N c l=some (bif qE N c then tg l c else (Bn,[])):=by
 obtain ⟨h1,h2⟩:=Nb N Y c Y Y;unfold jg;rw [h1,bs];cases hw:qE N c
 ·rfl
 obtain ⟨g1,g2⟩:=h2 hw;simp only [nt,cf,ct]
 have hcb:c.More[0]? =some (c.More.headD lB):=by
  cases hm:c.More with
  |nil=>rw [hm] at g1;simp at g1
  |cons a r=>rfl
 apply Sat.eq;refine cI (fun k i (s:List (Int×Bool))=>gF N l c k (i:Int) s) l.length (fun i s=> ∀x,(lk s x).getD false=decide (x∈l.take i)) _ ?_ ?_ N 0 [] Y Y (fun x=>by simp;rfl)
 ·intro k i s hi h3 go;show Sat (gF N l c (k+1) (i:Int) s) _;rw [gF.eq_2,cF Y,ct,bf hi,bs,r64 Y Y]
  refine go _ fun x=> ?_
  rw [Gj,bh hi];by_cases e:l[i]=x
  ·rw [if_pos e,Rk (by simp [e])];rfl
  rw [if_neg e,h3 x];by_cases hm:x∈l.take i
  ·rw [Rk hm,Rk (Rp _ hm)]
  rw [Rl hm,Rl (by simp only [List.mem_append,List.mem_singleton];exact fun h=>h.elim hm fun h=>e h.symm)]
 intro k s h3;show Sat (gF N l c (k+1) _ s) _;rw [List.take_length] at h3;rw [gF.eq_2,cD Y,cf];unfold nT rO cU nS lM
 have h0:aM c.More 0=some (c.More.headD lB):=by
  have:=lX c.More 0;rw [hcb] at this;exact this
 rw [rF (by simp;omega),bs,h0,bs,bs,bs];have:=Gu N hN l s h3 c ⟨c.Kind,c.Shape,c.Flags,c.Age,[]++c.Slots,[c.More.headD lB]⟩ _ hcb Y N 1 [c.More.headD lB] [] Y g1 g2 (by simp) (by simp);have this':fI N (da (fun x st=>fj N c s ⟨c.Kind,c.Shape,c.Flags,c.Age,[]++c.Slots,[c.More.headD lB]⟩ x st)) c N 1 (none,([c.More.headD lB],[]))=_:=this;rw [this',bs];refine aR ?_
 have ht:c.More.take 1=[c.More.headD lB]:=by
  cases hm:c.More with
  |nil=>rw [hm] at g1;simp at g1
  |cons a r=>rfl
 unfold tg;rw [ht];rfl
def tN (a:Int):Bool:=decide (a.tmod 2=0)
def Dq (a:Int):Bool:=decide (a.tmod 2=1)
def mV (live:List Int):List Int:=live.filter tN++live.filter Dq
theorem vJ {p:Int→Bool}: ∀{l:List Int} {i:Nat} (hi:i<l.length),p l[i]=true→(l.filter p)[((l.take i).filter p).length]? =some l[i]
 |x::l,0,hi,h=>by
  simp only [List.getElem_cons_zero] at h;simp [h]
 |x::l,i+1,hi,h=>by
  simp only [List.getElem_cons_succ] at h;have ih:=vJ (l:=l) (i:=i) (by simpa using hi) h;rw [List.take_succ_cons]
  cases hx:p x with
  |true=>simp only [List.filter_cons,hx,if_true,List.length_cons,List.getElem?_cons_succ,List.getElem_cons_succ];exact ih
  |false=>simp only [List.filter_cons,hx,Bool.false_eq_true,if_false,List.getElem_cons_succ];exact ih
theorem Gv {p:Int→Bool}{l:List Int}{i:Nat}(hi:i<l.length):((l.take (i+1)).filter p).length=((l.take i).filter p).length+(bif p l[i] then 1 else 0):=by
 rw [bh hi,List.filter_append,List.length_append];cases h:p l[i]<;>simp [h]
theorem Cj (N:Nat){σ:Type}(φ:Int×Int→σ→Option (Option Exit×σ))(live:List Int)(hl:live.length≤2000)(hN:5000<N)(kb:Int→Int→Option Exit×σ→Option (Option Exit×σ))(b:Int)(p:Int→Bool)(hp: ∀a,p a=decide (a.tmod 2=b))(p6:Int)(h6:0≤p6∧p6≤2)(n0:Nat)(hn0:n0≤2000)
  (Inv:Nat→σ→Prop) (R:Option Exit×σ→Prop)
  (hstep: ∀i (hi:i<live.length) s,p live[i]=true→Inv (n0+((live.take i).filter p).length) s→Sat (φ (((n0+((live.take i).filter p).length:Nat):Int),live[i]) s) fun r=>r.1=none∧Inv (n0+((live.take i).filter p).length+1) r.2)
  (hk: ∀s,Inv (n0+(live.filter p).length) s→Sat (kb ((n0+(live.filter p).length:Nat):Int) (p6+1) (none,s)) R) (s:σ) (hs:Inv n0 s):Sat (dg N kb (da φ) b p6 live N (n0:Int) 0 (none,s)) R:=by
 have hfl: ∀i,((live.take i).filter p).length≤2000:=fun i=>Nat.le_trans (List.length_filter_le _ _) (by rw [List.length_take];omega)
 refine cI (fun k i (st:Nat×σ)=>dg N kb (da φ) b p6 live k (st.1:Int) (i:Int) (none,st.2)) live.length (fun i st=>st.1=n0+((live.take i).filter p).length∧Inv st.1 st.2) _ ?_ ?_ N 0 (n0,s) Y Y ⟨by simp,hs⟩
 ·rintro k i ⟨n,st⟩ hi ⟨h1,h2⟩ go;simp only at h1 h2;have hb:=hfl i;show Sat (dg N kb (da φ) b p6 live (k+1) (n:Int) (i:Int) (none,st)) _;have hnx:=Gv (p:=p) hi;rw [dg.eq_2,cF Y,ct,bf hi,bs, ←hp];unfold jD;rw [r64 (a:=(i:Int)+1) Y Y];cases hq:p live[i]
  ·simp only [nf,ct];rw [hq] at hnx;have hg:=go (n,st) ⟨by show n=_;rw [hnx];exact h1,h2⟩
   first|rw [r64 (a:=(i:Int)+1) Y Y]|skip
   exact hg
  simp only [nt,cf];rw [hq] at hnx;obtain ⟨⟨e,s'⟩,g1,g2,g3⟩:=hstep i hi st hq (by rw [←h1];exact h2);simp only at g2 g3;subst g2
  have hf:da φ ((n:Int),live[i]) (none,st)=some (true,(none,s')):=by
   unfold da;simp only;rw [h1,g1];rfl
  rw [hf,bs];simp only [nt,cf];rw [r64 (a:=(n:Int)+1) Y Y];have hg:=go (n+1,s') ⟨by show n+1=_;rw [hnx];show n+1=_+(_+1);omega,by show Inv (n+1) s';rw [h1];exact g3⟩
  first|rw [r64 (a:=(i:Int)+1) Y Y]|skip
  exact hg
 rintro k ⟨n,st⟩ ⟨h1,h2⟩;simp only [List.take_length] at h1 h2;show Sat (dg N kb (da φ) b p6 live (k+1) (n:Int) _ (none,st)) _;rw [dg.eq_2,cD Y,cf];unfold nc;rw [r64 Y Y,h1];exact hk st (by rw [←h1];exact h2)
theorem Ck (N:Nat){σ:Type}(φ:Int×Int→σ→Option (Option Exit×σ))(live:List Int)(hl:live.length≤2000)(hN:5000<N)
  (Inv:Nat→σ→Prop) (hstep: ∀n a s,(mV live)[n]? =some a→Inv n s→Sat (φ ((n:Int),a) s) fun r=>r.1=none∧Inv (n+1) r.2) (s:σ) (hs:Inv 0 s):Sat (ew N live (da φ) (none,s)) fun r=>r.1=none∧Inv (mV live).length r.2:=by
 obtain ⟨k,rfl⟩: ∃k,N=k+3:=⟨N - 3,by omega⟩;have hev:(live.filter tN).length≤2000:=Nat.le_trans (List.length_filter_le _ _) hl;unfold ew;rw [eP.eq_2,show ((([0,1]:List Int).length:Int))=2 from rfl,cF Y,ct,show aM ([0,1]:List Int) 0=some 0 from rfl,bs];refine Cj (k+3) φ live hl Y _ 0 tN (fun _=>U) 0 Y 0 Y Inv _ (fun i hi st hp hi2=> ?_) (fun st hst=> ?_) s hs
 ·refine hstep _ _ _ ?_ hi2;unfold mV;rw [List.getElem?_append_left]
  ·rw [Nat.zero_add];exact vJ hi hp
  have:=(List.getElem?_eq_some_iff.1 (vJ hi hp)).1;omega
 rw [eP.eq_2,show ((([0,1]:List Int).length:Int))=2 from rfl,cF Y,ct,show aM ([0,1]:List Int) (0+1)=some 1 from rfl,bs];refine Cj (k+3) φ live hl Y _ 1 Dq (fun _=>U) (0+1) Y (0+(live.filter tN).length) Y Inv _ (fun i hi st hp hi2=> ?_) (fun st hst=> ?_) st hst
 ·refine hstep _ _ _ ?_ hi2;unfold mV;rw [List.getElem?_append_right Y,show 0+(live.filter tN).length+((live.take i).filter Dq).length - (live.filter tN).length=((live.take i).filter Dq).length by omega];exact vJ hi hp
 rw [eP.eq_2,show ((([0,1]:List Int).length:Int))=2 from rfl,cD Y,cf];refine aR ⟨U,?_⟩;unfold mV;rw [List.length_append]
 have e:0+(live.filter tN).length+(live.filter Dq).length=(live.filter tN).length+(live.filter Dq).length:=by omega
 rw [←e];exact hst
def J8 (ha hb:Int→Bool)(A B:List Int)(v w:Q5):Bool:=
 bif !bM v|| !bM w then decide (v=w)
 else decide (v.Kind=w.Kind)&&(v.S.toList==w.S.toList)&&(bif !decide (v.N∈A)|| !decide (w.N∈B) then !decide (v.N∈A)&& !decide (w.N∈B)&&(ha v.N==hb w.N) else decide (A.idxOf v.N=B.idxOf w.N))
def wG (ha hb:Int→Bool)(A B:List Int)(x y:List Q5):Bool:=decide (x.length=y.length)&&(x.zip y).all fun p=>J8 ha hb A B p.1 p.2
def GF (ha hb:Int→Bool)(A B:List Int)(c d:Ra):Bool:=decide (c.Kind=d.Kind)&&decide (c.Shape=d.Shape)&&decide (c.Flags=d.Flags)&&wG ha hb A B c.Slots d.Slots&&wG ha hb A B c.More d.More
def va (N:Nat)(a:Rg)(x:List Q5)(A:List Int)(b:Rg)(y:List Q5)(B:List Int):Bool:=
 decide (A.length=B.length)&&wG (br a) (br b) A B x y&&(A.zip B).all fun p=>GF (br a) (br b) A B (cV N A (bU a p.1)) (cV N B (bU b p.2))
def Qy (kv:List (Int×Int))(l:List Int):Prop:= ∀x,lk kv x=if x∈l then some (l.idxOf x:Int) else none
structure SideOk (m:Rg) (x:List Q5) (A:List Int):Prop where
 small:Small m x
 w64:W64 m
 x64: ∀v∈x,in64 v.N
 len:A.length≤1200
 nd:A.Nodup
 has: ∀a∈A,br m a=true
theorem SideOk.in64 {m:Rg}{x:List Q5}{A:List Int}(h:SideOk m x A){a:Int}(ha:a∈A):Go.Proofs.YtmimkglhbmcokaaGreat.in64 a:=yp h.small (h.has a ha)
theorem SideOk.cell {m:Rg}{x:List Q5}{A:List Int}(h:SideOk m x A)(N:Nat)(a:Int):((bU m a).Slots.length≤600∧(bU m a).More.length≤600)∧((cV N A (bU m a)).Slots.length≤600∧(cV N A (bU m a)).More.length≤600)∧(∀v∈(cV N A (bU m a)).Slots,Go.Proofs.YtmimkglhbmcokaaGreat.in64 v.N)∧ ∀v∈(cV N A (bU m a)).More,Go.Proofs.YtmimkglhbmcokaaGreat.in64 v.N:=by
 have h1:=h.small.at_ a;have h2:=CY N A (bU m a);exact ⟨h1,by omega,fun v hv=>h.w64.at_ _ v (xb (Rp _ hv)),fun v hv=>h.w64.at_ _ v (xb (Rq _ hv))⟩
theorem DO (N:Nat)(x:Int)(l:List Int)(hl:l.length<N)(hl2:l.length≤5000):oz N l x=some (if x∈l then ((l.idxOf x:Nat):Int) else -1):=by
 have key: ∀k i:Nat,l.length<k+i→i≤l.length→pi N x l k (i:Int)=some (if x∈l.drop i then (((i+(l.drop i).idxOf x:Nat)):Int) else -1):=by
  intro k
  induction k with
  |zero=>intro i h1 h2;omega
  | succ k ih=>
   intro i h1 h2;rw [pi.eq_2];by_cases hi:i<l.length
   ·have h3:=ih (i+1) Y hi;rw [show (((i+1:Nat)):Int)=(i:Int)+1 by omega] at h3;rw [cF Y,ct,bf hi,bs,List.drop_eq_getElem_cons hi,r64 Y Y,h3,List.idxOf_cons];by_cases e:l[i]=x
    ·rw [Rk e,ct,if_pos (by simp [e]),beq_iff_eq.2 e,cond_true,Nat.add_zero]
    rw [Rl e,cf];by_cases hm:x∈l.drop (i+1)
    ·rw [if_pos hm,if_pos (List.mem_cons_of_mem _ hm),beq_eq_false_iff_ne.2 e,cond_false,show i+1+(l.drop (i+1)).idxOf x=i+((l.drop (i+1)).idxOf x+1) by omega]
    rw [if_neg hm,if_neg (fun h=>(List.mem_cons.1 h).elim (fun h=>e h.symm) hm)]
   rw [cD Y,cf,List.drop_eq_nil_of_le Y];rfl
 have:=key N 0 Y Y;unfold oz;simpa using this
theorem D6 {v w:Q5}(h:v.Kind=w.Kind):bM v=bM w:=by unfold bM;rw [h]
theorem G2 (N:Nat)(a b:Q9)(hA:a.Order.length<N)(hA2:a.Order.length≤5000)(hB:b.Order.length<N)(hB2:b.Order.length≤5000)(hs1: ∀x∈a.Order,br a.M x=true)(hs2: ∀x∈b.Order,br b.M x=true)(x y:List Q5)(hx:x.length<N)(hx2:x.length≤5000)(h1: ∀v∈x,in64 v.N)(h2: ∀v∈y,in64 v.N):il N a x b y=some (wG (br a.M) (br b.M) a.Order b.Order x y):=by
 unfold il wG;refine Kr (fun k i=>kN N x y a b k i) x y (fun p=>J8 (br a.M) (br b.M) a.Order b.Order p.1 p.2) (fun k i h h'=> ?_) (fun k=> ?_) N hx
 ·rw [kN.eq_2,cF Y,ct,bf h,bf h'];simp only [bs];have g1:=h1 x[i] (List.getElem_mem _);have g2:=h2 y[i] (List.getElem_mem _);generalize x[i]=v at*;generalize y[i]=w at*;rw [oE v];simp only [bs,Ba N _ _ g1,Ba N _ _ g2,DO N v.N a.Order hA hA2,DO N w.N b.Order hB hB2];rw [r64 Y Y];unfold J8;cases q1:bM v
  ·simp only [cf,nf,ct,bs,Bool.true_or];cases decide (v=w)<;>rfl
  cases q2:bM w
  ·have hk:v.Kind≠w.Kind:=fun e=>by rw [D6 e,q2] at q1;cases q1
   have hne:v≠w:=fun e=>hk (by rw [e])
   rw [Rl hk,Rl hne];rfl
  simp only [nt,cf,bs,ct,Bool.or_self];cases decide (v.Kind=w.Kind)
  ·rfl
  cases (v.S.toList==w.S.toList)
  ·rfl
  simp only [nt,cf,bs,Bool.true_and];by_cases m1:v.N∈a.Order<;>by_cases m2:w.N∈b.Order
  ·rw [hs1 _ m1,hs2 _ m2,if_pos m1,if_pos m2,Rk m1,Rk m2]
   have e:decide (((a.Order.idxOf v.N:Nat):Int)=((b.Order.idxOf w.N:Nat):Int))=decide (a.Order.idxOf v.N=b.Order.idxOf w.N):=by
    by_cases e:a.Order.idxOf v.N=b.Order.idxOf w.N
    ·rw [Rk e,Rk Y]
    rw [Rl e,Rl Y]
   rw [e];cases decide (a.Order.idxOf v.N=b.Order.idxOf w.N)<;>rfl
  ·rw [hs1 _ m1,if_pos m1,if_neg m2,Rk m1,Rl m2];rw [Rl (p:=((a.Order.idxOf v.N:Nat):Int)= -1) Y];cases br b.M w.N<;>rfl
  ·rw [hs2 _ m2,if_neg m1,if_pos m2,Rl m1,Rk m2];rw [Rl (p:=(-1:Int)=((b.Order.idxOf w.N:Nat):Int)) Y];cases br a.M v.N<;>rfl
  rw [if_neg m1,if_neg m2,Rl m1,Rl m2];rw [Rk (p:=(-1:Int)= -1) rfl];cases br a.M v.N<;>cases br b.M w.N<;>rfl
 show kN N x y a b (k+1) _=_;rw [kN.eq_2,cD Y,cf];rfl
def wD (p:Int→Bool):List Q5→List Bool
 |k::_::r=>p k.N::wD p r
 |_=> []
theorem D3 (p:Int→Bool): ∀l:List Q5,l.length%2=0→2*(wD p l).length=l.length
 | [],_=>rfl
 | [_],h=>by simp at h
 |k::v::r,h=>by
  have:=D3 p r (by simp at h;omega);simp [wD];omega
theorem BI (N:Nat)(hN:5000<N)(l:List Int)(hl:l.length≤5000)(c:Ra)(hc:c.More.length≤1000)(he:c.More.length%2=0): ∀(m i:Nat) (s:List Bool),c.More.length<m+i→i≤c.More.length→i%2=0→s.length≤i→lT N l c m s (i:Int)=nX N c (s++wD (fun x=>decide (x∈l)) (c.More.drop i))
 |0,i,s,h,h2,_,_=>by omega
 | m+1,i,s,h,h2,h3,h4=>by
  rw [lT.eq_2];by_cases hi:i<c.More.length
  ·have hi1:i+1<c.More.length:=by omega
   rw [cF Y,ct,bf hi,bs,PG N hN l hl,bs,rF (by simp;omega),r64 Y Y];have:=BI N hN l hl c hc he m (i+2) (s++ [decide (c.More[i].N∈l)]) Y Y Y (by simp;omega);rw [show (((i+2:Nat)):Int)=(i:Int)+2 by omega] at this;rw [this,List.drop_eq_getElem_cons hi,List.drop_eq_getElem_cons hi1,Rn];rfl
  rw [cD Y,cf,List.drop_eq_nil_of_le Y];simp [wD]
theorem Gn (p:Int→Bool): ∀(l:List Q5) (j:Nat) (h:2*j+1<l.length),(wD p l)[j]? =some (p (l[2*j]'Y).N)
 |k::v::r,0,_=>rfl
 |k::v::r,j+1,h=>by
  have:=Gn p r j (by simp at h;omega);simp only [wD,List.getElem?_cons_succ];rw [this];simp only [show 2*(j+1)=2*j+1+1 by omega,List.getElem_cons_succ]
 | [_],j,h=>by simp at h
 | [],j,h=>by simp at h
theorem wq (N:Nat)(p:Int→Bool)(c y:Ra)(hc:c.More.length≤1000)(he:c.More.length%2=0)(hN:5000<N): ∀(m j:Nat) (s:List Q5),c.More.length<2*(m+j)→2*j≤c.More.length→s.length≤2*j→fZ N (wD p c.More) c y m (j:Int) s=oT N y (s++cM p (c.More.drop (2*j)))
 |0,j,s,h,h2,_=>by omega
 | m+1,j,s,h,h2,h3=>by
  have hk:=D3 p c.More he;rw [fZ.eq_2];by_cases hj:2*j<c.More.length
  ·have hj1:2*j+1<c.More.length:=by omega
   have hjk:j<(wD p c.More).length:=by omega
   have e0:=Gn p c.More j hj1;rw [List.getElem?_eq_getElem hjk,Option.some.injEq] at e0;rw [cF Y,ct,bf hjk,bs,e0]
   have g0:aM c.More (2*(j:Int))=some c.More[2*j]:=by
    have:=bf hj;rwa [show (((2*j:Nat)):Int)=2*(j:Int) by omega] at this
   have g1:aM c.More (2*(j:Int)+1)=some c.More[2*j+1]:=by
    have:=bf hj1;rwa [show (((2*j+1:Nat)):Int)=2*(j:Int)+1 by omega] at this
   unfold md
   have step:=fun s' (hs':s'.length≤2*(j+1))=>wq N p c y hc he hN m (j+1) s' Y Y hs'
   rw [show (((j+1:Nat)):Int)=(j:Int)+1 by omega] at step
   have hd:cM p (c.More.drop (2*j))=(bif p c.More[2*j].N then [c.More[2*j],c.More[2*j+1]] else [])++cM p (c.More.drop (2*(j+1))):=by
    rw [List.drop_eq_getElem_cons hj,List.drop_eq_getElem_cons hj1];rfl
   rw [hd];cases p c.More[2*j].N
   ·rw [cf,cf,r64 Y Y,step s Y];rfl
   rw [ct,ct,r64 (a:=2*(j:Int)) Y Y,g0,bs,r64 (a:=2*(j:Int)) Y Y,r64 (a:=2*(j:Int)+1) Y Y,g1,bs,rF (by simp;omega),r64 Y Y,step _ (by simp;omega),Rn]
  rw [cD Y,cf,List.drop_eq_nil_of_le Y];simp [cM]
theorem J9 (N:Nat)(hN:5000<N)(l:List Int)(hl:l.length≤5000)(c:Ra)(hS:c.Slots.length≤600)(hc:c.More.length≤600):qX N c l=some (bif km N c then cV N l c else Bn):=by
 obtain ⟨h1, -,h2⟩:=Fg N Y c Y Y;unfold qX cV;rw [h1,bs];cases hw:km N c
 ·rfl
 have e1:=BI N hN l hl c Y (h2 hw) N 0 [] Y Y rfl (by simp);have e2:=wq N (fun x=>decide (x∈l)) c c Y (h2 hw) hN N 0 [] Y Y (by simp);have e1':lT N l c N [] 0=_:=e1;have e2':fZ N (wD (fun x=>decide (x∈l)) c.More) c c N 0 []=_:=e2
 have ec:pj N c=some c:=by
  unfold pj;rw [rF (by simp;omega),rF (by simp;omega)];rfl
 simp only [nt,cf,ct];rw [e1'];unfold nX rI;rw [ec,bs];simp only [List.drop_zero,List.nil_append];rw [e2'];rfl
theorem Ay (N:Nat)(hN:5000<N)(l:List Int)(hl:l.length≤5000)(c:Ra)(hS:c.Slots.length≤600)(hc:c.More.length≤600):lS N c l=some (cV N l c):=by
 have h0:=J9 N hN l hl c hS hc;unfold lS;rw [h0];unfold cV km;obtain ⟨b,hb, -⟩:=rZ N Y c Y Y;rw [hb];cases decide (c.Kind=8)<;>cases b<;>rfl
theorem DD (N:Nat)(hN:5000<N)(l:List Ra)(hl:l.length≤1000)(hc: ∀c∈l,c.Slots.length≤600∧c.More.length≤600):oy N l=some (l.map (ck N)):=by
 apply Sat.eq;unfold oy;refine cI (fun k i (s:List Ra)=>im N l k s (i:Int)) l.length (fun i s=>s=(l.take i).map (ck N)) _ ?_ ?_ N 0 [] Y Y U
 ·rintro k i s hi h1 go;show Sat (im N l (k+1) s (i:Int)) _;have hci:=hc l[i] (List.getElem_mem _)
  have hsl:s.length≤i:=by rw [h1];simp;omega
  have hnext:s++ [ck N l[i]]=(l.take (i+1)).map (ck N):=by rw [bh hi,List.map_append, ←h1];rfl
  rw [im.eq_2,cF Y,ct,bf hi,bs];obtain ⟨b,hb,hb2⟩:=rZ N Y l[i] Y Y;rw [hb]
  have he:((bif decide (l[i].Kind=10) then ((some b).bind fun y17=>some y17) else some false):Option Bool)=some (qE N l[i]):=by
   unfold qE;rw [hb];cases decide (l[i].Kind=10)<;>cases b<;>rfl
  rw [he,bs];unfold nV;cases hw:qE N l[i]
  ·rw [cf,rF (by simp;omega),r64 Y Y];refine go _ ?_;rw [←hnext];unfold ck;rw [hw];rfl
  have hb1:b=true∧l[i].Kind=10:=by
   unfold qE at hw;rw [hb] at hw;cases b<;>simp at hw;exact ⟨U,hw⟩
  have h1m:=((hb2 hb1.1).2 hb1.2).1;rw [ct,xA ⟨by omega,by omega,by show (1:Int).toNat≤_;exact h1m⟩,rF (by simp;omega),r64 Y Y];refine go _ ?_;rw [←hnext];unfold ck;rw [hw];rfl
 rintro k s h1;show Sat (im N l (k+1) s _) _;rw [im.eq_2,cD Y,cf];exact aR (by rw [h1,List.take_length])
theorem FX (N:Nat)(hN:5000<N){m:Rg}{roots:List Q5}(hs:Small m roots){L:List Int}(ho:io N (dc N m) roots=some L):mr N m roots=some ⟨dc N m,L⟩:=by
 have h1:=hs.young;have h2:=hs.old;unfold mr;rw [DD N hN m.Young Y fun c hc=>hs.cell (Rp _ hc),bs,DD N hN m.Old Y fun c hc=>hs.cell (Rq _ hc),bs];have ho':io N ⟨m.Young.map (ck N),m.Old.map (ck N)⟩ roots=some L:=ho;rw [ho',bs];rfl
theorem Ki (N:Nat)(hN:5000<N){a b A B:Rg}{x y:List Q5}{LA LB:List Int}(ba:mr N a x=some ⟨A,LA⟩)(bb:mr N b y=some ⟨B,LB⟩)(sA:SideOk A x LA)(sB:SideOk B y LB):fB N a x b y=some (va N A x LA B y LB):=by
 have hA:=sA.len;have hB:=sB.len;have hx:=sA.small.roots;have hy:=sB.small.roots;unfold fB;rw [ba,bs,bb,bs];simp only
 have hv:=fun x y h1 h2 h3 h4 (_:True)=>G2 N ⟨A,LA⟩ ⟨B,LB⟩ (by show LA.length<N;omega) (by show LA.length≤5000;omega) (by show LB.length<N;omega) (by show LB.length≤5000;omega) sA.has sB.has x y h1 h2 h3 h4
 by_cases hl: ¬LA.length=LB.length
 ·rw [Rl Y];unfold va;rw [Rl hl];rfl
 replace hl:LA.length=LB.length:=by omega
 have hz:(LA.zip LB).length=LA.length:=by rw [List.length_zip];omega
 have hloop:jZ N N 0 A.Young A.Old LA B.Young B.Old LB=some ((LA.zip LB).all fun p=>GF (br A) (br B) LA LB (cV N LA (bU A p.1)) (cV N LB (bU B p.2))):=by
  refine uM (fun k i=>jZ N k i A.Young A.Old LA B.Young B.Old LB) (LA.zip LB) _ (fun k i h=> ?_) (fun k=> ?_) N Y
  ·have hi:i<LA.length:=by omega
   have hi':i<LB.length:=by omega
   obtain ⟨c1,c2,c3,c4⟩:=sA.cell N LA[i];obtain ⟨d1,d2,d3,d4⟩:=sB.cell N LB[i];have e1:mU N ⟨A.Young,A.Old⟩ LA[i]=some (bU A LA[i]):=FI N A _ (sA.in64 (List.getElem_mem _));have e2:mU N ⟨B.Young,B.Old⟩ LB[i]=some (bU B LB[i]):=FI N B _ (sB.in64 (List.getElem_mem _));rw [jZ.eq_2,cF Y,ct,bf hi,bs,e1,bs,Ay N hN LA Y _ c1.1 c1.2,bs,bf hi',bs,e2,bs,Ay N hN LB Y _ d1.1 d1.2,bs,List.getElem_zip];simp only;generalize cV N LA (bU A LA[i])=c at*;generalize cV N LB (bU B LB[i])=d at*;have v1:il N ⟨⟨A.Young,A.Old⟩,LA⟩ c.Slots ⟨⟨B.Young,B.Old⟩,LB⟩ d.Slots=_:=hv c.Slots d.Slots Y Y c3 d3 trivial;have v2:il N ⟨⟨A.Young,A.Old⟩,LA⟩ c.More ⟨⟨B.Young,B.Old⟩,LB⟩ d.More=_:=hv c.More d.More Y Y c4 d4 trivial;rw [v1,v2,r64 Y Y];unfold GF;simp only [bs];cases decide (c.Kind=d.Kind)<;>cases decide (c.Shape=d.Shape)<;>cases decide (c.Flags=d.Flags)<;>cases wG (br A) (br B) LA LB c.Slots d.Slots<;>cases wG (br A) (br B) LA LB c.More d.More<;>rfl
  show jZ N (k+1) _ A.Young A.Old LA B.Young B.Old LB=_;rw [hz,jZ.eq_2,cD Y,cf];rfl
 have v0:=hv x y Y Y sA.x64 sB.x64 trivial;rw [Rk (p:=(LA.length:Int)=(LB.length:Int)) Y,v0,hloop];unfold va;rw [Rk hl];simp only [nt,cf,bs];cases wG (br A) (br B) LA LB x y<;>rfl
def cO (c:Ra):List Int:=bL c++kq c
def pM (N:Nat)(c:Ra):Bool:=(cP N c).getD false
theorem Kk (c:Ra):(cO c).length≤c.Slots.length+2*c.More.length:=by
 have h1:=jE c;have h2:=mA c;unfold cO;rw [List.length_append];omega
theorem yt: ∀l:List Ra,(l.flatMap cO).length≤2*wt l
 | []=>by simp [wt]
 |c::l=>by
  have h1:=yt l;have h2:=Kk c;rw [List.flatMap_cons,List.length_append,wt];omega
theorem Ht (N:Nat)(m:Rg)(l:List Int)(hl:l.length<N)(hl2:l.length≤5000)(h64: ∀x∈l,in64 x):bJ N l (fun x=>gz N x m)=some (!d9 m l):=by
 have key: ∀k i:Nat,l.length<k+i→i≤l.length→Sat (dJ N (fun x=>gz N x m) l k (i:Int)) fun r=>decide (0≤r)=!(l.drop i).all (br m):=by
  intro k
  induction k with
  |zero=>intro i h1 h2;omega
  | succ k ih=>
   intro i h1 h2;rw [dJ.eq_2];by_cases hi:i<l.length
   ·have h3:=ih (i+1) Y hi;rw [show (((i+1:Nat)):Int)=(i:Int)+1 by omega] at h3;rw [cF Y,ct,bf hi,bs,List.drop_eq_getElem_cons hi,List.all_cons];unfold gz;rw [sw N m _ (h64 _ (List.getElem_mem _)),bs,bs,r64 Y Y];cases br m l[i]
    ·exact aR (by rw [Rk Y];rfl)
    exact h3
   rw [cD Y,cf,List.drop_eq_nil_of_le Y];exact aR U
 obtain ⟨r,h1,h2⟩:=key N 0 Y Y;have h1':dJ N (fun x=>gz N x m) l N 0=some r:=h1;unfold bJ ju;rw [h1',bs,h2];unfold d9;simp
def np (N:Nat)(m:Rg)(roots:List Q5):Int:=
 bif (m.Young++m.Old).all (pM N) then bif d9 m ((m.Young++m.Old).flatMap cO++ce roots) then 0 else 50 else 51
theorem C2 (N:Nat)(hN:5000<N){m:Rg}{roots:List Q5}(hs:Small m roots)(ht:Wtd m roots)(hw:W64 m)(hr: ∀v∈roots,in64 v.N):ke N m roots=some (np N m roots):=by
 have hle:=ht.le;have h1:=hs.young;have h2:=hs.old;have h3:=hs.roots
 have a64: ∀(l:List Ra),(∀c∈l,c∈m.Young++m.Old)→ ∀x∈l.flatMap cO,in64 x:=fun l hl x hx=>by
  obtain ⟨c,hc,hx⟩:=List.mem_flatMap.1 hx;obtain ⟨⟨-,g1⟩, -,g2⟩:=yW hs hw (hl c hc);exact (List.mem_append.1 hx).elim (g1 x) (g2 x)
 have r64': ∀x∈ce roots,in64 x:=fun x hx=>by
  obtain ⟨v,h1, -,rfl⟩:=lA.1 hx;exact hr v h1
 have hal: ∀k,(ce (roots.take k)).length≤roots.length:=fun k=>by
  unfold ce;rw [List.length_map];exact Nat.le_trans (List.length_filter_le _ _) (by rw [List.length_take];omega)
 -- the roots
 have hroots: ∀q:List Int,q.length+roots.length≤4800→(∀x∈q,in64 x)→ng N roots m q=some (bif d9 m (q++ce roots) then 0 else 50):=by
  intro q hq q64;apply Sat.eq;unfold ng;refine cI (fun k i (s:List Int)=>fd N roots m k s (i:Int)) roots.length (fun i s=>s=q++ce (roots.take i)) _ ?_ ?_ N 0 q Y Y (by simp [ce])
  ·rintro k i s hi h1 go;show Sat (fd N roots m (k+1) s (i:Int)) _
   have hnext:q++ce (roots.take (i+1))=s++ce [roots[i]]:=by rw [bh hi,vT,h1,Rn]
   have hsl:s.length≤4800:=by have:=hal i;rw [h1,List.length_append];omega
   rw [fd.eq_2,cF Y,ct,bf hi,bs,oE,bs];unfold mf;cases hb:bM roots[i]
   ·rw [cf,r64 Y Y];exact go s (by rw [hnext];simp [ce,hb])
   rw [ct,rF (by simp;omega),r64 Y Y];exact go _ (by rw [hnext];simp [ce,hb])
  rintro k s h1;show Sat (fd N roots m (k+1) s _) _;rw [List.take_length] at h1
  have hsl:s.length≤4800:=by have:=hal roots.length;rw [List.take_length] at this;rw [h1,List.length_append];omega
  rw [fd.eq_2,cD Y,cf];unfold oU;rw [Ht N m s Y Y (fun x hx=>by rw [h1] at hx;exact (List.mem_append.1 hx).elim (q64 x) (r64' x)),bs, ←h1];cases d9 m s<;>exact aR rfl
 -- one row
 have row: ∀(kb:List Int→Int→Option Int) (p:Int) (l:List Ra) (q:List Int),in64 (p+1)→l.length≤600→wt l≤2400→(∀c∈l,c∈m.Young++m.Old)→q.length≤5000→jR N kb m p l roots N q 0=bif l.all (pM N) then kb (q++l.flatMap cO) (p+1) else some 51:=by
  intro kb p l q hp hll hl hl2 hq
  have key: ∀(k i:Nat),l.length<k+i→i≤l.length→jR N kb m p l roots k (q++(l.take i).flatMap cO) (i:Int)=bif (l.drop i).all (pM N) then kb (q++l.flatMap cO) (p+1) else some 51:=by
   intro k
   induction k with
   |zero=>intro i h1 h2;omega
   | succ k ih=>
    intro i h4 h5;have hfl:=yt (l.take i)
    have hwt:wt (l.take i)≤wt l:=by
     have:=Bo (l.take i) (l.drop i);rw [List.take_append_drop] at this;omega
    by_cases hi:i<l.length
    ·have hm:=hl2 l[i] (List.getElem_mem _);have hc:=hs.cells _ hm;have hwi:=Mu hi
     have hwt2:wt (l.take (i+1))≤wt l:=by
      have:=Bo (l.take (i+1)) (l.drop (i+1));rw [List.take_append_drop] at this;omega
     obtain ⟨b,hb, -⟩:=rZ N Y l[i] Y Y
     have hrc:pM N l[i]=b:=by unfold pM;rw [hb];rfl
     have e1:=jE l[i];have e2:=mA l[i];have h6:=ih (i+1) Y hi;rw [show (((i+1:Nat)):Int)=(i:Int)+1 by omega] at h6;rw [jR.eq_2,cF Y,ct,bf hi,bs,ue N Y _ Y Y,hb,bs,ms N Y _ Y Y,bs,List.length_append,rF Y,qH N Y _ Y Y,bs,List.length_append,List.length_append,rF Y,r64 Y Y]
     have hap:q++(l.take i).flatMap cO++bL l[i]++kq l[i]=q++(l.take (i+1)).flatMap cO:=by
      rw [bh hi,List.flatMap_append];simp [cO,Rn]
     rw [hap,h6,List.drop_eq_getElem_cons hi,List.all_cons,hrc];cases b<;>rfl
    have e:i=l.length:=by omega
    subst e;rw [jR.eq_2,cD Y,cf,List.drop_length,List.take_length];unfold oV;rw [kw hp];rfl
  have:=key N 0 Y Y;simpa using this
 have hwy:wt m.Young≤2400:=by omega
 have hwo:wt m.Old≤2400:=by omega
 have hfy:=yt m.Young;have hfo:=yt m.Old;obtain ⟨k,rfl⟩: ∃k,N=k+3:=⟨N - 3,by omega⟩;unfold ke np;rw [kW.eq_2,show ((([m.Young,m.Old]:List (List Ra)).length:Int))=2 from rfl,cF Y,ct,show aM ([m.Young,m.Old]:List (List Ra)) 0=some m.Young from rfl,bs,row _ 0 m.Young [] (by unfold in64;omega) h1 hwy (fun c hc=>Rp _ hc) (by simp)];rw [kW.eq_2,show ((([m.Young,m.Old]:List (List Ra)).length:Int))=2 from rfl,cF Y,ct,show aM ([m.Young,m.Old]:List (List Ra)) (0+1)=some m.Old from rfl,bs,List.nil_append,row _ (0+1) m.Old (m.Young.flatMap cO) (by unfold in64;omega) h2 hwo (fun c hc=>Rq _ hc) Y]
 rw [kW.eq_2,show ((([m.Young,m.Old]:List (List Ra)).length:Int))=2 from rfl,cD Y,cf,hroots _ (by rw [List.length_append];omega) (fun x hx=>by
  rw [←List.flatMap_append] at hx
  exact a64 _ (fun c hc=>hc) x hx),List.all_append,List.flatMap_append]
 cases m.Young.all (pM (k+3))<;>cases m.Old.all (pM (k+3))<;>rfl
def lg (f:List Int)(a:Int):Int:=2*((f.idxOf a:Nat):Int)+2
def bR (ρ:Int→Int)(f:List Int)(v:Q5):Q5:=bif bM v&&decide (v.N∈f) then ⟨v.Kind,ρ v.N,v.S⟩ else v
def f0 (ρ:Int→Int)(f:List Int)(c:Ra):Ra:=⟨c.Kind,c.Shape,c.Flags,c.Age,c.Slots.map (bR ρ f),c.More.map (bR ρ f)⟩
def RhoM (kv:List (Int×Int))(f:List Int):Prop:= ∀x,lk kv x=if x∈f then some (lg f x) else none
theorem sS (N:Nat)(hN:5000<N)(l:List Q5)(hl:l.length≤5000)(kv:List (Int×Int))(f:List Int)(hk:RhoM kv f):ed N l kv=some (l.map (bR (lg f) f)):=by
 apply Sat.eq;unfold ed;refine cI (fun k i (s:List Q5)=>fE N l kv k s (i:Int)) l.length (fun i s=>s=(l.take i).map (bR (lg f) f)) _ ?_ ?_ N 0 [] Y Y U
 ·rintro k i s hi h1 go;show Sat (fE N l kv (k+1) s (i:Int)) _
  have hsl:s.length≤i:=by rw [h1,List.length_map,List.length_take];omega
  have hnext:(l.take (i+1)).map (bR (lg f) f)=s++ [bR (lg f) f l[i]]:=by rw [bh hi,List.map_append,h1];rfl
  rw [fE.eq_2,cF Y,ct,bf hi,bs,hk l[i].N,oE];unfold me;by_cases hm:l[i].N∈f
  ·rw [if_pos hm];simp only [bs,Option.isSome_some,ct];cases hb:bM l[i]
   ·rw [cf,rF (by simp;omega),r64 Y Y];refine go _ ?_;rw [hnext];unfold bR;rw [hb];rfl
   rw [ct,rF (by simp;omega),r64 Y Y];refine go _ ?_;rw [hnext];unfold bR;rw [hb,Rk hm];rfl
  rw [if_neg hm];simp only [bs,Option.isSome_none,cf];rw [rF (by simp;omega),r64 Y Y];refine go _ ?_;rw [hnext];unfold bR;rw [Rl hm,Bool.and_false];rfl
 rintro k s h1;show Sat (fE N l kv (k+1) s _) _;rw [fE.eq_2,cD Y,cf];exact aR (by rw [h1,List.take_length])
def jp (N:Nat)(l:List Int)(c:Ra):Ra:=bif decide (c.Kind=8) then cV N l c else bif decide (c.Kind=10) then (tg l c).1 else c
def ga (l:List Int)(c:Ra):List Q5:=bif decide (c.Kind=10) then (tg l c).2 else []
theorem oh (N:Nat)(l:List Int)(c:Ra):(jp N l c).Slots.length=c.Slots.length∧(jp N l c).More.length+(ga l c).length≤c.More.length:=by
 unfold jp ga;by_cases h8:c.Kind=8
 ·rw [Rk h8,Rl (p:=c.Kind=10) Y];have:=CY N l c;simp only [cond_true,cond_false,List.length_nil];omega
 rw [Rl h8];by_cases h10:c.Kind=10
 ·rw [Rk h10];have:=Lc l (c.More.headD lB) (c.More.drop 1);rw [List.length_drop] at this;unfold tg;refine ⟨U,?_⟩;show (c.More.take 1++ex l (c.More.drop 1)).length+(ig l (c.More.headD lB) (c.More.drop 1)).length≤c.More.length;rw [List.length_append,List.length_take]
  cases hm:c.More with
  |nil=>rw [hm] at this;simp [ex,ig]
  |cons a r=>rw [hm] at this;simp only [List.length_cons] at this⊢;omega
 rw [Rl h10];simp
theorem RhoM.nil:RhoM [] []:=fun x=>rfl
theorem RhoM.add {kv:List (Int×Int)}{i:Nat}{f:List Int}(hi:i<f.length)(h:RhoM kv (f.take i))(hn:f.Nodup):RhoM (tW kv f[i] (2*(i:Int)+2)) (f.take (i+1)):=by
 intro x
 have hlen:(f.take i).length=i:=by rw [List.length_take];omega
 have hni:f[i]∉f.take i:=by
  intro hm;obtain ⟨j,hj,e⟩:=List.getElem_of_mem hm;rw [List.length_take] at hj;rw [List.getElem_take] at e;exact List.pairwise_iff_getElem.1 (List.nodup_iff_pairwise_ne.1 hn) j i Y hi Y e
 rw [Gj,bh hi];unfold lg;rw [List.idxOf_append];by_cases e:f[i]=x
 ·rw [if_pos e, ←e,if_pos (Rq _ (by simp)),if_neg hni];simp [hlen]
 rw [if_neg e,h x];by_cases hm:x∈f.take i
 ·rw [if_pos hm,if_pos (Rp _ hm),if_pos hm];rfl
 rw [if_neg hm,if_neg (by simp only [List.mem_append,List.mem_singleton];exact fun hh=>hh.elim hm fun hh=>e hh.symm)]
structure Coll where
 next:Rg
 now:List Q5
 gone:List Q5
def GG (N:Nat)(m:Rg)(roots:List Q5)(live f:List Int):Coll:=
 ⟨⟨[],f.map fun a=>f0 (lg f) f (jp N live (bU m a))⟩,roots.map (bR (lg f) f),(f.flatMap fun a=>ga live (bU m a)).map (bR (lg f) f)⟩
structure Mild (g:Q5→Q5):Prop where
 z:g vZ=vZ
 kind: ∀v,(g v).Kind=v.Kind
 num: ∀v,v.Kind=3→g v=v
 may: ∀v,pk v=true→pk (g v)=true
section
variable {g:Q5→Q5} (h:Mild g)
include h
theorem Mild.at_ (l:List Q5)(i:Nat):o5 (l.map g) i=g (o5 l i):=by
 unfold o5;simp only [List.getD,List.getElem?_map]
 cases l[i]? with
 |none=>exact h.z.symm
 |some v=>rfl
theorem Mild.numB (v:Q5)(a b:Int):Go.Proofs.YtmimkglhbmcokaaGreat.numB (g v) a b=Go.Proofs.YtmimkglhbmcokaaGreat.numB v a b:=by
 unfold Go.Proofs.YtmimkglhbmcokaaGreat.numB;by_cases h3:v.Kind=3
 ·rw [h.num v h3]
 rw [h.kind,Rl h3];rfl
theorem Mild.noneB (v:Q5)(k:Int):Go.Proofs.YtmimkglhbmcokaaGreat.noneB (g v) k=Go.Proofs.YtmimkglhbmcokaaGreat.noneB v k:=by
 unfold Go.Proofs.YtmimkglhbmcokaaGreat.noneB;rw [h.kind]
theorem Mild.ent2: ∀l:List Q5,nG (l.map g)=nG l
 | []=>rfl
 | [_]=>rfl
 |k::v::r=>by
  simp only [List.map_cons];simp only [jJ];rw [h.kind,h.kind,Mild.ent2 r]
theorem Mild.ent4: ∀l:List Q5,kD (l.map g)=kD l
 | []=>rfl
 | [_]=>rfl
 | [_,_]=>rfl
 | [_,_,_]=>rfl
 |t::v::k::s::r=>by
  simp only [List.map_cons];simp only [lc];rw [h.kind,h.kind,h.noneB,h.numB,Mild.ent4 r]
theorem Mild.slots (k sh fl:Int)(l:List Q5):oO k sh fl (l.map g)=oO k sh fl l:=by
 unfold oO;simp only [List.length_map,h.at_,h.kind,h.noneB]
theorem Mild.more (k:Int)(l:List Q5):pX k (l.map g)=pX k l:=by
 unfold pX;rw [←List.map_drop,h.ent2,h.ent4];simp only [List.length_map,h.at_,h.kind,h.noneB,h.numB]
theorem Mild.all {l:List Q5}(hl:l.all pk=true):(l.map g).all pk=true:=by
 rw [List.all_eq_true] at hl⊢;intro v hv;obtain ⟨w,hw,rfl⟩:=List.mem_map.1 hv;exact h.may w (hl w hw)
theorem Mild.right {c:Ra}(hc:dz c=true):dz ⟨c.Kind,c.Shape,c.Flags,c.Age,c.Slots.map g,c.More.map g⟩=true:=by
 unfold dz at hc⊢;simp only [Bool.and_eq_true] at hc;obtain ⟨h1,h2,h3,h4,h5⟩:=hc;simp only [h.slots,h.more,h.all h2,h.all h3,h4,h5,Bool.and_true];simp only [Bool.and_eq_true];exact h1
end
theorem If {v:Q5}(hb:bM v=true):pk v=((v.S.toList==(⟨#[]⟩:ByteArray).toList)&&decide (1≤v.N)):=by
 have hk:v.Kind=7∨v.Kind=9:=by
  unfold bM at hb;rw [Bool.or_eq_true,decide_eq_true_eq,decide_eq_true_eq] at hb;exact hb
 unfold pk gx;rcases hk with hk|hk<;>rw [hk]<;>cases (v.S.toList==(⟨#[]⟩:ByteArray).toList)<;>rfl
structure Ren (ρ:Int→Int) (f:List Int):Prop where
 inj: ∀a b,a∈f→b∈f→ρ a=ρ b→a=b
 pos: ∀a∈f,1≤ρ a
theorem KX {ρ:Int→Int}{f:List Int}(hρ:Ren ρ f):Mild (bR ρ f) where
 z:=rfl
 kind v:=by unfold bR;cases bM v&&decide (v.N∈f)<;>rfl
 num v h:=by
  have:bM v=false:=by unfold bM;rw [h];rfl
  unfold bR;rw [this];rfl
 may v h:=by
  cases hb:bM v&&decide (v.N∈f) with
  |false=>unfold bR;rw [hb];exact h
  |true=>
   have hb0:=(Bool.and_eq_true _ _▸hb:bM v=true∧decide (v.N∈f)=true);have hb1:=hb0.1
   have e:bR ρ f v=⟨v.Kind,ρ v.N,v.S⟩:=by unfold bR;rw [hb];rfl
   have hb2:bM (⟨v.Kind,ρ v.N,v.S⟩:Q5)=true:=hb1;rw [e,If hb2];rw [If hb1,Bool.and_eq_true] at h;rw [Bool.and_eq_true];exact ⟨h.1,Rk (hρ.pos _ (of_decide_eq_true hb0.2))⟩
theorem JL {ρ:Int→Int}{f:List Int}(hρ:Ren ρ f){c:Ra}(h:dz c=true):dz (f0 ρ f c)=true:=(KX hρ).right h
theorem ud {c:Ra}(h:dz c=true):c.Slots.all pk=true∧c.More.all pk=true∧pX c.Kind c.More=true:=by
 unfold dz at h;simp only [Bool.and_eq_true] at h;exact ⟨h.2.1,h.2.2.1,h.2.2.2.2⟩
theorem BJ {c:Ra}(h:dz c=true){m:List Q5}(h1:m.all pk=true)(h2:pX c.Kind m=true):dz ⟨c.Kind,c.Shape,c.Flags,c.Age,c.Slots,m⟩=true:=by
 unfold dz at h⊢;simp only [Bool.and_eq_true] at h;obtain ⟨g1,g2,g3,g4,g5⟩:=h;simp only [g2,h1,g4,h2,Bool.and_true];simp only [Bool.and_eq_true];exact g1
theorem CU (p:Int→Bool): ∀{l:List Q5},nG l=true→nG (cM p l)=true
 | [],_=>rfl
 | [_],h=>by cases h
 |k::v::r,h=>by
  rw [jJ] at h;rw [Bool.and_eq_true] at h;have ih:=CU p h.2;simp only [oJ];cases p k.N
  ·exact ih
  show nG (k::v::cM p r)=true;simp only [jJ];rw [h.1,ih];rfl
theorem Ei (lv:List Int): ∀{l:List Q5},kD l=true→kD (ex lv l)=true
 | [],_=>rfl
 | [_],h=>by cases h
 | [_,_],h=>by cases h
 | [_,_,_],h=>by cases h
 | t::v::k::s::r,h=>by
  rw [lc] at h;rw [Bool.and_eq_true,Bool.and_eq_true,Bool.and_eq_true,Bool.and_eq_true] at h;obtain ⟨⟨⟨h1,h2⟩,h3,h4⟩,h5⟩:=h;have ih:=Ei lv h5;simp only [sX];cases decide (t.N∈lv)
  ·exact ih
  show kD (t::v::(bif decide (k.Kind=7)&& !decide (k.N∈lv) then lB else k)::s::ex lv r)=true;simp only [lc]
  have h6:noneB (bif decide (k.Kind=7)&& !decide (k.N∈lv) then lB else k) 7=true:=by
   cases decide (k.Kind=7)&& !decide (k.N∈lv)
   ·exact h3
   rfl
  rw [h1,h2,h6,h4,ih];rfl
theorem CG (lv:List Int){x:Q5}: ∀{l:List Q5},x∈ex lv l→x∈l∨x=lB
 | [],h=>by simp [ex] at h
 | [_],h=>by simp [ex] at h
 | [_,_],h=>by simp [ex] at h
 | [_,_,_],h=>by simp [ex] at h
 | t::v::k::s::r,h=>by
  simp only [sX] at h;rcases List.mem_append.1 h with h|h
  ·cases hd:decide (t.N∈lv) with
   |false=>rw [hd] at h;cases h
   |true=>
    rw [hd] at h
    cases hk:decide (k.Kind=7)&& !decide (k.N∈lv) with
    |false=>rw [hk] at h;simp at h;rcases h with h|h|h|h<;>subst h<;>simp
    |true=>rw [hk] at h;simp at h;rcases h with h|h|h|h<;>subst h<;>simp
  rcases CG lv h with h|h
  ·exact .inl (by simp [h])
  exact .inr h
theorem K4:pk lB=true:=by kernel_rfl
theorem Kb (N:Nat)(lv:List Int){c:Ra}(h:dz c=true):dz (jp N lv c)=true:=by
 obtain ⟨h1,h2,h3⟩:=ud h;unfold jp;by_cases h8:c.Kind=8
 ·rw [nn h8,cond_true];unfold cV;cases km N c
  ·exact h
  refine BJ h (m:=cM (fun x=>decide (x∈lv)) c.More) ?_ ?_
  ·rw [List.all_eq_true] at h2⊢
   exact fun v hv=>h2 v (xc hv)
  rw [h8] at h3⊢;exact CU _ h3
 rw [fK h8,cond_false];by_cases h10:c.Kind=10
 ·rw [nn h10,cond_true];rw [h10] at h3;have h3':(decide (1≤c.More.length)&&decide ((o5 c.More 0).Kind=7)&&kD (c.More.drop 1))=true:=h3;simp only [Bool.and_eq_true,decide_eq_true_eq] at h3';obtain ⟨⟨g1,g2⟩,g3⟩:=h3';refine BJ h (m:=c.More.take 1++ex lv (c.More.drop 1)) ?_ ?_
  ·rw [List.all_eq_true] at h2⊢;intro v hv;rcases List.mem_append.1 hv with hv|hv
   ·exact h2 v (List.mem_of_mem_take hv)
   rcases CG lv hv with hv|rfl
   ·exact h2 v (List.mem_of_mem_drop hv)
   exact K4
  rw [h10];show (decide (1≤(c.More.take 1++ex lv (c.More.drop 1)).length)&&decide ((o5 (c.More.take 1++ex lv (c.More.drop 1)) 0).Kind=7)&&kD ((c.More.take 1++ex lv (c.More.drop 1)).drop 1))=true
  obtain ⟨a,r,hr⟩: ∃a r,c.More=a::r:=by
   cases hm:c.More with
   |nil=>rw [hm] at g1;simp at g1
   |cons a r=>exact ⟨a,r,rfl⟩
  rw [hr] at g2 g3⊢;have e1:(a::r).take 1++ex lv ((a::r).drop 1)=a::ex lv r:=rfl;rw [e1];have g3':kD r=true:=g3;have g2':a.Kind=7:=g2;simp only [Bool.and_eq_true,decide_eq_true_eq];exact ⟨⟨by simp,g2'⟩,Ei lv g3'⟩
 rw [fK h10,cond_false];exact h
end
section
open Go.RowKit
structure MapG (g g':Gr) (ρ:Int→Int) (S:Int→Prop):Prop where
 inj: ∀a b,S a→S b→ρ a=ρ b→a=b
 has: ∀a,S a→g.has a=true∧g'.has (ρ a)=true
 leads: ∀a,S a→g'.leads (ρ a)=(g.leads a).map ρ∧ ∀x∈g.leads a,S x
 opens: ∀row a,(∀x∈row,S x)→S a→g'.opens (row.map ρ) (ρ a)=(g.opens row a).map ρ∧ ∀x∈g.opens row a,S x
theorem Fb {ρ:Int→Int}{S:Int→Prop}(inj: ∀a b,S a→S b→ρ a=ρ b→a=b){l:List Int}(hl: ∀x∈l,S x){a:Int}(ha:S a):ρ a∈l.map ρ↔a∈l:=by
 constructor
 ·intro h;obtain ⟨b,hb,e⟩:=List.mem_map.1 h;exact inj b a (hl b hb) ha e▸hb
 exact fun h=>List.mem_map.2 ⟨a,h,U⟩
theorem MapG.lay {g g':Gr}{ρ:Int→Int}{S:Int→Prop}(h:MapG g g' ρ S): ∀(l row:List Int),(∀x∈row,S x)→(∀x∈l,S x)→dn g'.has (row.map ρ) (l.map ρ)=(dn g.has row l).map ρ∧ ∀x∈dn g.has row l,S x
 | [],row,hr,_=>⟨rfl,hr⟩
 | x::l,row,hr,hl=>by
  have hx:=hl x (by simp);obtain ⟨h1,h2⟩:=h.has x hx;rw [List.map_cons];unfold dn;rw [h1,h2,Bool.true_and,Bool.true_and];by_cases hm:x∈row
  ·rw [Rk hm,Rk ((Fb h.inj hr hx).2 hm)]
   exact h.lay l row hr fun y hy=>hl y (by simp [hy])
  rw [Rl hm,Rl fun hh=>hm ((Fb h.inj hr hx).1 hh)]
  have:=h.lay l (row++ [x]) (fun y hy=>(List.mem_append.1 hy).elim (hr y) fun hy=>by rw [List.mem_singleton] at hy;subst hy;exact hx) fun y hy=>hl y (by simp [hy])
  rw [List.map_append] at this;exact this
theorem MapG.thr {g g':Gr}{ρ:Int→Int}{S:Int→Prop}(h:MapG g g' ρ S){row r:List Int}{k:Nat}(ht:Thr g row k r):(∀x∈row,S x)→Thr g' (row.map ρ) k (r.map ρ)∧ ∀x∈r,S x:=by
 induction ht with
 |done hk=>exact fun hr=>⟨.done (by simpa using hk),hr⟩
 |step ha _ ih=>
  rename_i row k a r _
  intro hr;have hS:=hr a (List.mem_of_getElem? ha);obtain ⟨l1,l2⟩:=h.leads a hS;obtain ⟨g1,g2⟩:=h.lay (g.leads a) row hr l2;obtain ⟨t1,t2⟩:=ih g2;refine ⟨.step (a:=ρ a) (by rw [List.getElem?_map,ha];rfl) ?_,t2⟩;rw [l1,g1];exact t1
theorem MapG.pass {g g':Gr}{ρ:Int→Int}{S:Int→Prop}(h:MapG g g' ρ S): ∀(avs row:List Int),(∀x∈row,S x)→(∀x∈avs,S x)→kx g' (row.map ρ) (avs.map ρ)=(kx g row avs).map ρ∧ ∀x∈kx g row avs,S x
 | [],row,hr,_=>⟨rfl,hr⟩
 |a::avs,row,hr,hl=>by
  obtain ⟨l1,l2⟩:=h.opens row a hr (hl a (by simp));obtain ⟨g1,g2⟩:=h.lay (g.opens row a) row hr l2;rw [List.map_cons];unfold kx;rw [l1,g1]
  exact h.pass avs _ g2 fun y hy=>hl y (by simp [hy])
theorem MapG.ord {g g':Gr}{ρ:Int→Int}{S:Int→Prop}(h:MapG g g' ρ S){row r:List Int}(ht:Ord g row r):(∀x∈row,S x)→Ord g' (row.map ρ) (r.map ρ)∧ ∀x∈r,S x:=by
 induction ht with
 |done hp=>
  intro hr;obtain ⟨g1, -⟩:=h.pass _ _ hr hr;exact ⟨.done (by rw [g1,hp]),hr⟩
 | step hp h1 _ ih=>
  rename_i row r1 r _
  intro hr;obtain ⟨g1,g2⟩:=h.pass _ _ hr hr;obtain ⟨t1,t2⟩:=h.thr h1 g2;obtain ⟨o1,o2⟩:=ih t2;refine ⟨.step (r1:=r1.map ρ) ?_ ?_ o1,o2⟩
  ·rw [g1];intro e;apply hp;obtain ⟨t,e2⟩:=pu g row row;have e3:=congrArg List.length e;rw [List.length_map,List.length_map,e2,List.length_append] at e3;have:t=[]:=List.eq_nil_of_length_eq_zero Y;rw [e2,this,List.append_nil]
  rw [g1,List.length_map];exact t1
theorem MapG.isOrder {g g':Gr}{ρ:Int→Int}{S:Int→Prop}(h:MapG g g' ρ S){roots b l:List Int}(ho:IsOrder g roots b l)(hr: ∀x∈roots,S x):IsOrder g' (roots.map ρ) (b.map ρ) (l.map ρ)∧ ∀x∈l,S x:=by
 obtain ⟨h1,h2⟩:=ho;obtain ⟨g1,g2⟩:=h.lay roots [] (fun _ h=>by cases h) hr;obtain ⟨t1,t2⟩:=h.thr h1 g2;obtain ⟨o1,o2⟩:=h.ord h2 t2;refine ⟨⟨?_,o1⟩,o2⟩;have g1':dn g'.has [] (roots.map ρ)=(dn g.has [] roots).map ρ:=g1;rw [g1'];exact t1
def cE {α:Type}(g:α→Nat):List α→Nat
 | []=>0
 |a::l=>g a+cE g l
theorem pE {α:Type}(g:α→Nat): ∀a b:List α,cE g (a++b)=cE g a+cE g b
 | [],b=>by simp [cE]
 |c::a,b=>by rw [List.cons_append,cE,cE,pE g a b];omega
theorem Jk {α:Type}(g:α→Nat){a b:List α}(h:a.Perm b):cE g a=cE g b:=by
 induction h with
 |nil=>rfl
 |cons x _ ih=>rw [cE,cE,ih]
 |swap x y l=>rw [cE,cE,cE,cE];omega
 |trans _ _ h1 h2=>rw [h1,h2]
theorem ot (g:Int→Nat): ∀{l L:List Int},l.Nodup→(∀x∈l,x∈L)→cE g l≤cE g L
 | [],_,_,_=>Nat.zero_le _
 |a::l,L,hn,hs=>by
  obtain ⟨h1,h2⟩:=List.nodup_cons.1 hn;have hp:=List.perm_cons_erase (hs a (by simp));rw [Jk g hp,cE,cE]
  have:=ot g (l:=l) (L:=L.erase a) h2 fun x hx=>(List.mem_erase_of_ne (fun e:x=a=>h1 (by rw [←e];exact hx))).2 (hs x (by simp [hx]))
  omega
theorem lO {α β:Type}(g:β→Nat)(f:α→β): ∀l:List α,cE g (l.map f)=cE (fun x=>g (f x)) l
 | []=>rfl
 |x::l=>by rw [List.map_cons,cE,cE,lO g f l]
theorem xv {α:Type}{g h:α→Nat}: ∀{l:List α},(∀x∈l,g x≤h x)→cE g l≤cE h l
 | [],_=>Nat.le_refl _
 |x::l,hh=>by
  rw [cE,cE];have h1:=hh x (by simp)
  have h2:=xv (l:=l) fun y hy=>hh y (by simp [hy])
  omega
theorem uQ {α β:Type}(f:α→List β): ∀l:List α,(l.flatMap f).length=cE (fun x=>(f x).length) l
 | []=>rfl
 |x::l=>by rw [List.flatMap_cons,List.length_append,cE,uQ f l]
theorem BA {α:Type}(g h:α→Nat): ∀l:List α,cE (fun x=>g x+h x) l=cE g l+cE h l
 | []=>rfl
 |x::l=>by rw [cE,cE,cE,BA g h l];omega
def wC (c:Ra):Nat:=1+c.Slots.length+c.More.length
theorem EE: ∀l:List Ra,wt l=cE wC l
 | []=>rfl
 |c::l=>by rw [wt,cE,EE l];rfl
def yT (m:Rg):List Int:=(List.range m.Young.length).map (fun i:Nat=>2*(i:Int)+1)++(List.range m.Old.length).map (fun i:Nat=>2*(i:Int)+2)
theorem GR (m:Rg)(i:Nat)(h:i<m.Young.length):bU m (2*(i:Int)+1)=m.Young[i]:=by
 unfold bU fk;rw [if_neg Y,if_pos Y,show ((2*(i:Int)+1 - 1) / 2).toNat=i by omega,List.getElem?_eq_getElem h];rfl
theorem uZ (m:Rg)(i:Nat)(h:i<m.Old.length):bU m (2*(i:Int)+2)=m.Old[i]:=by
 unfold bU fk;rw [if_neg Y,if_neg Y,show ((2*(i:Int)+2 - 2) / 2).toNat=i by omega,List.getElem?_eq_getElem h];rfl
theorem Lh (m:Rg)(i:Nat):br m (2*(i:Int)+1)=decide (i<m.Young.length):=by
 unfold br fk;rw [if_neg Y,if_pos Y,show ((2*(i:Int)+1 - 1) / 2).toNat=i by omega];by_cases h:i<m.Young.length
 ·rw [List.getElem?_eq_getElem h,Rk h];rfl
 rw [List.getElem?_eq_none Y,Rl h];rfl
theorem wZ (m:Rg)(i:Nat):br m (2*(i:Int)+2)=decide (i<m.Old.length):=by
 unfold br fk;rw [if_neg Y,if_neg Y,show ((2*(i:Int)+2 - 2) / 2).toNat=i by omega];by_cases h:i<m.Old.length
 ·rw [List.getElem?_eq_getElem h,Rk h];rfl
 rw [List.getElem?_eq_none Y,Rl h];rfl
theorem yR (m:Rg):(yT m).map (bU m)=m.Young++m.Old:=by
 unfold yT;rw [List.map_append,List.map_map,List.map_map]
 congr 1
 ·refine List.ext_getElem (by simp) fun i h1 h2=> ?_
  simp only [List.getElem_map,List.getElem_range,Function.comp];exact GR m i h2
 refine List.ext_getElem (by simp) fun i h1 h2=> ?_
 simp only [List.getElem_map,List.getElem_range,Function.comp];exact uZ m i h2
theorem sx {m:Rg}{a:Int}(h:br m a=true):(∃i:Nat,i<m.Young.length∧a=2*(i:Int)+1)∨ ∃i:Nat,i<m.Old.length∧a=2*(i:Int)+2:=by
 rcases tp m a with ⟨h1,h2⟩|⟨k,h1, -⟩|⟨k,h1, -⟩
 ·unfold br at h;rw [h2] at h;cases h
 ·subst h1;rw [Lh] at h;exact .inl ⟨k,of_decide_eq_true h,U⟩
 subst h1;rw [wZ] at h;exact .inr ⟨k,of_decide_eq_true h,U⟩
theorem sj {m:Rg}{a:Int}(h:br m a=true):a∈yT m:=by
 unfold yT;rcases sx h with ⟨i,h1,rfl⟩|⟨i,h1,rfl⟩
 ·exact Rp _ (List.mem_map.2 ⟨i,List.mem_range.2 h1,U⟩)
 exact Rq _ (List.mem_map.2 ⟨i,List.mem_range.2 h1,U⟩)
theorem Ky {m:Rg}{l:List Int}(hn:l.Nodup)(hh: ∀a∈l,br m a=true):cE (fun a=>wC (bU m a)) l≤wt m.Young+wt m.Old:=by
 have h1:=ot (fun a=>wC (bU m a)) hn fun a ha=>sj (hh a ha)
 have h2:=lO wC (bU m) (yT m);rw [yR, ←EE,Bo] at h2;omega
theorem vS {m:Rg}{a:Int}(h:br m a=true):bU m a∈m.Young++m.Old:=by
 unfold br at h;unfold bU
 cases hc:fk m a with
 |none=>rw [hc] at h;cases h
 |some c=>exact qw hc
def QI:Rg:=⟨[⟨11,0,0,0,[],[⟨7,2,⟨#[]⟩⟩]⟩,⟨11,0,0,0,[],[]⟩],[⟨11,0,0,0,[],[]⟩,⟨11,0,0,0,[],[]⟩]⟩
def QK:Rg:=⟨[],[⟨10,0,0,0,[⟨1,0,⟨#[]⟩⟩],[⟨7,4,⟨#[]⟩⟩,⟨7,6,⟨#[]⟩⟩,⟨7,8,⟨#[]⟩⟩,⟨0,0,⟨#[]⟩⟩,⟨3,7,⟨#[]⟩⟩]⟩,⟨11,0,0,0,[],[]⟩,⟨11,0,0,0,[],[]⟩,⟨11,0,0,0,[],[]⟩]⟩
theorem FR {a:Int}(h:0<a):a.tmod 2=0∨a.tmod 2=1:=by
 rw [o6 Y];omega
theorem Hu {live:List Int}(hp: ∀a∈live,0<a)(a:Int):a∈mV live↔a∈live:=by
 unfold mV tN Dq;rw [List.mem_append,List.mem_filter,List.mem_filter,decide_eq_true_eq,decide_eq_true_eq];constructor
 ·rintro (h|h)<;>exact h.1
 intro h;rcases FR (hp a h) with h2|h2
 ·exact .inl ⟨h,h2⟩
 exact .inr ⟨h,h2⟩
theorem Ct: ∀{live:List Int},(∀a∈live,0<a)→(mV live).length=live.length
 | [],_=>rfl
 | a::l,hp=>by
  have ih:=Ct (live:=l) fun b hb=>hp b (by simp [hb])
  unfold mV at ih⊢;rw [List.length_append] at ih⊢;rcases FR (hp a (by simp)) with h|h
  ·have e1:tN a=true:=Rk h;have e2:Dq a=false:=Rl Y;simp only [List.filter_cons,e1,e2,if_true,Bool.false_eq_true,if_false,List.length_cons];omega
  have e1:tN a=false:=Rl Y;have e2:Dq a=true:=Rk h;simp only [List.filter_cons,e1,e2,if_true,Bool.false_eq_true,if_false,List.length_cons];omega
theorem JI {live:List Int}(h:live.Pairwise (· < ·)):(mV live).Pairwise fun a b=> ¬(a.tmod 2=1∧b.tmod 2=0)∧(a.tmod 2=b.tmod 2→a<b):=by
 have hev: ∀a∈live.filter tN,a.tmod 2=0:=fun a ha=>of_decide_eq_true (List.mem_filter.1 ha).2
 have hod: ∀a∈live.filter Dq,a.tmod 2=1:=fun a ha=>of_decide_eq_true (List.mem_filter.1 ha).2
 unfold mV;refine List.pairwise_append.2 ⟨(h.filter _).imp_of_mem fun {a b} ha hb hlt=>⟨fun hh=> ?_,fun _=>hlt⟩,(h.filter _).imp_of_mem fun {a b} ha hb hlt=>⟨fun hh=> ?_,fun _=>hlt⟩,fun a ha b hb=>⟨fun hh=> ?_,fun hh=> ?_⟩⟩
 ·have:=hev a ha;omega
 ·have:=hod b hb;omega
 ·have:=hev a ha;omega
 have:=hev a ha;have:=hod b hb;omega
theorem oo {α:Type}{p:α→Bool}{l:List α}(h:l.all p=true){x:α}(hx:x∈l):p x=true:=List.all_eq_true.1 h x hx
theorem Et {N:Nat}{m:Rg}{roots:List Q5}(h:np N m roots=0):(∀c∈m.Young++m.Old,pM N c=true)∧(∀c∈m.Young++m.Old, ∀x∈cO c,br m x=true)∧ ∀x∈ce roots,br m x=true:=by
 unfold np at h
 cases h1:(m.Young++m.Old).all (pM N) with
 |false=>rw [h1] at h;cases h
 | true=>
  rw [h1] at h
  cases h2:d9 m ((m.Young++m.Old).flatMap cO++ce roots) with
  |false=>rw [h2] at h;cases h
  |true=>
   unfold d9 at h2;refine ⟨fun c hc=>oo h1 hc,fun c hc x hx=>oo h2 (Rp _ (List.mem_flatMap.2 ⟨c,hc,hx⟩)),fun x hx=>oo h2 (Rq _ hx)⟩
structure Live (N:Nat) (m:Rg) (roots:List Q5) (live f:List Int):Prop where
 ord: ∃b all,IsOrder (An N m) (ce roots) b all∧live=i9 all∧f=mV live
 prog:eJ N m roots=some live
 ref:BW N m roots=some live
 mem: ∀a,a∈f↔a∈live
 len:f.length=live.length
 small:live.length≤1200
 nd:f.Nodup
 asc:live.Pairwise (· < ·)
 has: ∀a∈live,br m a=true
theorem JJ {live:List Int}(h:live.Pairwise (· < ·)):(mV live).Nodup:=by
 rw [List.nodup_iff_pairwise_ne]
 refine (JI h).imp fun {a b} hab e=> ?_
 have:=hab.2 (by rw [e]);omega
theorem MY (N:Nat)(hN:5000<N){m:Rg}{roots:List Q5}(hs:Small m roots)(hw:W64 m)(hr: ∀v∈roots,in64 v.N): ∃live f,Live N m roots live f:=by
 obtain ⟨bg,all,ho,hlen, -, -,o0⟩:=pv N hN hs hw hr;obtain ⟨b',all',ho',r0, -⟩:=BG N hN hs hw hr;obtain ⟨-,e2⟩:=ho.det ho';subst e2;have hll:(i9 all).length=all.length:=rU all;have hmem:=pq all;have hasc:=zb ho.nodup.2
 have hhas: ∀a∈i9 all,br m a=true:=fun a ha=>ho.has.2 a ((hmem a).1 ha)
 have hpos: ∀a∈i9 all,0<a:=fun a ha=>qj (hhas a ha)
 refine ⟨i9 all,mV (i9 all),⟨⟨_,all,ho,U,U⟩,MZ o0 Y U,?_,Hu hpos,Ct hpos,by omega,JJ hasc,hasc,hhas⟩⟩;unfold BW;rw [r0,bs,Hb N hN all Y ho.nodup.2,bs]
theorem Live.fhas {N:Nat}{m:Rg}{roots:List Q5}{live f:List Int}(h:Live N m roots live f){a:Int}(ha:a∈f):br m a=true:=h.has a ((h.mem a).1 ha)
theorem Kw {N:Nat}{m:Rg}{roots:List Q5}{live f:List Int}(h:Live N m roots live f):(f.flatMap fun a=>ga live (bU m a)).length+wt (f.map fun a=>f0 (lg f) f (jp N live (bU m a)))≤wt m.Young+wt m.Old:=by
 have h1:=Ky h.nd fun a ha=>h.fhas ha
 rw [uQ,EE,lO, ←BA];refine Nat.le_trans (xv fun a ha=> ?_) h1;have:=oh N live (bU m a);unfold wC f0;simp only [List.length_map];omega
theorem za {N:Nat}{m:Rg}{roots:List Q5}{live f:List Int}(h:Live N m roots live f)(n:Nat):((f.take n).flatMap fun a=>ga live (bU m a)).length≤wt m.Young+wt m.Old:=by
 have h1:=Kw h
 have h2:(f.flatMap fun a=>ga live (bU m a))=((f.take n).flatMap fun a=>ga live (bU m a))++((f.drop n).flatMap fun a=>ga live (bU m a)):=by rw [←List.flatMap_append,List.take_append_drop]
 rw [h2,List.length_append] at h1;omega
def Ly (N:Nat)(m:Rg)(roots:List Q5)(live f:List Int):Rg×List Q5×List Q5×Int:=
 bif decide (np N m roots=0) then ((GG N m roots live f).next,(GG N m roots live f).now,(GG N m roots live f).gone,0) else (⟨[],[]⟩,[],[],np N m roots)
theorem Fq (N:Nat)(hN:5000<N){m:Rg}{roots:List Q5}(hs:Small m roots)(ht:Wtd m roots)(hw:W64 m)(hr: ∀v∈roots,in64 v.N){live f:List Int}(hl:Live N m roots live f):mg N m roots=some (Ly N m roots live f):=by
 apply Sat.eq;have hle:=ht.le;have hlen:=hl.small;have hfl:=hl.len;unfold mg Ly;rw [C2 N hN hs ht hw hr,bs];by_cases h0: ¬np N m roots=0
 ·rw [fK h0];exact aR U
 replace h0:np N m roots=0:=by omega
 rw [nn h0];simp only [nt,cf,ct];obtain ⟨c1,c2,c3⟩:=Et h0;obtain ⟨_,_,_,hlv,hff⟩:=hl.ord;rw [hl.prog,bs];unfold iP;rw [bs];refine Sat.bind (Ck N (fun x st=>kA N roots m live x st) live Y hN (fun n s=>RhoM s (f.take n)) ?_ [] ?_) ?_
 ·intro n a s ha h1;rw [←hff] at ha;have hn:=(List.getElem?_eq_some_iff.1 ha).1;rw [List.getElem?_eq_getElem hn,Option.some.injEq] at ha;unfold kA;simp only;rw [r64 Y Y,r64 Y Y];refine aR ⟨U,?_⟩;rw [←ha];exact h1.add hn hl.nd
 ·simpa using RhoM.nil
 rintro ⟨e,kv⟩ ⟨g1,g2⟩;simp only at g1 g2;subst g1;rw [←hff,List.take_length] at g2;unfold nH;simp only [bs]
 have hG: ∀a∈f,(jp N live (bU m a)).Slots.length≤600∧(jp N live (bU m a)).More.length≤600:=fun a ha=>by
  have h1:=oh N live (bU m a);have h2:=hs.at_ a;omega
 refine Sat.bind (Ck N (fun x st=>kz N roots m live (none,kv) x st) live Y hN (fun n s=>s.1=(f.take n).map (fun a=>f0 (lg f) f (jp N live (bU m a)))∧s.2=(f.take n).flatMap fun a=>ga live (bU m a)) ?_ ([],[]) ⟨by simp,by simp⟩) ?_
 ·rintro n a ⟨p,q⟩ ha ⟨h1,h2⟩;rw [←hff] at ha;simp only at h1 h2;have hn:=(List.getElem?_eq_some_iff.1 ha).1;have ham:a∈f:=List.mem_of_getElem? ha;rw [List.getElem?_eq_getElem hn,Option.some.injEq] at ha
  have hpl:p.length≤2000:=by rw [h1,List.length_map,List.length_take];omega
  have hql:q.length≤2400:=by have:=za hl n;rw [h2];omega
  have hq2:=za hl (n+1);have hat:=FJ N hs a (yp hs (hl.fhas ham));have hsm:=hs.at_ a;have hrt:=c1 _ (vS (hl.fhas ham));have hc:=hG a ham;rw [bh hn,ha,List.flatMap_append, ←h2,List.length_append] at hq2;simp only [List.flatMap_cons,List.flatMap_nil,List.append_nil] at hq2
  -- the last part
  have last: ∀q',q'=q++ga live (bU m a)→Sat (iz N roots m p live (none,kv) q' (jp N live (bU m a)).Kind (jp N live (bU m a)).Shape (jp N live (bU m a)).Flags (jp N live (bU m a)).Age (jp N live (bU m a)).Slots (jp N live (bU m a)).More) fun r=>r.1=none∧r.2.1=(f.take (n+1)).map (fun a=>f0 (lg f) f (jp N live (bU m a)))∧r.2.2=(f.take (n+1)).flatMap fun a=>ga live (bU m a):=by
   intro q' hq';unfold iz;rw [sS N hN _ Y kv f g2,bs,sS N hN _ Y kv f g2,bs,rF (by simp;omega)];refine aR ⟨U,?_,?_⟩
   ·rw [bh hn,List.map_append, ←h1,ha];rfl
   rw [bh hn,List.flatMap_append, ←h2,ha,hq'];simp
  unfold kz;simp only;rw [hat,bs];unfold jp ga at last;unfold ga at hq2;by_cases h8:(bU m a).Kind=8
  ·have hwm:km N (bU m a)=true:=by unfold km;rw [Rk h8];exact hrt
   rw [nn h8,ct,CX N hN live Y _ hsm.1 hsm.2,bs,hwm,ct];rw [Rk h8,Rl (p:=(bU m a).Kind=10) Y] at last;simp only [cond_true,cond_false,List.append_nil] at last;exact last q U
  by_cases h10:(bU m a).Kind=10
  ·have hwm:qE N (bU m a)=true:=by unfold qE;rw [Rk h10];exact hrt
   rw [fK h8,cf,nn h10,ct,wF N hN live Y _ hsm.1 hsm.2,bs,hwm,ct];rw [Rk h10] at hq2;rw [Rl h8,Rk h10] at last;simp only [cond_true,cond_false] at last hq2;rw [rF Y];exact last _ U
  rw [fK h8,cf,fK h10,cf];rw [Rl h8,Rl h10] at last;simp only [cond_true,cond_false,List.append_nil] at last;exact last q U
 rintro ⟨e,p,q⟩ ⟨g1,g3,g4⟩;simp only at g1 g3 g4;subst g1;rw [←hff,List.take_length] at g3 g4;have hrl:=hs.roots
 have hql:q.length≤2400:=by have:=za hl f.length;rw [List.take_length] at this;rw [g4];omega
 simp only;rw [sS N hN _ Y kv f g2,bs,sS N hN _ Y kv f g2,bs];refine aR ?_;unfold GG;rw [g3,g4]
theorem rN {f:List Int}{a:Int}(h:a∈f):f.idxOf a<f.length:=List.idxOf_lt_length_iff.2 h
theorem oe {f:List Int}{a:Int}(h:a∈f):f[f.idxOf a]'(rN h)=a:=List.getElem_idxOf (rN h)
theorem H8 {f:List Int}{a b:Int}(ha:a∈f)(hb:b∈f)(h:lg f a=lg f b):a=b:=by
 unfold lg at h
 have e:f.idxOf a=f.idxOf b:=by omega
 have h1:=oe ha;have h2:=oe hb;rw [←h1, ←h2]
 congr 1
theorem qO (f:List Int):Ren (lg f) f:=⟨fun _ _ h1 h2 h3=>H8 h1 h2 h3,fun a _=>by unfold lg;omega⟩
theorem D4 {ρ:Int→Int}{f:List Int}(hρ:Ren ρ f){a:Int}(ha:a∈f): ∀{A:List Int},(∀x∈A,x∈f)→(A.map ρ).idxOf (ρ a)=A.idxOf a
 | [],_=>rfl
 |x::A,h=>by
  rw [List.map_cons,List.idxOf_cons,List.idxOf_cons,D4 hρ ha fun y hy=>h y (by simp [hy])];by_cases e:x=a
  ·rw [beq_iff_eq.2 e,beq_iff_eq.2 (by rw [e])]
  rw [beq_eq_false_iff_ne.2 e,beq_eq_false_iff_ne.2 fun h'=>e (hρ.inj _ _ (h x (by simp)) ha h')]
theorem ES {ρ:Int→Int}{f:List Int}(hρ:Ren ρ f){A:List Int}(h: ∀x∈A,x∈f){a:Int}(ha:a∈f):ρ a∈A.map ρ↔a∈A:=Fb (S:=(· ∈f)) hρ.inj h ha
theorem sU (ρ:Int→Int)(f:List Int)(v:Q5):bM (bR ρ f v)=bM v:=D6 (by unfold bR;cases bM v&&decide (v.N∈f)<;>rfl)
theorem sT {ρ:Int→Int}{f:List Int}{v:Q5}(h1:bM v=true)(h2:v.N∈f):bR ρ f v=⟨v.Kind,ρ v.N,v.S⟩:=by
 unfold bR;rw [h1,Rk h2];rfl
theorem MV {ρ:Int→Int}{f:List Int}{v:Q5}(h1:bM v=false):bR ρ f v=v:=by
 unfold bR;rw [h1];rfl
theorem xZ {ρ:Int→Int}{f:List Int}(F:Nat→Q5→Bool)(hF: ∀i v,F i (bR ρ f v)=F i v)(hB: ∀i v,F i v=true→bM v=true): ∀(i:Nat) (l:List Q5),(∀x∈pick F i l,x∈f)→pick F i (l.map (bR ρ f))=(pick F i l).map ρ
 |_,[],_=>rfl
 |i,v::l,h=>by
  rw [gy] at h;rw [List.map_cons,gy,gy,hF,List.map_append,xZ F hF hB (i+1) l fun x hx=>h x (Rq _ hx)]
  cases hv:F i v with
  |false=>rfl
  |true=>rw [cond_true,cond_true,sT (hB i v hv) (h v.N (Rp _ (by rw [hv];simp)))];rfl
theorem AZ {F:Nat→Q5→Bool}: ∀{i:Nat} {l:List Q5} {j:Nat} {v:Q5},l[j]? =some v→F (i+j) v=true→v.N∈pick F i l
 |i,w::l,0,v,h,hF=>by
  simp only [List.getElem?_cons_zero,Option.some.injEq] at h;subst h;rw [gy];rw [Nat.add_zero] at hF;rw [hF];simp
 |i,w::l,j+1,v,h,hF=>by
  simp only [List.getElem?_cons_succ] at h;rw [gy];exact Rq _ (AZ (i:=i+1) h (by rw [show i+1+j=i+(j+1) by omega];exact hF))
 |i,[],j,v,h,_=>by simp at h
def fo (f:List Int)(l:List Q5):Prop:= ∀v∈l,bM v=true→v.N∈f
theorem FW {f:List Int}{c:Ra}(h: ∀x∈bL c,x∈f):fo f c.Slots:=fun v hv hb=>by
 obtain ⟨j,hj,e⟩:=List.getElem_of_mem hv;refine h _ (Rp _ (AZ (j:=j) (by rw [List.getElem?_eq_getElem hj,e]) hb))
theorem vC {f:List Int}{c:Ra}(h: ∀x∈bL c,x∈f){j:Nat}{v:Q5}(hj:c.More[j]? =some v)(hw:i7 c.Kind j=false)(hb:bM v=true):v.N∈f:=
 h _ (Rq _ (AZ (j:=j) hj (by rw [Nat.zero_add,hw,hb];rfl)))
theorem G0 {k:Int}(h8:k≠8)(h10:k≠10)(i:Nat):i7 k i=false:=by
 unfold i7;rw [fK h8,fK h10];rfl
theorem Es {lv f:List Int}(hlv: ∀x,x∈lv↔x∈f): ∀{l:List Q5},nG l=true→(∀x∈opens (fun x=>decide (x∈lv)) l,x∈f)→fo f (cM (fun x=>decide (x∈lv)) l)
 | [],_,_=>fun v hv=>by simp [cM] at hv
 | [_],h,_=>by cases h
 | k::v::r,h,ho=>by
  rw [jJ] at h;rw [Bool.and_eq_true] at h;rw [iL] at ho
  have ih:=Es hlv h.2 fun x hx=>ho x (Rq _ hx)
  intro w hw hb;simp only [oJ] at hw;rcases List.mem_append.1 hw with hw|hw
  ·cases hd:decide (k.N∈lv) with
   |false=>rw [hd] at hw;cases hw
   |true=>
    rw [hd] at hw;simp only [cond_true,List.mem_cons,List.not_mem_nil,or_false] at hw;rcases hw with rfl|rfl
    ·exact (hlv _).1 (of_decide_eq_true hd)
    exact ho _ (Rp _ (by rw [hb,hd];simp))
  exact ih w hw hb
theorem Ij {lv f:List Int}(hlv: ∀x,x∈lv↔x∈f): ∀{l:List Q5},kD l=true→(∀j v,l[4*j+1]? =some v→bM v=true→v.N∈f)→fo f (ex lv l)
 | [],_,_=>fun v hv=>by simp [ex] at hv
 | [_],h,_=>by cases h
 | [_,_],h,_=>by cases h
 | [_,_,_],h,_=>by cases h
 | t ::a::k::s::r,h,ho=>by
  rw [lc] at h;simp only [Bool.and_eq_true,decide_eq_true_eq] at h;obtain ⟨⟨⟨h1, -⟩,h3,h4⟩,h5⟩:=h
  have ih:=Ij hlv h5 fun j v hj hb=>ho (j+1) v (by rw [show 4*(j+1)+1=4*j+1+4 by omega];simpa using hj) hb
  intro w hw hb;simp only [sX] at hw;rcases List.mem_append.1 hw with hw|hw
  ·cases hd:decide (t.N∈lv) with
   |false=>rw [hd] at hw;cases hw
   | true=>
    rw [hd] at hw;simp only [cond_true,List.mem_cons,List.not_mem_nil,or_false] at hw;rcases hw with rfl|rfl|rfl|rfl
    ·exact (hlv _).1 (of_decide_eq_true hd)
    ·exact ho 0 w U hb
    ·cases hk:decide (k.Kind=7)&& !decide (k.N∈lv) with
     |true=>rw [hk] at hb;cases hb
     | false=>
      rw [hk] at hb;simp only [cond_false] at hb⊢
      have hk7:k.Kind=7:=by
       unfold noneB at h3;rw [Bool.or_eq_true,decide_eq_true_eq,decide_eq_true_eq] at h3;rcases h3 with h3|h3
       ·unfold bM at hb;rw [h3] at hb;cases hb
       exact h3
      rw [Rk hk7,Bool.true_and] at hk;exact (hlv _).1 (by by_cases hm:k.N∈lv;exact hm;rw [Rl hm] at hk;cases hk)
    have:w.Kind=3:=by
     unfold numB at h4;rw [Bool.and_eq_true,decide_eq_true_eq] at h4;exact h4.1
    unfold bM at hb;rw [this] at hb;cases hb
  exact ih w hw hb
theorem DV {ρ:Int→Int}{row lv f:List Int}(hρ:Ren ρ f)(hsub: ∀x∈row,x∈lv)(hlv: ∀x,x∈lv↔x∈f): ∀{l:List Q5},nG l=true→(∀x∈opens (fun x=>decide (x∈row)) l,x∈f)→opens (fun x=>decide (x∈row.map ρ)) ((cM (fun x=>decide (x∈lv)) l).map (bR ρ f))=(opens (fun x=>decide (x∈row)) l).map ρ
 | [],_,_=>rfl
 | [_],h,_=>by cases h
 | k::v::r,h,ho=>by
  rw [jJ] at h;rw [Bool.and_eq_true,Bool.and_eq_true,decide_eq_true_eq] at h;rw [iL] at ho
  have ih:=DV hρ hsub hlv h.2 fun x hx=>ho x (Rq _ hx)
  have hk:bM k=true:=by unfold bM;rw [h.1.1];rfl
  have hrow: ∀x∈row,x∈f:=fun x hx=>(hlv x).1 (hsub x hx)
  rw [iL,List.map_append, ←ih];simp only [oJ];by_cases hd:k.N∈lv
  ·have hf:=(hlv _).1 hd;have e1:decide (ρ k.N∈row.map ρ)=decide (k.N∈row):=eQ (ES hρ hrow hf);rw [Rk hd,cond_true];show opens _ (bR ρ f k::bR ρ f v::(cM (fun x=>decide (x∈lv)) r).map (bR ρ f))=_;rw [iL,sU,sT hk hf];simp only [e1]
   congr 1
   cases hv:bM v&&decide (k.N∈row) with
   |false=>rfl
   |true=>
    rw [Bool.and_eq_true] at hv;have hvf:=ho v.N (Rp _ (by rw [hv.1,hv.2];simp));rw [cond_true,cond_true,sT hv.1 hvf];rfl
  have hnr:k.N∉row:=fun hx=>hd (hsub _ hx)
  rw [Rl hd,cond_false,List.nil_append,Rl hnr,Bool.and_false];rfl
theorem Er {ρ:Int→Int}{A lv f:List Int}(hρ:Ren ρ f)(hsub: ∀x∈A,x∈lv)(hlv: ∀x,x∈lv↔x∈f): ∀{l:List Q5},nG l=true→cM (fun x=>decide (x∈A.map ρ)) ((cM (fun x=>decide (x∈lv)) l).map (bR ρ f))=(cM (fun x=>decide (x∈A)) l).map (bR ρ f)
 | [],_=>rfl
 | [_],h=>by cases h
 | k::v::r,h=>by
  rw [jJ] at h;rw [Bool.and_eq_true,Bool.and_eq_true,decide_eq_true_eq] at h;have ih:=Er hρ hsub hlv h.2
  have hk:bM k=true:=by unfold bM;rw [h.1.1];rfl
  have hA: ∀x∈A,x∈f:=fun x hx=>(hlv x).1 (hsub x hx)
  have hr:(cM (fun x=>decide (x∈A)) (k::v::r)).map (bR ρ f)=(bif decide (k.N∈A) then [bR ρ f k,bR ρ f v] else [])++(cM (fun x=>decide (x∈A)) r).map (bR ρ f):=by
   show ((bif decide (k.N∈A) then [k,v] else [])++cM (fun x=>decide (x∈A)) r).map (bR ρ f)=_;rw [List.map_append];cases decide (k.N∈A)<;>rfl
  rw [hr, ←ih];by_cases hd:k.N∈lv
  ·have hf:=(hlv _).1 hd;have e1:decide (ρ k.N∈A.map ρ)=decide (k.N∈A):=eQ (ES hρ hA hf)
   have e2:cM (fun x=>decide (x∈lv)) (k::v::r)=k::v::cM (fun x=>decide (x∈lv)) r:=by
    show (bif decide (k.N∈lv) then [k,v] else [])++_=_;rw [Rk hd];rfl
   rw [e2];show (bif decide ((bR ρ f k).N∈A.map ρ) then [bR ρ f k,bR ρ f v] else [])++_=_
   have e3:(bR ρ f k).N=ρ k.N:=by rw [sT hk hf]
   rw [e3,e1]
  have e2:cM (fun x=>decide (x∈lv)) (k::v::r)=cM (fun x=>decide (x∈lv)) r:=by
   show (bif decide (k.N∈lv) then [k,v] else [])++_=_;rw [Rl hd];rfl
  rw [e2,Rl fun hx=>hd (hsub _ hx)];rfl
theorem CZ {p q:Int→Bool}(h: ∀x,p x=true→q x=true){v:Q5}: ∀{l:List Q5},v∈cM p l→v∈cM q l
 | [],hv=>by simp [cM] at hv
 | [_],hv=>by simp [cM] at hv
 | k::w::r,hv=>by
  simp only [oJ] at hv⊢;rcases List.mem_append.1 hv with hv|hv
  ·cases hp:p k.N with
   |false=>rw [hp] at hv;cases hv
   |true=>rw [hp] at hv;rw [h _ hp];exact Rp _ hv
  exact Rq _ (CZ h hv)
structure CellOk (N:Nat) (lv f:List Int) (c:Ra):Prop where
 big:2000<N
 right:dz c=true
 slots:c.Slots.length≤600
 more:c.More.length≤600
 leads: ∀x∈bL c,x∈f
 opens: ∀x∈ca N c lv,x∈f
 mem: ∀x,x∈lv↔x∈f
theorem qg {N:Nat}(hN:2000<N){c:Ra}(h:dz c=true)(hS:c.Slots.length≤600)(hM:c.More.length≤600):km N c=decide (c.Kind=8):=by
 unfold km;rw [pL N hN c Y Y,h];cases decide (c.Kind=8)<;>rfl
theorem nP {N:Nat}(hN:2000<N){c:Ra}(h:dz c=true)(hS:c.Slots.length≤600)(hM:c.More.length≤600):qE N c=decide (c.Kind=10):=by
 unfold qE;rw [pL N hN c Y Y,h];cases decide (c.Kind=10)<;>rfl
theorem KD {N:Nat}(hN:2000<N){c:Ra}(hS:c.Slots.length≤600)(hM:c.More.length≤600):pM N c=dz c:=by
 unfold pM;rw [pL N hN c Y Y];rfl
section
variable {N:Nat} {ρ:Int→Int} {lv f:List Int} {c:Ra}
theorem GI:(jp N lv c).Kind=c.Kind∧(jp N lv c).Shape=c.Shape∧(jp N lv c).Flags=c.Flags∧(jp N lv c).Slots=c.Slots:=by
 unfold jp cV;cases decide (c.Kind=8)<;>cases decide (c.Kind=10)<;>cases km N c<;>exact ⟨rfl,rfl,rfl,rfl⟩
theorem CellOk.new (hρ:Ren ρ f)(h:CellOk N lv f c):dz (f0 ρ f (jp N lv c))=true∧(f0 ρ f (jp N lv c)).Slots.length≤600∧(f0 ρ f (jp N lv c)).More.length≤600∧(f0 ρ f (jp N lv c)).Kind=c.Kind:=by
 have h1:=oh N lv c;have h2:=h.slots;have h3:=h.more;exact ⟨JL hρ (Kb N lv h.right),by unfold f0;simp only [List.length_map];omega,by unfold f0;simp only [List.length_map];omega,GI.1⟩
theorem CellOk.ent2 (h:CellOk N lv f c)(h8:c.Kind=8):nG c.More=true:=by
 have:=(ud h.right).2.2;rw [h8] at this;exact this
theorem CellOk.ent4 (h:CellOk N lv f c)(h10:c.Kind=10):1≤c.More.length∧(o5 c.More 0).Kind=7∧kD (c.More.drop 1)=true:=by
 have:=(ud h.right).2.2;rw [h10] at this;have h3':(decide (1≤c.More.length)&&decide ((o5 c.More 0).Kind=7)&&kD (c.More.drop 1))=true:=this;simp only [Bool.and_eq_true,decide_eq_true_eq] at h3';exact ⟨h3'.1.1,h3'.1.2,h3'.2⟩
theorem CellOk.wm (h:CellOk N lv f c):km N c=decide (c.Kind=8):=qg h.big h.right h.slots h.more
theorem CellOk.fr (h:CellOk N lv f c):qE N c=decide (c.Kind=10):=nP h.big h.right h.slots h.more
theorem CellOk.clC8 (h:CellOk N lv f c)(h8:c.Kind=8):jp N lv c=⟨c.Kind,c.Shape,c.Flags,c.Age,c.Slots,cM (fun x=>decide (x∈lv)) c.More⟩:=by
 unfold jp cV;rw [h.wm,Rk h8];rfl
theorem CellOk.clC10 (h10:c.Kind=10):jp N lv c=⟨c.Kind,c.Shape,c.Flags,c.Age,c.Slots,c.More.take 1++ex lv (c.More.drop 1)⟩:=by
 unfold jp;rw [Rl (p:=c.Kind=8) Y,Rk h10];rfl
theorem CellOk.clC0 (h8:c.Kind≠8)(h10:c.Kind≠10):jp N lv c=c:=by
 unfold jp;rw [Rl h8,Rl h10];rfl
theorem CellOk.bare10 (h:CellOk N lv f c)(h10:c.Kind=10):ck N c=⟨c.Kind,c.Shape,c.Flags,c.Age,c.Slots,c.More.take 1⟩:=by
 unfold ck;rw [h.fr,Rk h10];rfl
theorem CellOk.bare0 (h:CellOk N lv f c)(h10:c.Kind≠10):ck N c=c:=by
 unfold ck;rw [h.fr,Rl h10];rfl
theorem CellOk.bareG (hρ:Ren ρ f)(h:CellOk N lv f c):ck N (f0 ρ f (jp N lv c))=bif decide (c.Kind=10) then f0 ρ f (ck N c) else f0 ρ f (jp N lv c):=by
 obtain ⟨g1,g2,g3,g4⟩:=CellOk.new hρ h;by_cases h10:c.Kind=10
 ·rw [Rk h10,cond_true,h.bare10 h10]
  have e:qE N (f0 ρ f (jp N lv c))=true:=by
   rw [nP h.big g1 g2 g3,g4,Rk h10]
  unfold ck;rw [e,cond_true,CellOk.clC10 h10];unfold f0;simp only [Ra.mk.injEq,true_and];obtain ⟨q1, -, -⟩:=h.ent4 h10
  obtain ⟨a,r,hr⟩: ∃a r,c.More=a::r:=by
   cases hm:c.More with
   |nil=>rw [hm] at q1;simp at q1
   |cons a r=>exact ⟨a,r,rfl⟩
  rw [hr];rfl
 rw [Rl h10,cond_false];unfold ck;rw [nP h.big g1 g2 g3,g4,Rl h10];rfl
theorem HA {c:Ra}(h8:c.Kind=8):bL c=pick (fun _ v=>bM v) 0 c.Slots:=by
 unfold bL
 have e:(fun (i:Nat) (v:Q5)=> !i7 c.Kind i&&bM v)=fun _ _=>false:=by
  funext i v;unfold i7;rw [h8];rfl
 rw [e,zm,List.append_nil]
theorem D1 {ρ:Int→Int}{c:Ra}{f:List Int}(h: ∀x∈bL c,x∈f):bL (f0 ρ f c)=(bL c).map ρ:=by
 unfold bL at h⊢;rw [List.map_append];show pick (fun _ v=>bM v) 0 (c.Slots.map (bR ρ f))++pick (fun i v=> !i7 c.Kind i&&bM v) 0 (c.More.map (bR ρ f))=_;rw [xZ (fun _ v=>bM v) (fun _ v=>sU ρ f v) (fun _ _ h=>h) 0 c.Slots fun x hx=>h x (Rp _ hx),xZ (fun i v=> !i7 c.Kind i&&bM v) (fun i v=>by rw [sU]) (fun i v h=>((Bool.and_eq_true _ _).mp h).2) 0 c.More fun x hx=>h x (Rq _ hx)]
theorem CellOk.leadsG (hρ:Ren ρ f)(h:CellOk N lv f c):bL (ck N (f0 ρ f (jp N lv c)))=(bL (ck N c)).map ρ∧ ∀x∈bL (ck N c),x∈f:=by
 have hb: ∀x∈bL (ck N c),x∈f:=fun x hx=>h.leads x (Hz hx)
 refine ⟨?_,hb⟩;rw [CellOk.bareG hρ h];by_cases h10:c.Kind=10
 ·rw [Rk h10,cond_true];exact D1 hb
 rw [Rl h10,cond_false];rw [h.bare0 h10] at hb⊢;by_cases h8:c.Kind=8
 ·rw [h.clC8 h8,HA (c:=f0 ρ f ⟨c.Kind,c.Shape,c.Flags,c.Age,c.Slots,cM (fun x=>decide (x∈lv)) c.More⟩) h8,HA h8];rw [HA h8] at hb;exact xZ (fun _ v=>bM v) (fun _ v=>sU ρ f v) (fun _ _ h=>h) 0 c.Slots hb
 rw [CellOk.clC0 h8 h10];exact D1 hb
theorem CellOk.opensG (hρ:Ren ρ f)(h:CellOk N lv f c){row:List Int}(hrow: ∀x∈row,x∈f):ca N (ck N (f0 ρ f (jp N lv c))) (row.map ρ)=(ca N (ck N c) row).map ρ∧ ∀x∈ca N (ck N c) row,x∈f:=by
 have hb: ∀x∈ca N (ck N c) row,x∈f:=fun x hx=>h.opens x (Hm (fun y hy=>(h.mem y).2 (hrow y hy)) hx)
 refine ⟨?_,hb⟩;obtain ⟨g1,g2,g3,g4⟩:=CellOk.new hρ h;rw [CellOk.bareG hρ h];by_cases h10:c.Kind=10
 ·rw [Rk h10,cond_true,h.bare10 h10];unfold ca km;rw [show decide ((f0 ρ f (⟨c.Kind,c.Shape,c.Flags,c.Age,c.Slots,c.More.take 1⟩:Ra)).Kind=8)=false from Rl (by show c.Kind≠8;omega),show decide ((⟨c.Kind,c.Shape,c.Flags,c.Age,c.Slots,c.More.take 1⟩:Ra).Kind=8)=false from Rl (by show c.Kind≠8;omega)];rfl
 rw [Rl h10,cond_false];rw [h.bare0 h10] at hb⊢;unfold ca at hb⊢;rw [qg h.big g1 g2 g3,g4,h.wm];rw [h.wm] at hb;by_cases h8:c.Kind=8
 ·rw [Rk h8] at hb⊢;rw [cond_true,cond_true,h.clC8 h8];exact DV hρ (fun x hx=>(h.mem x).2 (hrow x hx)) h.mem (h.ent2 h8) hb
 rw [Rl h8];rfl
theorem CellOk.cleanG (hρ:Ren ρ f)(h:CellOk N lv f c){A:List Int}(hA: ∀x∈A,x∈f):cV N (A.map ρ) (ck N (f0 ρ f (jp N lv c)))=f0 ρ f (cV N A (ck N c)):=by
 obtain ⟨g1,g2,g3,g4⟩:=CellOk.new hρ h;rw [CellOk.bareG hρ h];by_cases h10:c.Kind=10
 ·rw [Rk h10,cond_true,h.bare10 h10];unfold cV km;rw [show decide ((f0 ρ f (⟨c.Kind,c.Shape,c.Flags,c.Age,c.Slots,c.More.take 1⟩:Ra)).Kind=8)=false from Rl (by show c.Kind≠8;omega),show decide ((⟨c.Kind,c.Shape,c.Flags,c.Age,c.Slots,c.More.take 1⟩:Ra).Kind=8)=false from Rl (by show c.Kind≠8;omega)];rfl
 rw [Rl h10,cond_false,h.bare0 h10];unfold cV;rw [qg h.big g1 g2 g3,g4,h.wm];by_cases h8:c.Kind=8
 ·rw [Rk h8,cond_true,cond_true,h.clC8 h8];unfold f0;simp only [Ra.mk.injEq,true_and];exact Er hρ (fun x hx=>(h.mem x).2 (hA x hx)) h.mem (h.ent2 h8)
 rw [Rl h8,cond_false,cond_false,CellOk.clC0 h8 h10]
theorem CellOk.inC (h:CellOk N lv f c):fo f (jp N lv c).Slots∧fo f (jp N lv c).More:=by
 refine ⟨by rw [GI.2.2.2];exact FW h.leads,?_⟩;by_cases h8:c.Kind=8
 ·rw [h.clC8 h8];have ho:=h.opens;unfold ca at ho;rw [h.wm,Rk h8,cond_true] at ho;exact Es h.mem (h.ent2 h8) ho
 by_cases h10:c.Kind=10
 ·rw [CellOk.clC10 h10];obtain ⟨q1,q2,q3⟩:=h.ent4 h10
  obtain ⟨a,r,hr⟩: ∃a r,c.More=a::r:=by
   cases hm:c.More with
   |nil=>rw [hm] at q1;simp at q1
   |cons a r=>exact ⟨a,r,rfl⟩
  rw [hr] at q3;have q3':kD r=true:=q3;intro v hv hb
  have hv':v=a∨v∈ex lv r:=by
   have:v∈a::ex lv r:=by rw [hr] at hv;exact hv
   exact List.mem_cons.1 this
  rcases hv' with rfl|hv'
  ·refine vC h.leads (j:=0) (by rw [hr];rfl) ?_ hb;unfold i7;rw [h10];rfl
  refine Ij h.mem q3' (fun j w hj hw=>vC h.leads (j:=4*j+2) (by rw [hr,show 4*j+2=(4*j+1)+1 by omega,List.getElem?_cons_succ];exact hj) ?_ hw) v hv' hb;unfold i7;rw [h10]
  have e1:(((4*j+2:Nat):Int) - 1).tmod 4=1:=by rw [Int.tmod_eq_emod_of_nonneg Y];omega
  have e2:((1:Int)).tmod 2=1:=rfl;rw [e1,e2];cases decide ((0:Int)<((4*j+2:Nat):Int))<;>rfl
 rw [CellOk.clC0 h8 h10];intro v hv hb;obtain ⟨j,hj,e⟩:=List.getElem_of_mem hv;exact vC h.leads (j:=j) (by rw [List.getElem?_eq_getElem hj,e]) (G0 h8 h10 j) hb
theorem CellOk.inD (h:CellOk N lv f c){A:List Int}(hA: ∀x∈A,x∈f):fo f (cV N A (ck N c)).Slots∧fo f (cV N A (ck N c)).More:=by
 obtain ⟨i1,i2⟩:=h.inC;by_cases h10:c.Kind=10
 ·rw [h.bare10 h10];unfold cV km;rw [show decide ((⟨c.Kind,c.Shape,c.Flags,c.Age,c.Slots,c.More.take 1⟩:Ra).Kind=8)=false from Rl (by show c.Kind≠8;omega)];rw [CellOk.clC10 h10] at i1 i2;exact ⟨i1,fun v hv=>i2 v (Rp _ hv)⟩
 rw [h.bare0 h10];unfold cV;rw [h.wm];by_cases h8:c.Kind=8
 ·rw [Rk h8,cond_true];rw [h.clC8 h8] at i1 i2;refine ⟨i1,fun v hv=>i2 v (CZ (fun x hx=> ?_) hv)⟩;exact Rk ((h.mem x).2 (hA x (of_decide_eq_true hx)))
 rw [Rl h8,cond_false];rw [CellOk.clC0 h8 h10] at i1 i2;exact ⟨i1,i2⟩
end
end
section
open Go.RowKit
theorem H7 (N:Nat)(hN:5000<N){m:Rg}{x:List Q5}(hs:Small m x)(hw:W64 m)(hx: ∀v∈x,in64 v.N): ∃L,SideOk (dc N m) x L∧dD N (dc N m) x=some L∧io N (dc N m) x=some L:=by
 obtain ⟨bg,all,ho,hlen, -, -,o0⟩:=pv N hN (hs.bare N) (hw.bare N) hx;obtain ⟨b',all',ho',r0, -⟩:=BG N hN (hs.bare N) (hw.bare N) hx;obtain ⟨-,e2⟩:=ho.det ho';subst e2;exact ⟨all,⟨hs.bare N,hw.bare N,hx,hlen,ho.nodup.2,ho.has.2⟩,o0,r0⟩
theorem Ez (N:Nat)(hN:5000<N){a b:Rg}{x y:List Q5}(ha:Small a x)(hb:Small b y)(wa:W64 a)(wb:W64 b)(hx: ∀v∈x,in64 v.N)(hy: ∀v∈y,in64 v.N): ∃LA LB,SideOk (dc N a) x LA∧SideOk (dc N b) y LB∧dD N (dc N a) x=some LA∧dD N (dc N b) y=some LB∧fB N a x b y=some (va N (dc N a) x LA (dc N b) y LB):=by
 obtain ⟨LA,sA,oA,rA⟩:=H7 N hN ha wa hx;obtain ⟨LB,sB,oB,rB⟩:=H7 N hN hb wb hy;exact ⟨LA,LB,sA,sB,oA,oB,Ki N hN (FX N hN ha rA) (FX N hN hb rB) sA sB⟩
end
end Go.Proofs.YtmimkglhbmcokaaGreat