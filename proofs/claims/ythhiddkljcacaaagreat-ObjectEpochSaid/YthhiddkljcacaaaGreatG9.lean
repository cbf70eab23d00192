/- Merged texts: part 9. No conditions of their own. -/
import Derived.Test.YthhiddkljcacaaaGreatG8
import Derived.Test.YthhiddkljcacaaaGreatG7
import Derived.IntWalk
import Derived.KernelRfl
namespace Go.Proofs.YthhiddkljcacaaaGreat
variable (N:Nat){i x:Int}{kv seen:List (Int×Bool)}{l:List (VI×Int)}{f kept live lv met olds:List Int}{PL:List VP}{M M' k k':Nat}{α:Type}{t:VH}{c:VJ}{v:VN}{p:VP}{m:VR}{g:VU}{s:VW}
section
open Go.RowKit
theorem Cs (hv:v∈c.Yb++c.Ya)(hb:bd v=true):v.N∈cp c:=by
 unfold cp;rcases W8.1 hv with hv|hv
 ·exact V4 _ (II (f:=ce c) (fun x hx=>hx) v hv hb)
 obtain ⟨j,hj,e⟩:=WX hv
 cases hw:om c.XZ j with
 |false=>exact V4 _ (Ef (f:=ce c) (fun x hx=>hx) (by rw [WO hj,e]) hw hb)
 |true=>exact V5 _ (Ec (j:=j) (by rw [WO hj,e]) (by rw [XC,hw,hb];rfl))
theorem zg {p:Int->Bool}: ∀{l:List VN},x∈opens p l-> ∃v∈l,bd v=true/\v.N=x
 | [],h=>by simp [opens] at h
 | [_],h=>by simp [opens] at h
 | k::v::l,h=>by
  rw [qI] at h;rcases W8.1 h with h|h
  ·cases hv:bd v&&p k.N with
   |false=>rw [hv] at h;cases h
   |true=>
    rw [hv] at h;rw [XW] at hv;exact ⟨v,by simp,hv.1,(Xf.1 h).symm⟩
  obtain ⟨w,h1,h2⟩:=zg h;exact ⟨w,by simp [h1],h2⟩
structure CollCtx (N:Nat) (m:VR) (roots:List VN) (live f:List Int):Prop where
 big:6500<N
 small:Small m roots
 tot:Wtd m roots
 w64:W64 m
 r64: ∀v∈roots,in64 v.N
 lv:Live N m roots live f
 right: ∀c∈m.Yd++m.Yc,bj c=true
 addr: ∀c∈m.Yd++m.Yc, ∀x∈cp c,aw m x=true
 roots: ∀x∈bP roots,aw m x=true
theorem Ss {N:Nat}(hN:6500<N){roots:List VN}(hs:Small m roots)(ht:Wtd m roots)(hw:W64 m)(hr:∀v∈roots,in64 v.N)(hl:Live N m roots live f)(h0:oh N m roots=0):CollCtx N m roots live f:=by
 obtain ⟨h1,h2,h3⟩:=Hd h0;exact ⟨hN,hs,ht,hw,hr,hl,fun c hc=>by have:=hs.cells c hc;rw [<-IP (N:=N) U this.1 this.2];exact h1 c hc,h2,h3⟩
section
variable {N:Nat}{roots:List VN}(h:CollCtx N m roots live f)
include h
theorem CollCtx.mem (x:Int):x∈live↔x∈f:=(h.lv.mem x).symm
theorem CollCtx.cell {a:Int}(ha:a∈f):CellOk N live f (aJ m a):=by
 have hm:=mP (h.lv.fhas ha);obtain ⟨b,all,ho,hlv, -⟩:=h.lv.ord
 have hall: ∀x,x∈all↔x∈f:=fun x=>by rw [<-h.mem x,hlv];exact (tv all x).symm
 obtain ⟨q1,q2⟩:=ho.closed;have hs:=h.small.cells _ hm;have hN:=h.big;refine ⟨by omega,h.right _ hm,hs.1,hs.2,fun x hx=> ?_,fun x hx=> ?_,h.mem⟩
 ·exact (hall x).1 (q1 a ((hall a).2 ha) x hx (h.addr _ hm x (V4 _ hx)))
 have e:dH N (aJ m a) live=dH N (aJ m a) all:=by
  unfold dH;rw [IW (q:=fun x=>decide (x∈all)) fun x=>iA (by rw [h.mem x];exact (hall x).symm)]
 rw [e] at hx;refine (hall x).1 (q2 a ((hall a).2 ha) x hx ?_);unfold dH at hx
 cases hw:sv N (aJ m a) with
 |false=>rw [hw] at hx;cases hx
 |true=>
  rw [hw] at hx;obtain ⟨v,hv,hb,rfl⟩:=zg hx;exact h.addr _ hm _ (Cs (V5 _ hv) hb)
theorem CollCtx.root (hx:x∈bP roots):x∈f:=by
 obtain ⟨b,all,ho,hlv, -⟩:=h.lv.ord;rw [<-h.mem x,hlv,tv];exact ho.sub (ho.roots hx (h.roots x hx))
theorem CollCtx.rootIn:js f roots:=fun v hv hb=>h.root (qW.2 ⟨v,hv,hb,rfl⟩)
end
def iy (m:VR)(live f:List Int):VR:=⟨[],f.map fun a=>lI (tw f) f (mN N live (aJ m a))⟩
theorem I1 {N:Nat}{a:Int}(ha:a∈f):aw (iy N m live f) (tw f a)=true:=by
 unfold tw;rw [sy];exact V0 (by unfold iy;simp only [XU];exact vq ha)
theorem Qb {N:Nat}{a:Int}(ha:a∈f):aJ (iy N m live f) (tw f a)=lI (tw f) f (mN N live (aJ m a)):=by
 have e:tw f a=2*((f.idxOf a:Nat):Int)+2:=rfl;rw [e,rY _ _ (by unfold iy;simp only [XU];exact vq ha)];unfold iy;simp only [WW];rw [rn ha]
theorem GP (hf:f.length<=100000)(hv:in64 v.N):in64 (bG (tw f) f v).N:=by
 unfold bG
 cases hb:bd v&&decide (v.N∈f) with
 |false=>exact hv
 |true=>
  rw [XW,XO] at hb;have:=vq hb.2;show in64 (tw f v.N);unfold tw in64;omega
theorem LJ {N:Nat}(hv:v∈(mN N lv c).Yb++(mN N lv c).Ya):v∈c.Yb++c.Ya\/v=mU:=by
 unfold mN at hv
 cases h8:decide (c.XZ=8) with
 |true=>rw [h8] at hv;exact .inl (KT hv)
 | false=>
  rw [h8] at hv
  cases h10:decide (c.XZ=10) with
  |false=>rw [h10] at hv;exact .inl hv
  |true=>
   rw [h10] at hv;have hv':v∈c.Yb++(c.Ya.take 1++ey lv (c.Ya.drop 1)):=hv;rcases W8.1 hv' with hv'|hv'
   ·exact .inl (V4 _ hv')
   rcases W8.1 hv' with hv'|hv'
   ·exact .inl (V5 _ (List.mem_of_mem_take hv'))
   rcases Fv lv hv' with hv'|hv'
   ·exact .inl (V5 _ (List.mem_of_mem_drop hv'))
   exact .inr hv'
section
variable {N:Nat}{roots:List VN}(h:CollCtx N m roots live f)
include h
theorem CollCtx.flen:f.length<=1200:=by rw [h.lv.len];exact h.lv.small
theorem CollCtx.flen6:f.length<=600:=by
 have h1:=rC (fun _=>1) h.lv.nd fun a ha=>wa (h.lv.fhas ha)
 have h2: ∀l:List Int,bw (fun _=>1) l=l.length:=fun l=>by
  induction l with
  |nil=>rfl
  |cons x l ih=>rw [bw,ih,WY];omega
 rw [h2,h2] at h1;have h3:=h.tot.cnt;unfold Dh at h1;simp only [XS,XU,List.length_range] at h1;omega
theorem CollCtx.nextW:W64 (iy N m live f):=fun c hc v hv=>by
 have hl:=h.flen
 have hc':c∈f.map fun a=>lI (tw f) f (mN N live (aJ m a)):=hc
 obtain ⟨a,ha,rfl⟩:=Xc.1 hc'
 have hv':v∈((mN N live (aJ m a)).Yb++(mN N live (aJ m a)).Ya).map (bG (tw f) f):=by rw [W5];exact hv
 obtain ⟨w,hw,rfl⟩:=Xc.1 hv';refine GP U ?_;rcases LJ hw with hw|rfl
 ·exact h.w64.at_ a w hw
 show in64 0;unfold in64;omega
theorem CollCtx.nextS (l:List VN)(hl:l.length<=600):Small (iy N m live f) l:=by
 refine ⟨XD _,?_,hl,fun c hc=> ?_⟩
 ·unfold iy;simp only [XU];exact h.flen6
 have hc':c∈f.map fun a=>lI (tw f) f (mN N live (aJ m a)):=hc
 obtain ⟨a,ha,rfl⟩:=Xc.1 hc';obtain ⟨-,g2,g3, -⟩:=(CellOk.new (Ld f) (h.cell ha));exact ⟨g2,g3⟩
end
theorem BA {F:Nat->VN->Bool}(hB:∀i v,F i v=true->bd v=true): ∀{i:Nat} {l:List VN},x∈pick F i l-> ∃v∈l,bd v=true/\v.N=x
 |_,[],h=>by cases h
 | i,v::l,h=>by
  rw [pp] at h;rcases W8.1 h with h|h
  ·cases hf:F i v with
   |false=>rw [hf] at h;cases h
   |true=>rw [hf] at h;exact ⟨v,by simp,hB i v hf,(Xf.1 h).symm⟩
  obtain ⟨w,g1,g2⟩:=BA hB h;exact ⟨w,by simp [g1],g2⟩
theorem zx (h:x∈cp c): ∃v∈c.Yb++c.Ya,bd v=true/\v.N=x:=by
 unfold cp ce mw at h;rcases W8.1 h with h|h
 ·rcases W8.1 h with h|h
  ·obtain ⟨v,g1,g2⟩:=BA (fun _ _ h=>h) h;exact ⟨v,V4 _ g1,g2⟩
  obtain ⟨v,g1,g2⟩:=BA (fun i v h=>((XW _ _).mp h).2) h;exact ⟨v,V5 _ g1,g2⟩
 obtain ⟨v,g1,g2⟩:=BA (fun i v h=>((XW _ _).mp h).2) h;exact ⟨v,V5 _ g1,g2⟩
section
variable {N:Nat}{roots:List VN}(h:CollCtx N m roots live f)
include h
theorem CollCtx.now64: ∀v∈roots.map (bG (tw f) f),in64 v.N:=fun v hv=>by
 have hl:=h.flen;obtain ⟨w,hw,rfl⟩:=Xc.1 hv;exact GP U (h.r64 w hw)
theorem CollCtx.newHas {l:List VN}(hl:js f l)(hv:v∈l.map (bG (tw f) f))(hb:bd v=true):aw (iy N m live f) v.N=true:=by
 have _:=h;obtain ⟨w,hw,rfl⟩:=Xc.1 hv;rw [HN] at hb;have:=hl w hw hb;rw [sm hb this];exact I1 this
theorem CollCtx.nextAddr (hc:c∈f.map fun a=>lI (tw f) f (mN N live (aJ m a))):bj c=true/\ ∀x∈cp c,aw (iy N m live f) x=true:=by
 obtain ⟨a,ha,rfl⟩:=Xc.1 hc;refine ⟨(CellOk.new (Ld f) (h.cell ha)).1,fun x hx=> ?_⟩;obtain ⟨v,hv,hb,rfl⟩:=zx hx;obtain ⟨i1,i2⟩:=(h.cell ha).inC;rcases W8.1 hv with hv|hv
 ·exact h.newHas i1 hv hb
 exact h.newHas i2 hv hb
end
end
section
open Go.RowKit
def bN (n:Nat):List Int:=(List.range n).map fun i:Nat=>2*(i:Int)+2
theorem Nf (n:Nat):(bN n).Pairwise (· < ·):=by
 unfold bN;rw [List.pairwise_map]
 exact List.pairwise_lt_range.imp fun h=>by omega
theorem GX {n i:Nat}(h:i<(bN n).length):(bN n)[i]=2*(i:Int)+2:=by simp [bN]
def uf (g:Gr)(live:List Int):List Int->List Int->List Int
 |row,[]=>row
 |row,a::avs=>uf g live (dw g.has row (g.opens live a)) avs
inductive MOrd (g:Gr) (olds kept:List Int):List Int->List Int->Prop
 |done {row:List Int}:uf g (olds++row) row (kept++row)=row->MOrd g olds kept row row
 |step {row r1 r:List Int}:uf g (olds++row) row (kept++row)≠row->Thr g (uf g (olds++row) row (kept++row)) row.length r1->MOrd g olds kept r1 r->MOrd g olds kept row r
structure IsMinor (g:Gr) (olds kept start b l:List Int):Prop where
 strong:Thr g (dw g.has [] start) 0 b
 all:MOrd g olds kept b l
theorem vS (g:Gr)(live:List Int): ∀(row avs:List Int), ∃t,uf g live row avs=row++t
 |row,[]=>⟨[],by simp [uf]⟩
 |row,a::avs=>by
  obtain ⟨t,h1, -⟩:=jb g.has row (g.opens live a);obtain ⟨t2,h2⟩:=vS g live (dw g.has row (g.opens live a)) avs;exact ⟨t++t2,by unfold uf;rw [h2,h1,V3]⟩
theorem GH (g:Gr)(live:List Int): ∀(row avs bs:List Int),uf g live row (avs++bs)=uf g live (uf g live row avs) bs
 |_,[],_=>rfl
 |row,a::avs,bs=>by
  show uf g live _ (avs++bs)=_;rw [GH g live _ avs bs];rfl
theorem GI {g:Gr}: ∀{row avs:List Int},uf g live row avs=row-> ∀a∈avs, ∀x∈g.opens live a,g.has x=true->x∈row
 | row,b::avs,h,a,ha,x,hx,hh=>by
  have h1:dw g.has row (g.opens live b)=row:=by
   obtain ⟨t,e1, -⟩:=jb g.has row (g.opens live b);obtain ⟨t2,e2⟩:=vS g live (dw g.has row (g.opens live b)) avs
   have h3:row++t++t2=row:=by rw [<-e1, <-e2];exact h
   have h4:=congrArg List.length h3;simp only [XS] at h4;have h5:t=[]:=WD U;rw [e1,h5,Wv]
  rcases W9.1 ha with e|ha
  ·subst e;have:=wc row _ hx hh;rwa [h1] at this
  refine GI (avs:=avs) ?_ a ha x hx hh;unfold uf at h;rw [h1] at h;exact h
theorem MOrd.app {g:Gr}{row r:List Int}(h:MOrd g olds kept row r): ∃t,r=row++t:=by
 induction h with
 |done _=>exact ⟨[],by simp⟩
 |step _ h1 _ ih=>
  rename_i row r1 _ _ _
  obtain ⟨t,rfl⟩:=ih;obtain ⟨t1,rfl⟩:=h1.app;obtain ⟨t2,h2⟩:=vS g (olds++row) row (kept++row);exact ⟨t2++t1++t,by rw [h2];simp [V3]⟩
theorem MOrd.closed {g:Gr}{row r:List Int}(h:MOrd g olds kept row r)(hc:CloG g row row.length):CloG g r r.length/\ ∀a∈kept++r, ∀x∈g.opens (olds++r) a,g.has x=true->x∈r:=by
 induction h with
 |done hp=>exact ⟨hc,GI hp⟩
 |step _ h1 _ ih=>
  rename_i row _ _ _ _
  obtain ⟨t,e⟩:=vS g (olds++row) row (kept++row);refine ih (h1.clo (by rw [e,XS];omega) ?_);rw [e];exact hc.app (Xx _)
theorem IsMinor.start {g:Gr}{start b l:List Int}(h:IsMinor g olds kept start b l)(hx:x∈start)(hh:g.has x=true):x∈l:=by
 obtain ⟨t,e⟩:=h.strong.app;obtain ⟨t2,e2⟩:=h.all.app;rw [e2,e];exact V4 _ (V4 _ (wc _ _ hx hh))
theorem IsMinor.closed {g:Gr}{start b l:List Int}(h:IsMinor g olds kept start b l):(∀a∈l, ∀x∈g.leads a,g.has x=true->x∈l)/\ ∀a∈kept++l, ∀x∈g.opens (olds++l) a,g.has x=true->x∈l:=by
 obtain ⟨h1,h2⟩:=h.all.closed (h.strong.clo (XD _) fun i _ _ hi=>absurd hi U);refine ⟨fun a ha x hx hh=> ?_,h2⟩;obtain ⟨i,hi,e⟩:=WX ha;exact h1 i a x hi (by rw [WO hi,e]) hx hh
def yB (a:Int):Bool:=decide (0<a)&&decide (a.tmod 2=1)
def MZ (m:VR):Gr:=⟨yB,fun a=>ce (aJ m a),fun live a=>dH N (aJ m a) live⟩
theorem tH (N:Nat)(a:Int):ge N a=some (yB a):=by
 unfold ge yB;cases decide (0<a)<;>cases decide (a.tmod 2=1)<;>rfl
theorem JW (k:Nat):yB (2*(k:Int)+1)=true:=by
 unfold yB;rw [tL U,V0 U,V0 U];rfl
theorem D6 (k:Nat):yB (2*(k:Int)+2)=false:=by
 unfold yB;rw [tL U,V1 (p:=(2*(k:Int)+2)%2=1) U,Wi]
structure Mt (m:VR) (met:List Int) (seen:List (Int×Bool)):Prop where
 nd:met.Nodup
 yng: ∀x∈met,yB x=true
 has: ∀x∈met,aw m x=true
 mem: ∀x,(lk seen x).getD false=decide (x∈met)
theorem Mt.len {roots:List VN}(hs:Small m roots)(h:Mt m met seen):met.length<=1200:=BI 1200 h.nd fun x hx=>⟨by have:=uu (h.has x hx);omega,by have:=zo hs (h.has x hx);omega⟩
theorem Mt.nil (m:VR):Mt m [] []:=⟨List.nodup_nil,by simp,by simp,fun x=>by simp;rfl⟩
theorem GQ (N:Nat){roots:List VN}(hs:Small m roots)(kp:List Int)(nx:Int)(h:Mt m met seen)(a:Int)(ha:yB a=true->aw m a=true): ∃seen',bV N ⟨m,kp,met,seen,nx⟩ a=some ⟨m,kp,dw yB met [a],seen',nx⟩/\Mt m (dw yB met [a]) seen':=by
 have hlen:=h.len hs;unfold bV;rw [tH,bs]
 dsimp only
 rw [h.mem a];have hl:dw yB met [a]=bif yB a&& !decide (a∈met) then met++ [a] else met:=rfl;rw [hl]
 cases hy:yB a with
 |false=>exact ⟨seen,rfl,h⟩
 | true=>
  by_cases hm:a∈met
  ·rw [V0 hm];exact ⟨seen,J,h⟩
  rw [V1 hm];refine ⟨wT seen a true,?_,?_⟩
  ·simp only [ct,bs,nf];rw [rF (by simp;omega)];rfl
  refine ⟨Xg.2 ⟨h.nd,by simp,fun x hx y hy e=>by rw [Xf] at hy;subst hy;subst e;exact hm hx⟩,fun x hx=> ?_,fun x hx=> ?_,fun x=> ?_⟩
  ·rcases W8.1 hx with hx|hx
   ·exact h.yng x hx
   rw [Xf] at hx;subst hx;exact hy
  ·rcases W8.1 hx with hx|hx
   ·exact h.has x hx
   rw [Xf] at hx;subst hx;exact ha hy
  rw [DA];show _=decide (x∈met++ [a]);by_cases e:a=x
  ·rw [if_pos e,V0 (by simp [e])];rfl
  rw [if_neg e,h.mem x];exact iA ⟨fun hx=>V4 _ hx,fun hx=>(W8.1 hx).elim id fun hx=>absurd (Xf.1 hx).symm e⟩
theorem CY {ρ:Type}(N:Nat){roots:List VN}(hs:Small m roots)(l:List Int)(hl:l.length<N)(a6:l.length<=5000)(hh:∀x∈l,yB x=true->aw m x=true)(L:Nat->Int->List VJ->List VJ->List Int->List Int->List (Int×Bool)->Int->Option ρ)(K:List VJ->List VJ->List Int->List Int->List (Int×Bool)->Int->Option ρ)(hrec:∀k i hJ O kp met seen nx,L (k+1) i hJ O kp met seen nx=bif decide (i<(l.length:Int)) then ((ap l i).bind fun x=>(bV N (⟨(⟨hJ,O⟩:VR),kp,met,seen,nx⟩:VX) x).bind fun y=>aE (in64 (i+1)) (L k (i+1) y.m_.Yd y.m_.Yc y.YF y.Yq y.YE y.Yy)) else K hJ O kp met seen nx)(kp:List Int)(nx:Int)(h:Mt m met seen)(R:ρ->Prop)(hk:∀seen',Mt m (dw yB met l) seen'->Sat (K m.Yd m.Yc kp (dw yB met l) seen' nx) R):Sat (L N 0 m.Yd m.Yc kp met seen nx) R:=by
 refine cD (fun k i (s:List Int×List (Int×Bool))=>L k (i:Int) m.Yd m.Yc kp s.1 s.2 nx) l.length (fun i s=>Mt m s.1 s.2/\s.1=dw yB met (l.take i)) R ?_ ?_ N 0 (met,seen) U U ⟨h,J⟩
 ·rintro k i ⟨mt,sn⟩ hi ⟨h1,h2⟩ go;simp only at h1 h2;show Sat (L (k+1) (i:Int) m.Yd m.Yc kp mt sn nx) R;obtain ⟨sn',e1,e2⟩:=GQ N hs kp nx h1 l[i] (hh _ (XY _));have e1':bV N ⟨⟨m.Yd,m.Yc⟩,kp,mt,sn,nx⟩ l[i]=some ⟨m,kp,dw yB mt [l[i]],sn',nx⟩:=e1;rw [hrec,dr U,ct,aI hi,bs,e1',bs,r64 U U];exact go (dw yB mt [l[i]],sn') ⟨e2,by show dw yB mt [l[i]]=_;rw [ay hi,um, <-h2]⟩
 rintro k ⟨mt,sn⟩ ⟨h1,h2⟩;simp only [XV] at h1 h2;show Sat (L (k+1) _ m.Yd m.Yc kp mt sn nx) R;rw [hrec,db U,cf];subst h2;exact hk sn h1
theorem uk (N:Nat){roots:List VN}(hs:Small m roots)(kp met:List Int)(seen:List (Int×Bool))(nx:Int){a:Int}(ha:aw m a=true):bv N ⟨m,kp,met,seen,nx⟩ a=some (aJ m a):=by
 have hy:=hs.young;have ho:=hs.old;unfold bv;rw [tH,bs];rcases fu ha with ⟨i,hi,rfl⟩|⟨i,hi,rfl⟩
 ·rw [JW,ct,zM U,show (2*(i:Int)+1) / 2=i by omega,r64 U U,wi m i hi,aI hi,bs]
 rw [D6,cf,zM U,show (2*(i:Int)+2) / 2=(i:Int)+1 by omega,r64 U U,r64 U U,show (i:Int)+1 - 1=i by omega,rY m i hi,aI hi,bs]
def Whole (m:VR):Prop:= ∀a,aw m a=true-> ∀x∈cp (aJ m a),aw m x=true
theorem Whole.leads (h:Whole m){a:Int}(ha:aw m a=true): ∀x∈ce (aJ m a),aw m x=true:=fun x hx=>h a ha x (V4 _ hx)
theorem Whole.opens (h:Whole m){N:Nat}{a:Int}(ha:aw m a=true): ∀x∈dH N (aJ m a) live,aw m x=true:=fun x hx=>by
 unfold dH at hx
 cases hw:sv N (aJ m a) with
 |false=>rw [hw] at hx;cases hx
 |true=>
  rw [hw] at hx;obtain ⟨v,hv,hb,rfl⟩:=zg hx;exact h a ha _ (Cs (V5 _ hv) hb)
theorem Ac (N:Nat)(hN:6500<N){roots:List VN}(hs:Small m roots)(hw:Whole m)(kp:List Int)(h:Mt m met seen)(k:Nat)(hk:k<=met.length):
  Sat (eX N ⟨m,kp,met,seen,(k:Int)⟩) fun r=> ∃seen',r=⟨m,kp,r.Yq,seen',(r.Yq.length:Int)⟩/\Mt m r.Yq seen'/\Thr (MZ N m) met k r.Yq:=by
 unfold eX;refine rP (fun f (s:List Int×List (Int×Bool)×Nat)=>bC N f m.Yd m.Yc kp s.1 s.2.1 (s.2.2:Int)) (fun s=>1300 - s.2.2) (fun s=>Mt m s.1 s.2.1/\s.2.2<=s.1.length/\ ∀r,Thr (MZ N m) s.1 s.2.2 r->Thr (MZ N m) met k r) _ ?_ N (met,seen,k) (by show 1300 - k<N;omega) ⟨h,hk,fun _ h=>h⟩;rintro f ⟨mt,sn,j⟩ ⟨h1,h3,h4⟩ go;show Sat (bC N (f+1) m.Yd m.Yc kp mt sn (j:Int)) _;simp only at h1 h3 h4;have hlen:=h1.len hs;rw [bC.eq_2];by_cases hj:j<mt.length
 ·have hh:=h1.has _ (XY hj);have hsm:=hs.at_ mt[j];have e1:bv N ⟨⟨m.Yd,m.Yc⟩,kp,mt,sn,(j:Int)⟩ mt[j]=some (aJ m mt[j]):=uk N hs kp mt sn (j:Int) hh;have hll:=np (aJ m mt[j]);rw [dr U,ct,aI hj,bs,e1,bs,qL N U _ U U,bs]
  refine CY N hs (ce (aJ m mt[j])) U U (fun x hx _=>hw.leads hh x hx) (gg N (bC N f) (ce (aJ m mt[j]))) (gh N (bC N f)) (fun _ _ _ _ _ _ _ _=>by rw [gg.eq_2]) kp (j:Int) h1 _ fun sn' h5=> ?_
  unfold gh;rw [r64 U U]
  have hge:mt.length<=(dw yB mt (ce (aJ m mt[j]))).length:=by
   obtain ⟨t,e, -⟩:=jb yB mt (ce (aJ m mt[j]));rw [e,XS];omega
  exact go (dw yB mt (ce (aJ m mt[j])),sn',j+1) (by show 1300 - (j+1)<1300 - j;omega) ⟨h5,by show j+1<=(dw yB mt (ce (aJ m mt[j]))).length;omega,fun r hr=>h4 r (.step (WO hj) hr)⟩
 have:j=mt.length:=by omega
 subst this;rw [db U,cf];exact ad ⟨sn,J,h1,h4 _ (.done (Xx _))⟩
theorem Fj (N:Nat)(hN:6500<N){roots:List VN}(hs:Small m roots)(kp:List Int)(nx:Int)(h:Mt m met seen):fk N ⟨m,kp,met,seen,nx⟩=some (bN m.Yc.length++met):=by
 apply Sat.eq;have ho:=hs.old;have hlen:=h.len hs;unfold fk;refine cD (fun k i (s:List Int)=>ew N ⟨m,kp,met,seen,nx⟩ k s (i:Int)) m.Yc.length (fun i s=>s=bN i) _ ?_ ?_ N 0 [] U U J
 ·rintro k i s hi rfl go;show Sat (ew N ⟨m,kp,met,seen,nx⟩ (k+1) (bN i) (i:Int)) _
  have hev:(bN i).length=i:=by unfold bN;simp
  rw [ew.eq_2,dr (by show (i:Int)<(m.Yc.length:Int);omega),ct,r64 U U,r64 U U,rF (by simp;omega),r64 U U];refine go _ ?_;unfold bN;rw [List.range_succ,W5];rfl
 rintro k s rfl;show Sat (ew N ⟨m,kp,met,seen,nx⟩ (k+1) _ _) _
 have hev:(bN m.Yc.length).length=m.Yc.length:=by unfold bN;simp
 rw [ew.eq_2,db (by show (m.Yc.length:Int)<=(m.Yc.length:Int);omega),cf];unfold nl
 dsimp only
 rw [rF U];exact ad J
theorem JB (N:Nat)(a b:List Int)(ha:a.length<=100000)(hb:b.length<=100000):oG N a b=some (a++b):=by
 unfold oG qA sc nE pD;rw [r64 U U,db (a:=0+(a.length:Int)) U,cf,r64 U U,db (a:=0+(a.length:Int)+(b.length:Int)) U,cf,r64 U U,r64 U U,cf];by_cases h:0<a.length+b.length
 ·rw [dr U,ct,gp ⟨by omega,by omega⟩,bs,rF (by simp;omega),rF (by simp;omega)];rfl
 rw [db U,cf,bs,rF (by simp;omega),rF (by simp;omega)];rfl
theorem Kz (N:Nat)(hN:6500<N){roots:List VN}(hs:Small m roots)(hw:Whole m)(kp:List Int)(hk:∀x∈kp,aw m x=true)(hkl:kp.length<=1200)(nx:Int)(h:Mt m met seen):
  Sat (iz N ⟨m,kp,met,seen,nx⟩) fun r=> ∃seen',r=(decide ((met.length:Int)<(r.2.Yq.length:Int)),⟨m,kp,r.2.Yq,seen',nx⟩)/\Mt m r.2.Yq seen'/\r.2.Yq=uf (MZ N m) (bN m.Yc.length++met) met (kp++met):=by
 have hlen:=h.len hs;have ho:=hs.old
 have hev:(bN m.Yc.length).length=m.Yc.length:=by unfold bN;simp
 unfold iz;rw [Fj N hN hs kp nx h,bs]
 dsimp only
 rw [JB N kp met U U,bs]
 have hL:(bN m.Yc.length++met).length<=5000:=by rw [XS];omega
 have hC:(kp++met).length<=2400:=by rw [XS];omega
 generalize hlv:bN m.Yc.length++met=live at*
 have hcm: ∀x∈kp++met,aw m x=true:=fun x hx=>(W8.1 hx).elim (hk x) (h.has x)
 generalize hcc:kp++met=cs at*;refine cD (fun k i (s:List Int×List (Int×Bool))=>bE N ⟨m,kp,met,seen,nx⟩ cs live k (i:Int) m.Yd m.Yc kp s.1 s.2 nx) cs.length (fun i s=>Mt m s.1 s.2/\s.1=uf (MZ N m) live met (cs.take i)) _ ?_ ?_ N 0 (met,seen) U U ⟨h,J⟩
 ·rintro k i ⟨mt,sn⟩ hi ⟨h1,h2⟩ go;simp only at h1 h2;show Sat (bE N ⟨m,kp,met,seen,nx⟩ cs live (k+1) (i:Int) m.Yd m.Yc kp mt sn nx) _;have hh:=hcm _ (XY hi);have hsm:=hs.at_ cs[i];have e1:bv N ⟨⟨m.Yd,m.Yc⟩,kp,mt,sn,nx⟩ cs[i]=some (aJ m cs[i]):=uk N hs kp mt sn nx hh;have hol:=E4 N (aJ m cs[i]) live;rw [bE.eq_2,dr U,ct,aI hi,bs,e1,bs,E3 N hN live U _ U U,bs]
  refine CY N hs (dH N (aJ m cs[i]) live) U U (fun x hx _=>hw.opens hh x hx) (ji N (bE N ⟨m,kp,met,seen,nx⟩ cs live k) ⟨m,kp,met,seen,nx⟩ cs (i:Int) (dH N (aJ m cs[i]) live) live) (jk N (bE N ⟨m,kp,met,seen,nx⟩ cs live k) ⟨m,kp,met,seen,nx⟩ cs (i:Int) live) (fun _ _ _ _ _ _ _ _=>by rw [ji.eq_2]) kp nx h1 _ fun sn' h5=> ?_
  unfold jk;rw [r64 U U];refine go (dw yB mt (dH N (aJ m cs[i]) live),sn') ⟨h5,?_⟩;show dw yB mt (dH N (aJ m cs[i]) live)=_;rw [ay hi,GH, <-h2];rfl
 rintro k ⟨mt,sn⟩ ⟨h1,h2⟩;simp only [XV] at h1 h2;show Sat (bE N ⟨m,kp,met,seen,nx⟩ cs live (k+1) _ m.Yd m.Yc kp mt sn nx) _;rw [bE.eq_2,db U,cf];unfold nk;exact ad ⟨sn,J,h1,h2⟩
def EA (m:VR)(roots:List VN)(kept:List Int):List Int:=bP roots++kept.flatMap fun a=>ce (aJ m a)
theorem Fn (N:Nat)(v:VN):lT N v=some (v.N,bd v):=by
 unfold lT;rw [uo,bs]
theorem MP (N:Nat)(hN:6500<N){roots:List VN}(hs:Small m roots)(hw:Whole m)(hr:∀x∈bP roots,aw m x=true)(kept:List Int)(hk:∀x∈kept,aw m x=true)(hkl:kept.length<=1200):
  Sat (pv N m roots kept) fun r=> ∃seen nx b,r=⟨m,kept,r.Yq,seen,nx⟩/\Mt m r.Yq seen/\IsMinor (MZ N m) (bN m.Yc.length) kept (EA m roots kept) b r.Yq:=by
 have hrl:=hs.roots
 -- the passes
 have passes: ∀(b:List Int) (seen:List (Int×Bool)),Mt m b seen->Thr (MZ N m) (dw yB [] (EA m roots kept)) 0 b->Sat (kW N N m.Yd m.Yc kept b seen (b.length:Int)) fun r=> ∃seen nx b,r=⟨m,kept,r.Yq,seen,nx⟩/\Mt m r.Yq seen/\IsMinor (MZ N m) (bN m.Yc.length) kept (EA m roots kept) b r.Yq:=by
  intro b seen h hb;have h0:=h.len hs;refine rP (fun f (s:List Int×List (Int×Bool))=>kW N f m.Yd m.Yc kept s.1 s.2 (s.1.length:Int)) (fun s=>1300 - s.1.length) (fun s=>Mt m s.1 s.2/\ ∀r,MOrd (MZ N m) (bN m.Yc.length) kept s.1 r->MOrd (MZ N m) (bN m.Yc.length) kept b r) _ ?_ N (b,seen) (by show 1300 - b.length<N;omega) ⟨h,fun _ h=>h⟩;rintro f ⟨mt,sn⟩ ⟨h1,h2⟩ go;simp only at h1 h2;show Sat (kW N (f+1) m.Yd m.Yc kept mt sn (mt.length:Int)) _;have hlen:=h1.len hs;obtain ⟨⟨p,x⟩,e0,sn',e1,h3,h4⟩:=Kz N hN hs hw kept hk hkl (mt.length:Int) h1;simp only at e1 h3 h4;obtain ⟨e1,e2⟩:=XJ e1;obtain ⟨t,ht⟩:=vS (MZ N m) (bN m.Yc.length++mt) mt (kept++mt);have hlen3:=h3.len hs;have e0':iz N ⟨⟨m.Yd,m.Yc⟩,kept,mt,sn,(mt.length:Int)⟩=some (p,x):=e0;rw [kW.eq_2,e0',bs]
  dsimp only
  rw [e1];generalize hm':x.Yq=mt' at*;subst e2
  refine aK (fun hlt=> ?_) fun hge=> ?_
  ·refine Sat.bind (Ac N hN hs hw kept h3 mt.length (by rw [h4,ht,XS];omega)) ?_;rintro r ⟨sn3,e3,h5,h6⟩;have hlen5:=h5.len hs;rw [e3]
   dsimp only
   refine go (r.Yq,sn3) ?_ ⟨h5,fun r' hr'=>h2 r' (.step ?_ (by rw [<-h4];exact h6) hr')⟩
   ·obtain ⟨t3,e4⟩:=h6.app;show 1300 - r.Yq.length<1300 - mt.length
    have:mt'.length<=r.Yq.length:=by rw [e4,XS];omega
    omega
   rw [<-h4];intro e;rw [e] at hlt;omega
  have e:mt'=mt:=by
   rw [ht] at h4;have h0:t=[]:=WD (by rw [h4,XS] at hge;omega);rw [h4,h0,Wv]
  subst e;unfold vo;exact ad ⟨sn',(mt'.length:Int),b,J,h3,⟨hb,h2 _ (.done h4.symm)⟩⟩
 -- the kept cells
 have keptL: ∀(row:List Int) (seen:List (Int×Bool)),Mt m row seen->row=dw yB [] (bP roots)->Sat (d7 N kept N 0 m.Yd m.Yc kept row seen 0) fun r=> ∃seen nx b,r=⟨m,kept,r.Yq,seen,nx⟩/\Mt m r.Yq seen/\IsMinor (MZ N m) (bN m.Yc.length) kept (EA m roots kept) b r.Yq:=by
  intro row seen h hrow;refine cD (fun k i (s:List Int×List (Int×Bool))=>d7 N kept k (i:Int) m.Yd m.Yc kept s.1 s.2 0) kept.length (fun i s=>Mt m s.1 s.2/\s.1=dw yB [] (bP roots++(kept.take i).flatMap fun a=>ce (aJ m a))) _ ?_ ?_ N 0 (row,seen) U U ⟨h,by simpa using hrow⟩
  ·rintro k i ⟨mt,sn⟩ hi ⟨h1,h2⟩ go;simp only at h1 h2;show Sat (d7 N kept (k+1) (i:Int) m.Yd m.Yc kept mt sn 0) _;have hh:=hk _ (XY hi);have hsm:=hs.at_ kept[i];have e1:bv N ⟨⟨m.Yd,m.Yc⟩,kept,mt,sn,0⟩ kept[i]=some (aJ m kept[i]):=uk N hs kept mt sn 0 hh;have hll:=np (aJ m kept[i]);rw [d7.eq_2,dr U,ct,aI hi,bs,e1,bs,qL N U _ U U,bs]
   refine CY N hs (ce (aJ m kept[i])) U U (fun x hx _=>hw.leads hh x hx) (ri N (d7 N kept k) kept (i:Int) (ce (aJ m kept[i]))) (rj N (d7 N kept k) kept (i:Int)) (fun _ _ _ _ _ _ _ _=>by rw [ri.eq_2]) kept 0 h1 _ fun sn' h5=> ?_
   unfold rj;rw [r64 U U];refine go (dw yB mt (ce (aJ m kept[i])),sn') ⟨h5,?_⟩;show dw yB mt (ce (aJ m kept[i]))=_;rw [ay hi,WG, <-V3,um, <-h2];simp
  rintro k ⟨mt,sn⟩ ⟨h1,h2⟩;simp only [XV] at h1 h2;show Sat (d7 N kept (k+1) _ m.Yd m.Yc kept mt sn 0) _;rw [d7.eq_2,db U,cf];unfold vp;refine Sat.bind (Ac N hN hs hw kept h1 0 (XD _)) ?_;rintro r ⟨sn3,e3,h5,h6⟩;rw [e3]
  dsimp only
  exact passes r.Yq sn3 h5 (by rw [h2] at h6;exact h6)
 -- the roots
 unfold pv;refine cD (fun k i (s:List Int×List (Int×Bool))=>iM N roots kept k (i:Int) m.Yd m.Yc kept s.1 s.2 0) roots.length (fun i s=>Mt m s.1 s.2/\s.1=dw yB [] (bP (roots.take i))) _ ?_ ?_ N 0 ([],[]) U U ⟨Mt.nil m,J⟩
 ·rintro k i ⟨mt,sn⟩ hi ⟨h1,h2⟩ go;simp only at h1 h2;show Sat (iM N roots kept (k+1) (i:Int) m.Yd m.Yc kept mt sn 0) _
  have hnext:dw yB [] (bP (roots.take (i+1)))=dw yB mt (bP [roots[i]]):=by
   rw [ay hi,zw,um, <-h2]
  rw [iM.eq_2,dr U,ct,aI hi,bs,Fn,bs]
  dsimp only
  unfold rk;cases hb:bd roots[i]
  ·rw [cf,r64 U U];refine go (mt,sn) ⟨h1,?_⟩;show mt=_;rw [hnext];simp [bP,hb,dw]
  rw [ct];have hroot:aw m roots[i].N=true:=hr _ (qW.2 ⟨_,XY _,hb,rfl⟩)
  obtain ⟨sn',e1,e2⟩:=GQ N hs kept 0 h1 roots[i].N fun _=>hroot
  have e1':bV N ⟨⟨m.Yd,m.Yc⟩,kept,mt,sn,0⟩ roots[i].N=_:=e1;rw [e1',bs]
  dsimp only
  rw [r64 U U];refine go (dw yB mt [roots[i].N],sn') ⟨e2,?_⟩;show dw yB mt [roots[i].N]=_;rw [hnext];simp [bP,hb]
 rintro k ⟨mt,sn⟩ ⟨h1,h2⟩;simp only [XV] at h1 h2;show Sat (iM N roots kept (k+1) _ m.Yd m.Yc kept mt sn 0) _;rw [iM.eq_2,db U,cf];unfold wB;exact keptL mt sn h1 h2
def E9 (m:VR)(kept:List Int):Bool:=(List.range m.Yc.length).all fun i=> !(cp (aJ m (2*(i:Int)+2))).any yB||decide ((2*(i:Int)+2)∈kept)
def uq (m:VR)(kept:List Int):Bool:=kept.all (fun a=> !yB a&&aw m a)&&decide (kept.Pairwise (· < ·))
def CE (m:VR):Bool:=(m.Yd++m.Yc).all (FH N m)
def Fl (m:VR)(roots:List VN)(kept:List Int):Bool:=iY m (bP roots)&&CE N m&&uq m kept&&E9 m kept
theorem Dz (N:Nat)(hN:6500<N)(c:VJ)(hS:c.Yb.length<=600)(hM:c.Ya.length<=2900):jR N c=some (cp c):=by
 have h1:=np c;have h2:=rz c;unfold jR;rw [qL N hN c U U,bs,xv N hN c U U,bs,rF U];rfl
theorem Eo (N:Nat)(f:Int->Option Bool)(p:Int->Bool)(l:List Int)(hl:l.length<N)(a6:l.length<=6500)(hf:∀x∈l,f x=some (p x)):bD N l f=some (l.any p):=by
 have key: ∀k i:Nat,l.length<k+i->i<=l.length->Sat (dD N f l k (i:Int)) fun r=>decide (0<=r)=(l.drop i).any p:=by
  intro k
  induction k with
  |zero=>intro i h1 h2;omega
  | succ k ih=>
   intro i h1 h2;rw [dD.eq_2];by_cases hi:i<l.length
   ·have h3:=ih (i+1) U hi;rw [show (((i+1:Nat)):Int)=(i:Int)+1 by omega] at h3;rw [dr U,ct,aI hi,bs,Wz hi,List.any_cons,hf _ (XY _),bs,r64 U U];cases p l[i]
    ·exact h3
    exact ad (by rw [V0 U];rfl)
   rw [db U,cf,WA U];exact ad J
 obtain ⟨r,h1,h2⟩:=key N 0 U U;have h1':dD N f l N 0=some r:=h1;unfold bD ls;rw [h1',bs,h2];rfl
theorem Rj (N:Nat)(f:VN->Option Bool)(p:VN->Bool)(l:List VN)(hl:l.length<N)(a6:l.length<=6500)(hf:∀x∈l,f x=some (p x)):cY N l f=some (l.any p):=by
 have key: ∀k i:Nat,l.length<k+i->i<=l.length->Sat (dy N f l k (i:Int)) fun r=>decide (0<=r)=(l.drop i).any p:=by
  intro k
  induction k with
  |zero=>intro i h1 h2;omega
  | succ k ih=>
   intro i h1 h2;rw [dy.eq_2];by_cases hi:i<l.length
   ·have h3:=ih (i+1) U hi;rw [show (((i+1:Nat)):Int)=(i:Int)+1 by omega] at h3;rw [dr U,ct,aI hi,bs,Wz hi,List.any_cons,hf _ (XY _),bs,r64 U U];cases p l[i]
    ·exact h3
    exact ad (by rw [V0 U];rfl)
   rw [db U,cf,WA U];exact ad J
 obtain ⟨r,h1,h2⟩:=key N 0 U U;have h1':dy N f l N 0=some r:=h1;unfold cY kh;rw [h1',bs,h2];rfl
theorem Io (p:α->Bool): ∀l:List α,l.any (fun x=> !p x)=!l.all p
 | []=>rfl
 |x::l=>by rw [List.any_cons,List.all_cons,Io p l];cases p x<;>rfl
theorem Ig (N:Nat)(a b:List VJ)(ha:a.length<=100000)(hb:b.length<=100000):jF N a b=some (a++b):=by
 unfold jF mo mY jf lx;rw [r64 U U,db (a:=0+(a.length:Int)) U,cf,r64 U U,db (a:=0+(a.length:Int)+(b.length:Int)) U,cf,r64 U U,r64 U U,cf];by_cases h:0<a.length+b.length
 ·rw [dr U,ct,gp ⟨by omega,by omega⟩,bs,rF (by simp;omega),rF (by simp;omega)];rfl
 rw [db U,cf,bs,rF (by simp;omega),rF (by simp;omega)];rfl
theorem J6 (N:Nat)(hN:6500<N){roots:List VN}(hs:Small m roots)(hw:W64 m):rf N m=some (CE N m):=by
 have h1:=hs.young;have h2:=hs.old;unfold rf CE;rw [Ig N _ _ U U,bs]
 have hl:(m.Yd++m.Yc).length<=1200:=by rw [XS];omega
 refine I7 (fun k i=>pP N (m.Yd++m.Yc) m k i) (m.Yd++m.Yc) _ (fun k i h=> ?_) (fun k=> ?_) N U
 ·have hm:(m.Yd++m.Yc)[i]∈m.Yd++m.Yc:=XY _;have hc:=hs.cells _ hm;obtain ⟨⟨a1,a2⟩,a3,a4⟩:=Cz hs hw hm;rw [pP.eq_2,dr U,ct,aI h,bs];generalize (m.Yd++m.Yc)[i]=c at*;obtain ⟨b,hb, -⟩:=CK N U c U U
  rw [xJ N U _ U U,hb,bs,Dz N U c hc.1 hc.2,bs,Eo N _ (fun x=> !aw m x) (cp c) (by unfold cp;rw [XS];omega) (by unfold cp;rw [XS];omega) (fun x hx=>by
   unfold qK
   rw [we N m x ((W8.1 hx).elim (a2 x) (a4 x)),bs]),Io]
  unfold FH;rw [hb,r64 U U]
  have e:(cp c).all (aw m)=(iY m (ce c)&&iY m (mw c)):=by unfold cp iY;rw [List.all_append]
  rw [e];cases b<;>cases iY m (ce c)&&iY m (mw c)<;>rfl
 rw [pP.eq_2,db U,cf];rfl
theorem N1 (l:List Int):decide (l.Pairwise (· < ·))=(List.range l.length).all fun i=>decide (i=0)||decide (l.getD (i - 1) 0<l.getD i 0):=by
 rw [Bool.eq_iff_iff,XO,Wu];constructor
 ·intro h i hi;rw [Xe] at hi;by_cases h0:i=0
  ·rw [V0 h0];rfl
  have:=Xh.1 h (i - 1) i U hi U;rw [V0 (p:=l.getD (i - 1) 0<l.getD i 0) (by simpa [List.getD,hi,show i - 1<l.length by omega] using this),Bool.or_true]
 intro h
 refine Xh.2 fun i j hi hj hij=> ?_
 have step: ∀k,i+k+1<l.length->l[i]'hi<l.getD (i+k+1) 0:=by
  intro k
  induction k with
  |zero=>
   intro hk;have:=h (i+1) (Xe.2 hk);rw [V1 (p:=i+1=0) U,Bool.false_or,XO,Nat.add_sub_cancel] at this;simpa [List.getD,hi] using this
  |succ k ih=>
   intro hk;have h1:=ih U;have:=h (i+k+1+1) (Xe.2 U);rw [V1 (p:=i+k+1+1=0) U,Bool.false_or,XO,Nat.add_sub_cancel] at this;show l[i]'hi<l.getD (i+k+1+1) 0;omega
 have:=step (j - i - 1) U;rw [show i+(j - i - 1)+1=j by omega] at this;simpa [List.getD,hj] using this
theorem GR (N:Nat)(hN:6500<N){roots:List VN}(hs:Small m roots)(hw:W64 m)(hr:∀v∈roots,in64 v.N)(kept:List Int)(hk:kept.length<=5000)(a6:∀x∈kept,in64 x):rO N m roots kept=some (Fl N m roots kept):=by
 have h3:=hs.roots;have ho:=hs.old
 -- the old cells
 have olds:mf N kept m=some (E9 m kept):=by
  unfold mf E9;have hlr:(List.range m.Yc.length).length=m.Yc.length:=List.length_range;refine I7 (fun k i=>rh N m kept k i) (List.range m.Yc.length) _ (fun k i h=> ?_) (fun k=> ?_) N U
  ·rw [hlr] at h;have hm:m.Yc[i]∈m.Yd++m.Yc:=V5 _ (XY _);have hc:=hs.cells _ hm;obtain ⟨⟨a1,a2⟩,a3,a4⟩:=Cz hs hw hm;rw [rh.eq_2,dr U,ct,aI h,bs,Dz N U _ hc.1 hc.2,bs,Eo N _ yB (cp m.Yc[i]) (by unfold cp;rw [XS];omega) (by unfold cp;rw [XS];omega) (fun x _=>tH N x),bs,r64 (a:=2*(i:Int)) U U,r64 (a:=2*(i:Int)+2) U U,rt N hN kept hk,bs,r64 U U,List.getElem_range,rY m i h];cases (cp m.Yc[i]).any yB<;>cases decide ((2*(i:Int)+2)∈kept)<;>rfl
  rw [hlr,rh.eq_2,db U,cf];rfl
 -- the kept addresses
 have hkept:oA N kept m N 0=bif uq m kept then mf N kept m else some false:=by
  have hlr:(List.range kept.length).length=kept.length:=List.length_range;have:=zk (fun k i=>oA N kept m k i) (List.range kept.length) (fun i=>(!yB (kept.getD i 0)&&aw m (kept.getD i 0))&&(decide (i=0)||decide (kept.getD (i - 1) 0<kept.getD i 0))) (some false) (mf N kept m) (fun k i h=> ?_) (fun k=> ?_) N U
  ·rw [this]
   have e:((List.range kept.length).all fun i=>(!yB (kept.getD i 0)&&aw m (kept.getD i 0))&&(decide (i=0)||decide (kept.getD (i - 1) 0<kept.getD i 0)))=uq m kept:=by
    unfold uq;rw [N1]
    have e2:kept.all (fun a=> !yB a&&aw m a)=(List.range kept.length).all fun i=> !yB (kept.getD i 0)&&aw m (kept.getD i 0):=by
     rw [Bool.eq_iff_iff,Wu,Wu];constructor
     ·intro h i hi;rw [Xe] at hi
      have:kept.getD i 0=kept[i]:=by simp [List.getD,hi]
      rw [this];exact h _ (XY _)
     intro h x hx;obtain ⟨i,hi,rfl⟩:=WX hx;have:=h i (Xe.2 hi)
     rwa [show kept.getD i 0=kept[i] by simp [List.getD,hi]] at this
    rw [e2]
    induction List.range kept.length with
    |nil=>rfl
    |cons a l ih=>rw [List.all_cons,List.all_cons,List.all_cons,ih];cases (!yB (kept.getD a 0)&&aw m (kept.getD a 0))<;>cases (decide (a=0)||decide (kept.getD (a - 1) 0<kept.getD a 0))<;>simp
   rw [e]
  ·rw [hlr] at h
   have hg:kept.getD i 0=kept[i]:=by simp [List.getD,h]
   rw [oA.eq_2,dr U,ct,aI h,bs,tH,bs,we N m _ (a6 _ (XY _)),r64 (a:=(i:Int)+1) U U,List.getElem_range,hg];by_cases h0:i=0
   ·subst h0;rw [db (a:=0) (b:=((0:Nat):Int)) U];cases yB kept[0]<;>cases aw m kept[0]<;>rfl
   have hp:ap kept ((i:Int) - 1)=some (kept.getD (i - 1) 0):=by
    have:=aI (xs:=kept) (i:=i - 1) U;rw [show (((i - 1:Nat)):Int)=(i:Int) - 1 by omega] at this;rw [this];simp [List.getD,show i - 1<kept.length by omega]
   rw [dr (a:=0) (b:=(i:Int)) U,ct,r64 (a:=(i:Int) - 1) U U,hp,V1 h0];simp only [bs];by_cases hlt:kept.getD (i - 1) 0<kept[i]
   ·rw [Oz hlt,V0 hlt];cases yB kept[i]<;>cases aw m kept[i]<;>rfl
   rw [Oy U,V1 hlt];cases yB kept[i]<;>cases aw m kept[i]<;>rfl
  rw [hlr,oA.eq_2,db U,cf]
 have hroots:cY N roots (fun x=>pR N x m)=some (!iY m (bP roots)):=by
  rw [Rj N _ (fun v=> !(!bd v||aw m v.N)) roots U U (fun v hv=>by
   unfold pR;rw [Fn,bs]
   dsimp only
   rw [we N m _ (hr v hv),bs]
   cases bd v<;>cases aw m v.N<;>rfl),Io]
  unfold iY bP;rw [all_map,F1]
 unfold rO Fl;rw [hroots,bs,J6 N hN hs hw,bs,hkept,olds];cases iY m (bP roots)<;>cases CE N m<;>cases uq m kept<;>rfl
def FG (m:VR)(roots:List VN):Bool:=iY m (bP roots)&&CE N m
def uT (m:VR)(i:Nat):Bool:=(cp (aJ m (2*(i:Int)+2))).any yB
def lr (m:VR):List Int:=((List.range m.Yc.length).filter (uT m)).map fun i:Nat=>2*(i:Int)+2
theorem tz:x∈lr m↔ ∃i:Nat,i<m.Yc.length/\uT m i=true/\x=2*(i:Int)+2:=by
 unfold lr;simp only [Xc,Xb,Xe];constructor
 ·rintro ⟨i,⟨h1,h2⟩,rfl⟩;exact ⟨i,h1,h2,J⟩
 rintro ⟨i,h1,h2,rfl⟩;exact ⟨i,⟨h1,h2⟩,J⟩
theorem MU (h:x∈lr m):aw m x=true/\yB x=false:=by
 obtain ⟨i,h1, -,rfl⟩:=tz.1 h;exact ⟨by rw [sy];exact V0 h1,D6 i⟩
theorem Jc (m:VR):uq m (lr m)=true:=by
 unfold uq;rw [XW,XO,Wu];refine ⟨fun x hx=> ?_,?_⟩
 ·obtain ⟨h1,h2⟩:=MU hx;rw [h1,h2];rfl
 unfold lr;refine List.Pairwise.map _ (fun a b (h:a<b)=> ?_) ((List.pairwise_lt_range).filter _);omega
theorem P6 (m:VR):E9 m (lr m)=true:=by
 unfold E9;rw [Wu];intro i hi;rw [Xe] at hi;cases h:(cp (aJ m (2*(i:Int)+2))).any yB
 ·rfl
 have:(2*(i:Int)+2)∈lr m:=tz.2 ⟨i,hi,h,rfl⟩;rw [V0 this];rfl
theorem MM (N:Nat)(m:VR)(roots:List VN):Fl N m roots (lr m)=FG N m roots:=by
 unfold Fl FG;rw [Jc,P6,Bool.and_true,Bool.and_true]
theorem ie {n:Nat}:x∈bN n↔ ∃i:Nat,i<n/\x=2*(i:Int)+2:=by
 unfold bN;simp only [Xc,Xe];constructor
 ·rintro ⟨i,h,rfl⟩;exact ⟨i,h,J⟩
 rintro ⟨i,h,rfl⟩;exact ⟨i,h,J⟩
theorem Jh {a:Int}(h:aw m a=true)(hy:yB a=false): ∃i:Nat,i<m.Yc.length/\a=2*(i:Int)+2:=by
 rcases fu h with ⟨i,hi,rfl⟩|h
 ·rw [JW] at hy;cases hy
 exact h
theorem Kq {N:Nat}{l:List Int}(h:x∈dH N c l):x∈cp c:=by
 unfold dH at h
 cases hw:sv N c with
 |false=>rw [hw] at h;cases h
 |true=>
  rw [hw] at h;obtain ⟨v,hv,hb,rfl⟩:=zg h;exact Cs (V5 _ hv) hb
theorem Cc {N:Nat}{roots:List VN}(h:FG N m roots=true):Whole m/\(∀x∈bP roots,aw m x=true)/\ ∀c∈m.Yd++m.Yc,FH N m c=true:=by
 unfold FG at h;rw [XW] at h
 have h2: ∀c∈m.Yd++m.Yc,FH N m c=true:=fun c hc=>tq h.2 hc
 refine ⟨fun a ha x hx=> ?_,fun x hx=>tq h.1 hx,h2⟩
 have h3:=h2 (aJ m a) (by
  unfold aw at ha;unfold aJ
  cases hc:jr m a with
  |none=>rw [hc] at ha;cases ha
  |some c=>exact uI hc)
 unfold FH at h3;rw [XW,XW] at h3;rcases W8.1 hx with hx|hx
 ·exact tq h3.2.1 hx
 exact tq h3.2.2 hx
def Bi (met to:List Int)(a:Int):Int:=if a∈met then to.getD (met.idxOf a) 0 else a
theorem K7 {g:α->α}{l:List α}{i:Nat}(h:i<l.length):ap ((l.take i).map g++l.drop i) (i:Int)=some l[i]:=by
 have h1:i<((l.take i).map g++l.drop i).length:=by simp;omega
 rw [aI h1]
 congr 1
 rw [List.getElem_append_right (by simp;omega)];simp [Nat.min_eq_left (Nat.le_of_lt h)]
theorem K6 {g:α->α}{l:List α}{i:Nat}(h:i<l.length):((l.take i).map g++l.drop i).set i (g l[i])=(l.take (i+1)).map g++l.drop (i+1):=by
 rw [ay h,Wz h,W5];rw [List.set_append,if_neg (by simp;omega)];simp [Nat.min_eq_left (Nat.le_of_lt h)];rw [Wz h];rfl
theorem Bb {g:α->α}{l:List α}{i:Nat}(h:i<l.length)(he:g l[i]=l[i]):(l.take i).map g++l.drop i=(l.take (i+1)).map g++l.drop (i+1):=by
 rw [ay h,Wz h,W5];simp [he]
def SE (kv:List (Int×Int))(met to:List Int)(i:Nat):Prop:= ∀x,lk kv x=if x∈met.take i then some (Bi met to x) else none
theorem CW {l:List Int}(hn:l.Nodup){i:Nat}(h:i<l.length):l.idxOf l[i]=i:=by
 have hm:l[i]∈l:=XY _;rcases Nat.lt_trichotomy (l.idxOf l[i]) i with h2|h2|h2
 ·exact absurd (rn hm) (Xh.1 (List.nodup_iff_pairwise_ne.1 hn) _ _ (vq hm) h h2)
 ·exact h2
 exact absurd (rn hm).symm (Xh.1 (List.nodup_iff_pairwise_ne.1 hn) _ _ h (vq hm) h2)
theorem Fg {l:List Int}(hn:l.Nodup){i:Nat}(h:i<l.length):l[i]∉l.take i:=fun hm=>by
 obtain ⟨j,hj,e⟩:=WX hm;rw [XT] at hj;rw [List.getElem_take] at e;exact absurd e (Xh.1 (List.nodup_iff_pairwise_ne.1 hn) _ _ U h U)
theorem DI (N:Nat)(hN:6500<N)(c:VJ)(hS:c.Yb.length<=4000)(hM:c.Ya.length<=4000)(met to:List Int)(hn:met.Nodup)(hl:to.length=met.length)(hml:met.length<=1200):gi N c met to=some (lI (Bi met to) met c):=by
 apply Sat.eq
 have mv: ∀(kv:List (Int×Int)),SE kv met to met.length-> ∀v:VN,(lk kv v.N).isSome=decide (v.N∈met)/\(v.N∈met->bd v=true->(⟨v.XZ,(lk kv v.N).getD 0,v.S⟩:VN)=bG (Bi met to) met v):=fun kv hk v=>by
  rw [hk v.N,XV];by_cases h:v.N∈met
  ·rw [if_pos h,V0 h];refine ⟨J,fun _ hb=> ?_⟩;rw [sm hb h];rfl
  rw [if_neg h,V1 h];exact ⟨J,fun h2=>absurd h2 h⟩
 have keep: ∀v:VN,(v.N∉met\/bd v=false)->bG (Bi met to) met v=v:=fun v h=>by
  unfold bG;rcases h with h|h
  ·rw [V1 h,Wi];rfl
  rw [h];rfl
 have copy:dt N c=some c:=by
  unfold dt cu;rw [rF (by simp only [W2];omega),rF (by simp only [W2];omega)];rfl
 have body: ∀kv:List (Int×Int),SE kv met to met.length->Sat (ru N c kv) fun r=>r=lI (Bi met to) met c:=by
  intro kv hk;unfold ru;rw [copy,bs];refine cD (fun k i (s:List VN)=>gP N c kv k s (i:Int)) c.Yb.length (fun i s=>s=(c.Yb.take i).map (bG (Bi met to) met)++c.Yb.drop i) _ ?_ ?_ N 0 c.Yb U U (by simp)
  ·rintro k i s hi rfl go;show Sat (gP N c kv (k+1) _ (i:Int)) _;obtain ⟨e1,e2⟩:=mv kv hk c.Yb[i];rw [gP.eq_2,dr U,ct,K7 hi,bs,e1,sE];simp only [bs];unfold ql;rw [r64 U U,r64 U U];by_cases hm:c.Yb[i].N∈met
   ·rw [V0 hm,ct,bs];cases hb:bd c.Yb[i]
    ·rw [cf];exact go _ (Bb hi (keep _ (.inr hb)))
    rw [ct,e2 hm hb,Ws];exact go _ (K6 hi)
   rw [V1 hm,cf,bs,cf];exact go _ (Bb hi (keep _ (.inl hm)))
  rintro k s rfl;show Sat (gP N c kv (k+1) _ _) _;rw [gP.eq_2,db U,cf,XV,List.drop_length,Wv];unfold uG;refine cD (fun k i (s:List VN)=>gN N c kv _ k s (i:Int)) c.Ya.length (fun i s=>s=(c.Ya.take i).map (bG (Bi met to) met)++c.Ya.drop i) _ ?_ ?_ N 0 c.Ya U U (by simp)
  ·rintro k i s hi rfl go;show Sat (gN N c kv _ (k+1) _ (i:Int)) _;obtain ⟨e1,e2⟩:=mv kv hk c.Ya[i];rw [gN.eq_2,dr U,ct,K7 hi,bs,e1,sE];simp only [bs];unfold qk;rw [r64 U U,r64 U U];by_cases hm:c.Ya[i].N∈met
   ·rw [V0 hm,ct,bs];cases hb:bd c.Ya[i]
    ·rw [cf];exact go _ (Bb hi (keep _ (.inr hb)))
    rw [ct,e2 hm hb,Ws];exact go _ (K6 hi)
   rw [V1 hm,cf,bs,cf];exact go _ (Bb hi (keep _ (.inl hm)))
  rintro k s rfl;show Sat (gN N c kv _ (k+1) _ _) _;rw [gN.eq_2,db U,cf,XV,List.drop_length,Wv];unfold uF uH;exact ad J
 unfold gi;refine cD (fun k i (s:List (Int×Int))=>fe N met to c k s (i:Int)) met.length (fun i s=>SE s met to i) _ ?_ ?_ N 0 [] U U (fun x=>J)
 ·rintro k i s hi h1 go;show Sat (fe N met to c (k+1) _ (i:Int)) _
  have hno:lk s met[i]=none:=by rw [h1,if_neg (Fg hn hi)]
  have hto:i<to.length:=by omega
  rw [fe.eq_2,dr U,ct,aI hi,bs,hno,Option.isSome_none,cf,dr U,ct,aI hto,bs];unfold nz;rw [r64 U U]
  refine go _ fun x=> ?_
  rw [DA,DA,h1 x,ay hi];by_cases e:met[i]=x
  ·subst e;rw [if_pos rfl,if_pos (V5 _ (Xf.2 rfl))];unfold Bi;rw [if_pos (XY _),CW hn hi];simp [List.getD,hto]
  rw [if_neg e,if_neg e];by_cases hx:x∈met.take i
  ·rw [if_pos hx,if_pos (V4 _ hx)]
  rw [if_neg hx,if_neg fun h2=>(W8.1 h2).elim hx fun h2=>e (Xf.1 h2).symm]
 rintro k s h1;show Sat (fe N met to c (k+1) _ _) _;rw [fe.eq_2,db U,cf];exact body s h1
theorem Dx (N:Nat)(hN:6500<N)(l:List VN)(a6:l.length<=4000)(met to:List Int)(hn:met.Nodup)(hl:to.length=met.length)(hml:met.length<=1200):kk N l met to=some (l.map (bG (Bi met to) met)):=by
 unfold kk;rw [DI N hN _ (by simp) a6 met to hn hl hml,bs];rfl
def f0 (m:VR)(a:Int):Bool:=decide ((aJ m a).Yg=0)
def ue (p:Int->Bool):List Int->Nat->Nat->List Int
 | [],_,_=> []
 |a::l,s,o=>bif p a then (2*(s:Int)+1)::ue p l (s+1) o else (2*(o:Int)+2)::ue p l s (o+1)
theorem GD (p:Int->Bool)(a:Int)(l:List Int)(s o:Nat):ue p (a::l) s o=bif p a then (2*(s:Int)+1)::ue p l (s+1) o else (2*(o:Int)+2)::ue p l s (o+1):=rfl
theorem Bw (p:Int->Bool): ∀(l:List Int) (s o:Nat),(ue p l s o).length=l.length
 | [],_,_=>rfl
 |a::l,s,o=>by unfold ue;cases p a<;>simp [Bw p l]
theorem Bx (p:Int->Bool): ∀(l l':List Int) (s o:Nat),ue p (l++l') s o=ue p l s o++ue p l' (s+(l.filter p).length) (o+(l.filter fun a=> !p a).length)
 | [],_,_,_=>by simp [ue]
 | a::l,l',s,o=>by
  rw [Wy,GD,GD];cases h:p a
  ·simp only [cond_false];rw [Bx p l l'];simp only [WF,h,Bool.not_false,if_true,Wk,if_false,WY,Wy];rw [Nat.add_right_comm o 1];rfl
  simp only [cond_true];rw [Bx p l l'];simp only [WF,h,Bool.not_true,if_true,Wk,if_false,WY,Wy];rw [Nat.add_right_comm s 1];rfl
theorem EY (p:Int->Bool){l:List Int}{i:Nat}(h:i<l.length)(s o:Nat):(ue p l s o).getD i 0=bif p l[i] then 2*((s+((l.take i).filter p).length:Nat):Int)+1 else 2*((o+((l.take i).filter fun a=> !p a).length:Nat):Int)+2:=by
 have e:l=l.take i++(l[i]::l.drop (i+1)):=by rw [<-Wz h,Xm]
 have e2:ue p l s o=ue p (l.take i) s o++ue p (l[i]::l.drop (i+1)) (s+((l.take i).filter p).length) (o+((l.take i).filter fun a=> !p a).length):=by
  rw [<-Bx, <-e]
 rw [e2]
 have hl:(ue p (l.take i) s o).length=i:=by rw [Bw,XT];omega
 unfold List.getD;rw [WK U,hl,Nat.sub_self];unfold ue;cases p l[i]<;>rfl
theorem HL (N:Nat)(hN:6500<N){roots:List VN}(hs:Small m roots)(kp:List Int)(nx:Int)(h:Mt m met seen):fL N ⟨m,kp,met,seen,nx⟩=some (ue (f0 m) met 0 m.Yc.length):=by
 have hml:=h.len hs;have ho:=hs.old;apply Sat.eq;unfold fL;refine cD (fun k i (s:List Int×Nat×Nat)=>ca N ⟨m,kp,met,seen,nx⟩ k s.1 (s.2.1:Int) (s.2.2:Int) (i:Int)) met.length (fun i s=>s.1=ue (f0 m) (met.take i) 0 m.Yc.length/\s.2.1=((met.take i).filter (f0 m)).length/\s.2.2=m.Yc.length+((met.take i).filter fun a=> !f0 m a).length) _ ?_ ?_ N 0 ([],0,m.Yc.length) (by show met.length<N+0;omega) U ⟨J,J,J⟩
 ·rintro k i ⟨s,a,b⟩ hi ⟨h1,h2,h3⟩ go;simp only at h1 h2 h3;have l1:((met.take i).filter (f0 m)).length<=i:=Xy (W0 _ _) (by rw [XT];omega);have l2:((met.take i).filter fun a=> !f0 m a).length<=i:=Xy (W0 _ _) (by rw [XT];omega)
  have hsl:s.length=i:=by rw [h1,Bw,XT];omega
  show Sat (ca N ⟨m,kp,met,seen,nx⟩ (k+1) s (a:Int) (b:Int) (i:Int)) _
  have hnext:ue (f0 m) (met.take (i+1)) 0 m.Yc.length=s++ [bif f0 m met[i] then 2*(a:Int)+1 else 2*(b:Int)+2]:=by
   rw [ay hi,Bx, <-h1,XC, <-h2, <-h3];unfold ue;cases f0 m met[i]<;>rfl
  have a6:((met.take (i+1)).filter (f0 m)).length=a+(bif f0 m met[i] then 1 else 0):=by
   rw [ay hi,List.filter_append,XS, <-h2];cases hb:f0 m met[i]<;>simp [hb]
  have a8:((met.take (i+1)).filter fun a=> !f0 m a).length+m.Yc.length=b+(bif f0 m met[i] then 0 else 1):=by
   rw [ay hi,List.filter_append,XS,h3];cases hb:f0 m met[i]<;>simp [hb]<;>omega
  have hcell:=uk N hs kp met seen nx (h.has _ (XY hi));rw [ca.eq_2]
  dsimp only
  rw [dr U,ct,aI hi,bs,hcell,bs];unfold ib;have e:decide ((aJ m met[i]).Yg=0)=f0 m met[i]:=rfl;rw [e,r64 U U,r64 U U,rF (by simp;omega),r64 U U,r64 U U,r64 U U,r64 U U,rF (by simp;omega),r64 U U,r64 U U];cases hb:f0 m met[i]
  ·rw [hb] at hnext a6 a8;rw [cf];exact go (s++ [2*(b:Int)+2],a,b+1) ⟨hnext.symm,a6.symm,by show b+1=_;simp only [cond_false] at a8;omega⟩
  rw [hb] at hnext a6 a8;rw [ct];exact go (s++ [2*(a:Int)+1],a+1,b) ⟨hnext.symm,a6.symm,by show b=_;simp only [cond_true] at a8;omega⟩
 rintro k ⟨s,a,b⟩ ⟨h1,h2,h3⟩;simp only [XV] at h1 h2 h3;show Sat (ca N ⟨m,kp,met,seen,nx⟩ (k+1) s (a:Int) (b:Int) _) _;rw [ca.eq_2]
 dsimp only
 rw [db U,cf];exact ad h1
theorem FX: ∀{l:List VN},sQ l=true->js lv l->jd (fun x=>decide (x∈lv)) l=l
 | [],_,_=>rfl
 | [_],h,_=>by cases h
 |k::v::r,h,ha=>by
  rw [pi] at h;simp only [XW,XO] at h;have hk:k.N∈lv:=ha k (by simp) (by unfold bd;rw [h.1.1];rfl);rw [yG,V0 hk,cond_true,FX h.2 fun w hw=>ha w (by simp [hw])];rfl
theorem Jb (cb:VN): ∀{l:List VN},nQ l=true->js lv l->ey lv l=l/\nO lv cb l=[]
 | [],_,_=>⟨rfl,rfl⟩
 | [_],h,_=>by cases h
 | [_,_],h,_=>by cases h
 | [_,_,_],h,_=>by cases h
 | t::a::k::s::r,h,ha=>by
  rw [ph] at h;simp only [XW,XO] at h;obtain ⟨⟨⟨h1, -⟩,h3,h4⟩,h5⟩:=h
  obtain ⟨i1,i2⟩:=Jb cb h5 fun w hw=>ha w (by simp [hw])
  have ht:t.N∈lv:=ha t (by simp) (by unfold bd;rw [h1];rfl)
  have hk:(decide (k.XZ=7)&& !decide (k.N∈lv))=false:=by
   by_cases a6:k.XZ=7
   ·rw [V0 (ha k (by simp) (by unfold bd;rw [a6];rfl)),Bool.not_true,Wi]
   rw [V1 a6,Wj]
  rw [wI,J3,i1,i2,V0 ht,hk];exact ⟨J,J⟩
theorem CellOk.id {N:Nat}(h:CellOk N lv f c)(ha:∀x∈cp c,x∈lv):mN N lv c=c/\i3 lv c=[]:=by
 have hin:js lv c.Ya:=fun v hv hb=>ha _ (Cs (V5 _ hv) hb)
 by_cases h8:c.XZ=8
 ·rw [h.clC8 h8,FX (h.ent2 h8) hin];exact ⟨J,by unfold i3;rw [V1 U];rfl⟩
 by_cases h10:c.XZ=10
 ·obtain ⟨-, -,h4⟩:=h.ent4 h10
  obtain ⟨i1,i2⟩:=Jb (lv:=lv) (c.Ya.headD mU) h4 fun v hv=>hin v (List.mem_of_mem_drop hv)
  rw [CellOk.clC10 h10,i1,Xm];refine ⟨J,?_⟩;unfold i3 yH;rw [V0 h10];exact i2
 exact ⟨CellOk.clC0 h8 h10,by unfold i3;rw [V1 h10];rfl⟩
theorem Dy (N:Nat)(hN:6500<N)(h:CellOk N lv f c)(hl:lv.length<=5000)(gone:List VN)(hg:gone.length<=10000):kl N c lv gone=some (mN N lv c,gone++i3 lv c):=by
 have hlen:=(tp N lv c).2;have hm:=h.more;unfold kl;by_cases h8:c.XZ=8
 ·rw [V0 h8,ct,FV N hN lv hl c h.slots h.more,h.wm,bs];unfold mN i3;rw [V0 h8,V1 (p:=c.XZ=10) U,cond_true,cond_true,cond_false,Wv]
 rw [V1 h8,cf];by_cases h10:c.XZ=10
 ·have e1:mN N lv c=(yH lv c).1:=by unfold mN;rw [V1 h8,V0 h10];rfl
  have e2:i3 lv c=(yH lv c).2:=by unfold i3;rw [V0 h10];rfl
  rw [V0 h10,ct,Ag N hN lv hl c h.slots h.more,h.fr,V0 h10,cond_true,bs, <-e1, <-e2,rF U]
 rw [V1 h10,cf,CellOk.clC0 h8 h10];unfold i3;rw [V1 h10,cond_false,Wv]
structure MinCtx (N:Nat) (m:VR) (roots:List VN) (kept met:List Int):Prop where
 big:6500<N
 small:Small m roots
 w64:W64 m
 r64: ∀v∈roots,in64 v.N
 tot:bw (fun a=>(aJ m a).Ya.length) (Dh m)<=3600
 klen:kept.length<=1200
 may:Fl N m roots kept=true
 prog: ∃seen nx,pv N m roots kept=some ⟨m,kept,met,seen,nx⟩/\Mt m met seen
 isM: ∃b,IsMinor (MZ N m) (bN m.Yc.length) kept (EA m roots kept) b met
theorem CZ {N:Nat}{roots:List VN}(h:Fl N m roots kept=true):FG N m roots=true/\uq m kept=true/\E9 m kept=true:=by
 unfold Fl at h;unfold FG;simp only [XW] at h⊢;exact ⟨h.1.1,h.1.2,h.2⟩
theorem Fw (h:uq m kept=true){a:Int}(ha:a∈kept):aw m a=true/\yB a=false:=by
 unfold uq at h;rw [XW] at h;have:=tq h.1 ha;rw [XW] at this;exact ⟨this.2,by cases hy:yB a;rfl;rw [hy] at this;cases this.1⟩
theorem Qe {N:Nat}(hN:6500<N){roots:List VN}(hs:Small m roots)(hw:W64 m)(hr:∀v∈roots,in64 v.N)(ht:bw (fun a=>(aJ m a).Ya.length) (Dh m)<=3600)(hk:kept.length<=1200)(hm:Fl N m roots kept=true): ∃met,MinCtx N m roots kept met:=by
 obtain ⟨h1,h2, -⟩:=CZ hm;obtain ⟨g1,g2, -⟩:=Cc h1;obtain ⟨r,e,seen,nx,b,e2,h3,h4⟩:=MP N hN hs g1 g2 kept (fun x hx=>(Fw h2 hx).1) hk;exact ⟨r.Yq,hN,hs,hw,hr,ht,hk,hm,⟨seen,nx,by rw [e, <-e2],h3⟩,⟨b,h4⟩⟩
def jc (m:VR)(met:List Int):List Int:=bN m.Yc.length++met
def F6 (m:VR)(met:List Int):List Int:=ue (f0 m) met 0 m.Yc.length
def jm (m:VR)(met:List Int):Int->Int:=Bi met (F6 m met)
def nC (m:VR)(met:List Int)(a:Int):VJ:=lI (jm m met) met (mN N (jc m met) (aJ m a))
def nY (m:VR)(met:List Int)(a:Int):VJ:=⟨(nC N m met a).XZ,(nC N m met a).Yf,(nC N m met a).Ye,1,(nC N m met a).Yb,(nC N m met a).Ya⟩
def pa (m:VR)(met:List Int):VR:=⟨(met.filter (f0 m)).map (nY N m met),(bN m.Yc.length).map (nC N m met)++(met.filter fun a=> !f0 m a).map (nY N m met)⟩
def ym (m:VR)(met:List Int):List VN:=(jc m met).flatMap fun a=>i3 (jc m met) (aJ m a)
section
variable {N:Nat}{roots:List VN}(h:MinCtx N m roots kept met)
include h
theorem MinCtx.whole:Whole m:=(Cc (CZ h.may).1).1
theorem MinCtx.rootsH: ∀x∈bP roots,aw m x=true:=(Cc (CZ h.may).1).2.1
theorem MinCtx.mt:met.Nodup/\(∀x∈met,yB x=true)/\ ∀x∈met,aw m x=true:=by
 obtain ⟨_,_, -,h2⟩:=h.prog;exact ⟨h2.nd,h2.yng,h2.has⟩
theorem MinCtx.mlen:met.length<=1200:=by
 obtain ⟨_,_, -,h2⟩:=h.prog;exact h2.len h.small
theorem MinCtx.f1has {a:Int}(ha:a∈jc m met):aw m a=true:=by
 unfold jc at ha;rcases W8.1 ha with ha|ha
 ·obtain ⟨i,hi,rfl⟩:=ie.1 ha;rw [sy];exact V0 hi
 exact h.mt.2.2 a ha
theorem MinCtx.keptOf {a:Int}(ha:a∈bN m.Yc.length)(hx:x∈cp (aJ m a))(hy:yB x=true):a∈kept:=by
 obtain ⟨i,hi,rfl⟩:=ie.1 ha;have h3:=(CZ h.may).2.2;unfold E9 at h3;have:=tq h3 (Xe.2 hi);rw [List.any_eq_true.2 ⟨x,hx,hy⟩] at this;simpa using this
theorem MinCtx.inF {a:Int}(ha:a∈jc m met)(hx:aw m x=true)(hyx:yB x=true->x∈met):x∈jc m met:=by
 have _:=h;have _:=ha;unfold jc
 cases hy:yB x with
 |true=>exact V5 _ (hyx hy)
 |false=>
  obtain ⟨i,hi,rfl⟩:=Jh hx hy;exact V4 _ (ie.2 ⟨i,hi,J⟩)
theorem MinCtx.cell {a:Int}(ha:a∈jc m met):CellOk N (jc m met) (jc m met) (aJ m a):=by
 have hN:=h.big;have hh:=h.f1has ha;have hm:=mP hh;have hs:=h.small.cells _ hm;obtain ⟨b,hM⟩:=h.isM;obtain ⟨q1,q2⟩:=hM.closed;have hf:=(Cc (CZ h.may).1).2.2 _ hm;refine ⟨by omega,?_,hs.1,hs.2,fun x hx=> ?_,fun x hx=> ?_,fun x=>Iff.rfl⟩
 ·unfold FH at hf;rw [qC N U _ U U,XW] at hf;exact hf.1
 ·refine h.inF ha (h.whole.leads hh x hx) fun hy=> ?_
  unfold jc at ha;rcases W8.1 ha with ha|ha
  ·exact hM.start (V5 _ (List.mem_flatMap.2 ⟨a,h.keptOf ha (V4 _ hx) hy,hx⟩)) hy
  exact q1 a ha x hx hy
 refine h.inF ha (h.whole.opens hh x hx) fun hy=> ?_
 refine q2 a ?_ x hx hy;unfold jc at ha;rcases W8.1 ha with ha|ha
 ·exact V4 _ (h.keptOf ha (Kq hx) hy)
 exact V5 _ ha
theorem MinCtx.old {a:Int}(ha:a∈bN m.Yc.length)(hk:a∉kept):mN N (jc m met) (aJ m a)=aJ m a/\i3 (jc m met) (aJ m a)=[]:=by
 have hf:a∈jc m met:=V4 _ ha
 refine (h.cell hf).id fun x hx=>h.inF hf (h.whole a (h.f1has hf) x hx) fun hy=>absurd (h.keptOf ha hx hy) hk
theorem MinCtx.nd:(jc m met).Nodup:=by
 unfold jc;refine Xg.2 ⟨?_,h.mt.1,fun a ha b hb e=> ?_⟩
 ·exact (Nf _).imp fun hab e=>by omega
 subst e;obtain ⟨i, -,rfl⟩:=ie.1 ha;have:=h.mt.2.1 _ hb;rw [D6] at this;cases this
theorem MinCtx.goneLen: ∀l:List Int,l.Nodup->(∀a∈l,a∈jc m met)->(l.flatMap fun a=>i3 (jc m met) (aJ m a)).length<=3600:=by
 intro l hn hl
 have h1:=rC (fun a=>(aJ m a).Ya.length) hn fun a ha=>wa (h.f1has (hl a ha))
 have h2: ∀l:List Int,(l.flatMap fun a=>i3 (jc m met) (aJ m a)).length<=bw (fun a=>(aJ m a).Ya.length) l:=fun l=>by
  induction l with
  |nil=>simp [bw]
  |cons a l ih=>
   have:=(tp N (jc m met) (aJ m a)).2;rw [WH,XS,bw];omega
 have:=h2 l;have:=h.tot;omega
end
end
section
open Go.RowKit
theorem Gv {β:Type}(f:α->List β){l:List α}{i:Nat}(h:i<l.length):(l.take (i+1)).flatMap f=(l.take i).flatMap f++f l[i]:=by
 rw [ay h,WG,WH,List.flatMap_nil,Wv]
theorem NF {β:Type}(f:α->β){l:List α}{i:Nat}(h:i<l.length):(l.take (i+1)).map f=(l.take i).map f++ [f l[i]]:=by
 rw [ay h,W5];rfl
theorem Dp (p:α->Bool){l:List α}{i:Nat}(h:i<l.length):(l.take (i+1)).filter p=(l.take i).filter p++(bif p l[i] then [l[i]] else []):=by
 rw [ay h,List.filter_append];cases hp:p l[i]<;>simp [hp]
section
variable {N:Nat}{roots:List VN}(h:MinCtx N m roots kept met)
include h
theorem MinCtx.f1len:(jc m met).length<=1800:=by
 have h1:=h.mlen;have h2:=h.small.old;unfold jc bN;rw [XS,XU,List.length_range];omega
theorem On:jx N m roots kept=some (pa N m met,roots.map (bG (jm m met) met),(ym m met).map (bG (jm m met) met),0):=by
 have hN:=h.big;have hs:=h.small;have hml:=h.mlen;have ho:=hs.old;have hrl:=hs.roots;have hfl:=h.f1len;obtain ⟨hnd,hyng,hhas⟩:=h.mt;obtain ⟨seen,nx,hp,hmt⟩:=h.prog;have hto:(F6 m met).length=met.length:=Bw _ _ _ _
 have hev:(bN m.Yc.length).length=m.Yc.length:=by unfold bN;simp
 obtain ⟨hfine,hkok, -⟩:=CZ h.may
 have b0: ∀x∈kept,in64 x:=fun x hx=>rl hs (Fw hkok hx).1
 have hkl:=h.klen;have hgl: ∀l:List Int,l.Nodup->(∀a∈l,a∈jc m met)->(l.flatMap fun a=>i3 (jc m met) (aJ m a)).length<=3600:=h.goneLen
 have tk: ∀i,((bN m.Yc.length).take i).flatMap (fun a=>i3 (jc m met) (aJ m a))=((bN m.Yc.length).take i).flatMap fun a=>i3 (jc m met) (aJ m a):=fun i=>rfl
 have g1: ∀i,(((bN m.Yc.length).take i).flatMap fun a=>i3 (jc m met) (aJ m a)).length<=3600:=fun i=>hgl _ (List.Nodup.sublist (List.take_sublist _ _) (Xg.1 h.nd).1) fun a ha=>V4 _ (List.mem_of_mem_take ha)
 have g2: ∀i,((bN m.Yc.length++met.take i).flatMap fun a=>i3 (jc m met) (aJ m a)).length<=3600:=fun i=>hgl _ (List.Nodup.sublist (List.Sublist.append (List.Sublist.refl _) (List.take_sublist i met)) h.nd) fun a ha=>(W8.1 ha).elim (fun h=>V4 _ h) fun h=>V5 _ (List.mem_of_mem_take h)
 have moved: ∀a∈jc m met, ∀d:VJ,d.Yb.length<=600->d.Ya.length<=2900->gi N d met (F6 m met)=some (lI (jm m met) met d):=fun a _ d h1 h2=>DI N hN d U U met (F6 m met) hnd hto hml
 -- the young cells
 have young: ∀O:List VJ,O.length<=600->Sat (dP N ⟨m,kept,met,seen,nx⟩ roots (F6 m met) (jc m met) N ((bN m.Yc.length).flatMap fun a=>i3 (jc m met) (aJ m a)) 0 [] O) fun r=>r=(⟨(met.filter (f0 m)).map (nY N m met),O++(met.filter fun a=> !f0 m a).map (nY N m met)⟩,roots.map (bG (jm m met) met),(ym m met).map (bG (jm m met) met),0):=by
  intro O hO;refine cD (fun k i (s:List VN×List VJ×List VJ)=>dP N ⟨m,kept,met,seen,nx⟩ roots (F6 m met) (jc m met) k s.1 (i:Int) s.2.1 s.2.2) met.length (fun i s=>s.1=(bN m.Yc.length++met.take i).flatMap (fun a=>i3 (jc m met) (aJ m a))/\s.2.1=((met.take i).filter (f0 m)).map (nY N m met)/\s.2.2=O++((met.take i).filter fun a=> !f0 m a).map (nY N m met)) _ ?_ ?_ N 0 (_,[],O) U U ⟨by rw [Xp,Wv];rfl,rfl,by simp⟩
  ·rintro k i ⟨g,hJ,Q⟩ hi ⟨h1,h2,h3⟩ go;simp only at h1 h2 h3;show Sat (dP N ⟨m,kept,met,seen,nx⟩ roots (F6 m met) (jc m met) (k+1) g (i:Int) hJ Q) _;have hgm:met[i]∈met:=XY hi;have hgf:met[i]∈jc m met:=V5 _ hgm;have hc:=h.cell hgf;have hcl:=tp N (jc m met) (aJ m met[i]);have hc1:=hc.slots;have hc2:=hc.more
   have hgt:g.length<=3600:=by rw [h1];exact g2 i
   have hYl:hJ.length<=i:=by rw [h2,XU];exact Xy (W0 _ _) (by rw [XT];omega)
   have hQl:Q.length<=600+i:=by
    rw [h3,XS,XU];have:=W0 (fun a=> !f0 m a) (met.take i);rw [XT] at this;omega
   have hti:i<(F6 m met).length:=by omega
   have htv:(F6 m met)[i]=bif f0 m met[i] then 2*((0+((met.take i).filter (f0 m)).length:Nat):Int)+1 else 2*((m.Yc.length+((met.take i).filter fun a=> !f0 m a).length:Nat):Int)+2:=by
    have:=EY (f0 m) hi 0 m.Yc.length;unfold List.getD at this;have e:(ue (f0 m) met 0 m.Yc.length)[i]? =some (F6 m met)[i]:=WO hti;rw [e] at this;exact this
   have hyt:yB (F6 m met)[i]=f0 m met[i]:=by
    rw [htv];cases f0 m met[i]
    ·exact D6 _
    exact JW _
   rw [dP.eq_2]
   dsimp only
   rw [dr U,ct,aI hi,bs,uk N hs kept met seen nx (h.f1has hgf),bs,Dy N hN hc U g U,bs]
   dsimp only
   rw [moved _ hgf _ U U,bs,aI hti,bs,tH,bs,hyt];unfold mH;rw [r64 U U,r64 U U,rF (by simp;omega),rF (by simp;omega)]
   have hg':g++i3 (jc m met) (aJ m met[i])=(bN m.Yc.length++met.take (i+1)).flatMap fun a=>i3 (jc m met) (aJ m a):=by
    rw [h1,WG,WG,Gv _ hi,V3]
   have a6:=Dp (f0 m) hi;have a8:=Dp (fun a=> !f0 m a) hi;cases hb:f0 m met[i]
   ·rw [hb] at a6;simp only [hb,Bool.not_false,cond_true,cond_false,Wv] at a6 a8;rw [cf];exact go (_,hJ,_) ⟨hg',by show hJ=_;rw [a6];exact h2,by show Q++ [nY N m met met[i]]=_;rw [a8,W5,h3,V3];rfl⟩
   rw [hb] at a6;simp only [hb,Bool.not_true,cond_true,cond_false,Wv] at a6 a8;rw [ct];exact go (_,_,Q) ⟨hg',by show hJ++ [nY N m met met[i]]=_;rw [a6,W5,h2];rfl,by show Q=_;rw [a8];exact h3⟩
  rintro k ⟨g,hJ,Q⟩ ⟨h1,h2,h3⟩;simp only [XV] at h1 h2 h3;show Sat (dP N ⟨m,kept,met,seen,nx⟩ roots (F6 m met) (jc m met) (k+1) g _ hJ Q) _
  have hgt:g.length<=3600:=by rw [h1];have:=g2 met.length;rwa [XV] at this
  rw [dP.eq_2]
  dsimp only
  rw [db U,cf];unfold pS
  dsimp only
  rw [Dx N hN roots U met (F6 m met) hnd hto hml,bs,Dx N hN g U met (F6 m met) hnd hto hml,bs,h2,h3];refine ad ?_;rw [h1];rfl
 apply Sat.eq;unfold jx;rw [GR N hN hs h.w64 h.r64 kept U b0,h.may,bs,nt,cf,hp,bs,HL N hN hs kept nx hmt,bs,Fj N hN hs kept nx hmt,bs];refine cD (fun k i (s:List VN×List VJ)=>eZ N m roots kept (F6 m met) ⟨m,kept,met,seen,nx⟩ k s.1 (jc m met) (i:Int) s.2) m.Yc.length (fun i s=>s.1=((bN m.Yc.length).take i).flatMap (fun a=>i3 (jc m met) (aJ m a))/\s.2=((bN m.Yc.length).take i).map (nC N m met)) _ ?_ ?_ N 0 ([],[]) U U ⟨J,J⟩
 ·rintro k i ⟨g,O⟩ hi ⟨h1,h2⟩ go;simp only at h1 h2;show Sat (eZ N m roots kept (F6 m met) ⟨m,kept,met,seen,nx⟩ (k+1) g (jc m met) (i:Int) O) _
  have hie:i<(bN m.Yc.length).length:=by omega
  have hei:(bN m.Yc.length)[i]=2*(i:Int)+2:=GX hie;have hae:(2*(i:Int)+2)∈bN m.Yc.length:=ie.2 ⟨i,hi,rfl⟩;have haf:(2*(i:Int)+2)∈jc m met:=V4 _ hae;have hc:=h.cell haf;have hcl:=tp N (jc m met) (aJ m (2*(i:Int)+2));have hc1:=hc.slots;have hc2:=hc.more
  have hgt:g.length<=3600:=by rw [h1];exact g1 i
  have hOl:O.length<=i:=by rw [h2,XU,XT];omega
  have hold:=h.old hae
  have n1:((bN m.Yc.length).take (i+1)).flatMap (fun a=>i3 (jc m met) (aJ m a))=g++i3 (jc m met) (aJ m (2*(i:Int)+2)):=by rw [Gv _ hie,hei,h1]
  have n2:((bN m.Yc.length).take (i+1)).map (nC N m met)=O++ [nC N m met (2*(i:Int)+2)]:=by rw [NF _ hie,hei,h2]
  rw [rY m i hi] at hc hcl hc1 hc2 hold n1
  have hnc:nC N m met (2*(i:Int)+2)=lI (jm m met) met (mN N (jc m met) m.Yc[i]):=by unfold nC;rw [rY m i hi]
  have body: ∀(kb:List VN->List Int->Int->List VJ->Option (VR×List VN×List VN×Int)) (g':List VN) (d:VJ),d.Yb.length<=600->d.Ya.length<=2900->jS N kb m (i:Int) roots kept (F6 m met) (jc m met) O ⟨m,kept,met,seen,nx⟩ g' d.XZ d.Yf d.Ye d.Yg d.Yb d.Ya=kb g' (jc m met) ((i:Int)+1) (O++ [lI (jm m met) met d]):=by
   intro kb g' d d1 d2;have:=moved _ haf d d1 d2;unfold jS
   dsimp only
   have e:gi N ⟨d.XZ,d.Yf,d.Ye,d.Yg,d.Yb,d.Ya⟩ met (F6 m met)=some (lI (jm m met) met d):=this;rw [e,bs,rF (by simp;omega),r64 U U]
  rw [eZ.eq_2,dr U,ct,aI hi,bs,r64 U U,r64 U U,rt N hN kept U,bs];by_cases hk:(2*(i:Int)+2)∈kept
  ·rw [V0 hk,ct,Dy N hN hc U g U,bs]
   dsimp only
   rw [body _ _ _ U U];exact go (_,_) ⟨n1.symm,by rw [n2,hnc]⟩
  obtain ⟨o1,o2⟩:=hold hk;rw [V1 hk,cf,body _ _ _ U U];exact go (g,_) ⟨by rw [n1,o2,Wv],by rw [n2,hnc,o1]⟩
 rintro k ⟨g,O⟩ ⟨h1,h2⟩;have etl:(bN m.Yc.length).take m.Yc.length=bN m.Yc.length:=Xn U;simp only [etl] at h1 h2;show Sat (eZ N m roots kept (F6 m met) ⟨m,kept,met,seen,nx⟩ (k+1) g (jc m met) _ O) _;rw [eZ.eq_2,db U,cf];unfold pT;rw [h1]
 have hOl:O.length<=600:=by rw [h2,XU];omega
 have:=young O hOl;rw [h2] at this⊢;exact this
end
end
section
open Go.RowKit
theorem Lt: ∀{A hU:List Int} {x:Int},x∉A->(A++x::hU).idxOf x=A.length
 | [],hU,x,_=>by simp
 |a::A,hU,x,h=>by
  have h1:a≠x:=fun e=>h (by simp [e])
  rw [Wy,List.idxOf_cons,Lt fun hx=>h (by simp [hx])];have:(a==x)=false:=beq_eq_false_iff_ne.2 h1;rw [this];rfl
theorem Jm {l:List Int}(hn:l.Nodup)(p:Int->Bool){i:Nat}(h:i<l.length)(hp:p l[i]=true):(l.filter p).idxOf l[i]=((l.take i).filter p).length:=by
 have e:l.filter p=(l.take i).filter p++l[i]::(l.drop (i+1)).filter p:=by
  have e1:l=l.take i++(l[i]::l.drop (i+1)):=by rw [<-Wz h,Xm]
  have e2:l.filter p=(l.take i).filter p++(l[i]::l.drop (i+1)).filter p:=by rw [<-List.filter_append, <-e1]
  rw [e2,WF,hp,if_pos rfl]
 rw [e]
 exact Lt fun hm=>Fg hn h (Xb.1 hm).1
def xG (c:VJ)(g:Int):VJ:=⟨c.XZ,c.Yf,c.Ye,g,c.Yb,c.Ya⟩
theorem HA (h:bj c=true):bj (xG c 1)=true:=by
 unfold bj at h⊢;unfold xG;simp only [XW] at h⊢;obtain ⟨⟨⟨⟨⟨⟨⟨h1,h2⟩,h3⟩,h4⟩,h5⟩, -⟩, -⟩,h8⟩:=h;exact ⟨⟨⟨⟨⟨⟨⟨h1,h2⟩,h3⟩,h4⟩,h5⟩,J⟩,J⟩,h8⟩
structure VCell (N:Nat) (c:VJ):Prop where
 big:6500<N
 right:bj c=true
 slots:c.Yb.length<=600
 more:c.Ya.length<=2900
theorem Pp (m:VR){i:Nat}(h:m.Yc[i]? =some c):aw m (2*(i:Int)+2)=true/\aJ m (2*(i:Int)+2)=c:=by
 obtain ⟨h1,h2⟩:=WQ.1 h;exact ⟨by rw [sy];exact V0 h1,by rw [rY m i h1];exact h2⟩
theorem Sz (m:VR){i:Nat}(h:m.Yd[i]? =some c):aw m (2*(i:Int)+1)=true/\aJ m (2*(i:Int)+1)=c:=by
 obtain ⟨h1,h2⟩:=WQ.1 h;exact ⟨by rw [AL];exact V0 h1,by rw [wi m i h1];exact h2⟩
theorem Je {a:Int}(h:a∈f):f[f.idxOf a]? =some a:=WQ.2 ⟨vq h,rn h⟩
section
variable {N:Nat}{roots:List VN}(h:MinCtx N m roots kept met)
include h
theorem MinCtx.rhoE {a:Int}(ha:a∈bN m.Yc.length):jm m met a=a:=by
 have hn:a∉met:=fun hm=>(Xg.1 h.nd).2.2 a ha a hm rfl
 unfold jm Bi;rw [if_neg hn]
theorem MinCtx.rhoY {a:Int}(ha:a∈met)(hp:f0 m a=true):jm m met a=2*(((met.filter (f0 m)).idxOf a:Nat):Int)+1:=by
 obtain ⟨i,hi,rfl⟩:=WX ha;unfold jm Bi F6;rw [if_pos ha,CW h.mt.1 hi,EY _ hi,hp,Jm h.mt.1 _ hi hp,cond_true,XC]
theorem MinCtx.rhoO {a:Int}(ha:a∈met)(hp:f0 m a=false):jm m met a=2*((m.Yc.length+(met.filter fun a=> !f0 m a).idxOf a:Nat):Int)+2:=by
 obtain ⟨i,hi,rfl⟩:=WX ha;unfold jm Bi F6;rw [if_pos ha,CW h.mt.1 hi,EY _ hi,hp,Jm h.mt.1 (fun a=> !f0 m a) hi (by rw [hp];rfl),cond_false]
theorem MinCtx.cases {a:Int}(ha:a∈jc m met):(a∈bN m.Yc.length/\jm m met a=a)\/(a∈met/\f0 m a=true/\a∈met.filter (f0 m))\/(a∈met/\f0 m a=false/\a∈met.filter fun a=> !f0 m a):=by
 unfold jc at ha;rcases W8.1 ha with ha|ha
 ·exact .inl ⟨ha,h.rhoE ha⟩
 cases hp:f0 m a with
 |true=>exact .inr (.inl ⟨ha,rfl,Xb.2 ⟨ha,hp⟩⟩)
 |false=>exact .inr (.inr ⟨ha,rfl,Xb.2 ⟨ha,by rw [hp];rfl⟩⟩)
theorem MinCtx.ren:Ren (jm m met) (jc m met):=by
 refine ⟨fun a b ha hb e=> ?_,fun a ha=> ?_⟩
 ·rcases h.cases ha with ⟨a1,a2⟩|⟨a1,a2,a3⟩|⟨a1,a2,a3⟩<;>rcases h.cases hb with ⟨b1,b2⟩|⟨b1,b2,b3⟩|⟨b1,b2,b3⟩
  ·rw [a2,b2] at e;exact e
  ·obtain ⟨i, -,rfl⟩:=ie.1 a1;rw [a2,h.rhoY b1 b2] at e;omega
  ·obtain ⟨i,hi,rfl⟩:=ie.1 a1;rw [a2,h.rhoO b1 b2] at e;omega
  ·obtain ⟨i, -,rfl⟩:=ie.1 b1;rw [b2,h.rhoY a1 a2] at e;omega
  ·rw [h.rhoY a1 a2,h.rhoY b1 b2] at e
   have e2:(met.filter (f0 m)).idxOf a=(met.filter (f0 m)).idxOf b:=by omega
   rw [<-rn a3, <-rn b3];simp only [e2]
  ·rw [h.rhoY a1 a2,h.rhoO b1 b2] at e;omega
  ·obtain ⟨i,hi,rfl⟩:=ie.1 b1;rw [b2,h.rhoO a1 a2] at e;omega
  ·rw [h.rhoO a1 a2,h.rhoY b1 b2] at e;omega
  rw [h.rhoO a1 a2,h.rhoO b1 b2] at e
  have e2:(met.filter fun a=> !f0 m a).idxOf a=(met.filter fun a=> !f0 m a).idxOf b:=by omega
  rw [<-rn a3, <-rn b3];simp only [e2]
 rcases h.cases ha with ⟨a1,a2⟩|⟨a1,a2,a3⟩|⟨a1,a2,a3⟩
 ·obtain ⟨i, -,rfl⟩:=ie.1 a1;omega
 ·rw [h.rhoY a1 a2];omega
 rw [h.rhoO a1 a2];omega
end
def Rk (m:VR)(met:List Int)(a:Int):Int:=if a∈met then 1 else (nC N m met a).Yg
def rW (m:VR)(met:List Int)(a:Int):VJ:=xG (nC N m met a) (Rk N m met a)
theorem Fi (v:VN):bG (jm m met) (jc m met) v=bG (jm m met) met v:=by
 unfold bG jc;cases hb:bd v
 ·rfl
 rw [Wl,Wl];by_cases h:v.N∈met
 ·rw [V0 h,V0 (V5 _ h)]
 rw [V1 h]
 have e:jm m met v.N=v.N:=by unfold jm Bi;rw [if_neg h]
 rw [e];cases decide (v.N∈bN m.Yc.length++met)<;>rfl
theorem I3 (c:VJ):lI (jm m met) met c=lI (jm m met) (jc m met) c:=by
 unfold lI;rw [List.map_congr_left fun v _=>(Fi v).symm,List.map_congr_left (l:=c.Ya) fun v _=>(Fi v).symm]
section
variable {N:Nat}{roots:List VN}(h:MinCtx N m roots kept met)
include h
theorem MinCtx.cellE {a:Int}(ha:a∈bN m.Yc.length):rW N m met a=nC N m met a:=by
 have hn:a∉met:=fun hm=>(Xg.1 h.nd).2.2 a ha a hm rfl
 unfold rW Rk;rw [if_neg hn];rfl
theorem JK {a:Int}(ha:a∈met):rW N m met a=nY N m met a:=by
 have _:=h;unfold rW Rk;rw [if_pos ha];rfl
theorem MinCtx.at_ {a:Int}(ha:a∈jc m met):aw (pa N m met) (jm m met a)=true/\aJ (pa N m met) (jm m met a)=rW N m met a:=by
 have hev:(bN m.Yc.length).length=m.Yc.length:=by unfold bN;simp
 have hml:((bN m.Yc.length).map (nC N m met)).length=m.Yc.length:=by rw [XU];exact hev
 rcases h.cases ha with ⟨a1,a2⟩|⟨a1,a2,a3⟩|⟨a1,a2,a3⟩
 ·rw [a2,h.cellE a1];obtain ⟨i,hi,rfl⟩:=ie.1 a1;refine Pp _ ?_;show ((bN m.Yc.length).map (nC N m met)++(met.filter fun a=> !f0 m a).map (nY N m met))[i]? =_;rw [WJ U,WR,WO (by omega:i<(bN m.Yc.length).length),GX];rfl
 ·rw [h.rhoY a1 a2,JK h a1];refine Sz _ ?_;show ((met.filter (f0 m)).map (nY N m met))[_]? =_;rw [WR,Je a3];rfl
 rw [h.rhoO a1 a2,JK h a1];refine Pp _ ?_;show ((bN m.Yc.length).map (nC N m met)++(met.filter fun a=> !f0 m a).map (nY N m met))[_]? =_;rw [WK U,hml,Nat.add_sub_cancel_left,WR,Je a3];rfl
theorem MinCtx.okN {a:Int}(ha:a∈jc m met):VCell N (nC N m met a)/\VCell N (rW N m met a):=by
 have hN:=h.big;obtain ⟨g1,g2,g3, -⟩:=CellOk.new h.ren (h.cell ha);have e:nC N m met a=lI (jm m met) (jc m met) (mN N (jc m met) (aJ m a)):=I3 _;rw [<-e] at g1 g2 g3;refine ⟨⟨by omega,g1,g2,g3⟩,by omega,?_,g2,g3⟩;unfold rW Rk;by_cases hm:a∈met
 ·rw [if_pos hm];exact HA g1
 rw [if_neg hm];exact g1
end
end
section
open Go.RowKit
theorem Gx (g:α->Nat)(p:α->Bool): ∀l:List α,bw g (l.filter p)+bw g (l.filter fun a=> !p a)=bw g l
 | []=>rfl
 |a::l=>by
  have ih:=Gx g p l;rw [WF,WF];cases h:p a
  ·simp only [Wk,if_false,Bool.not_false,if_true,bw];omega
  simp only [Wk,if_false,Bool.not_true,if_true,bw];omega
theorem tO {g h:α->Nat}: ∀{l:List α},(∀x∈l,g x=h x)->bw g l=bw h l
 | [],_=>rfl
 |a::l,hh=>by rw [bw,bw,hh a (by simp),tO fun x hx=>hh x (by simp [hx])]
theorem xz: ∀l:List α,bw (fun _=>1) l=l.length
 | []=>rfl
 |a::l=>by rw [bw,xz l,WY];omega
section
variable {N:Nat}{roots:List VN}(h:MinCtx N m roots kept met)
include h
theorem MinCtx.midSum (g:VJ->Nat):bw g (pa N m met).Yd+bw g (pa N m met).Yc=bw (fun a=>g (rW N m met a)) (jc m met):=by
 have e1:bw (fun a=>g (rW N m met a)) (bN m.Yc.length)=bw (fun a=>g (nC N m met a)) (bN m.Yc.length):=tO fun a ha=>by rw [h.cellE ha]
 have e2:bw (fun a=>g (rW N m met a)) met=bw (fun a=>g (nY N m met a)) met:=tO fun a ha=>by rw [JK h ha]
 have e3:=Gx (fun a=>g (nY N m met a)) (f0 m) met;unfold pa jc;simp only;rw [tS,tS,pA,pA,pA,e1,e2];omega
theorem MinCtx.midLe (g:VJ->Nat)(hg:∀a∈jc m met,g (rW N m met a)<=g (aJ m a)):bw g (pa N m met).Yd+bw g (pa N m met).Yc<=bw g m.Yd+bw g m.Yc:=by
 have h1:=rC (fun a=>g (aJ m a)) h.nd fun a ha=>wa (h.f1has ha)
 have h2:=pA g (aJ m) (Dh m);rw [F2,tS] at h2;rw [h.midSum];have h3:=D7 hg;omega
theorem MinCtx.cellLe {a:Int}(ha:a∈jc m met):(rW N m met a).Yb.length=(aJ m a).Yb.length/\(rW N m met a).Ya.length<=(aJ m a).Ya.length:=by
 have _:=h;have:=tp N (jc m met) (aJ m a);show ((mN N (jc m met) (aJ m a)).Yb.map _).length=_/\((mN N (jc m met) (aJ m a)).Ya.map _).length<=_;rw [XU,XU];omega
theorem MinCtx.midCnt:(pa N m met).Yd.length+(pa N m met).Yc.length<=m.Yd.length+m.Yc.length:=by
 have:=h.midLe (fun _=>1) fun a _=>Xx _
 rw [xz,xz,xz,xz] at this;exact this
theorem MinCtx.midWt:wt (pa N m met).Yd+wt (pa N m met).Yc<=wt m.Yd+wt m.Yc:=by
 have:=h.midLe wC fun a ha=>by
  have:=h.cellLe ha;unfold wC;omega
 rw [<-xt, <-xt, <-xt, <-xt] at this;exact this
theorem MinCtx.midMem (hc:c∈(pa N m met).Yd++(pa N m met).Yc): ∃a∈jc m met,c=rW N m met a:=by
 unfold pa at hc;simp only [W8,Xc,Xb] at hc;rcases hc with ⟨a,⟨h1, -⟩,rfl⟩|⟨a,h1,rfl⟩|⟨a,⟨h1, -⟩,rfl⟩
 ·exact ⟨a,V5 _ h1,(JK h h1).symm⟩
 ·exact ⟨a,V4 _ h1,(h.cellE h1).symm⟩
 exact ⟨a,V5 _ h1,(JK h h1).symm⟩
theorem MinCtx.root (hx:x∈bP roots):x∈jc m met:=by
 have hh:=h.rootsH x hx;obtain ⟨b,hM⟩:=h.isM;unfold jc
 cases hy:yB x with
 |true=>exact V5 _ (hM.start (V4 _ hx) hy)
 |false=>
  obtain ⟨i,hi,rfl⟩:=Jh hh hy;exact V4 _ (ie.2 ⟨i,hi,J⟩)
theorem MinCtx.rootIn:js (jc m met) roots:=fun v hv hb=>h.root (qW.2 ⟨v,hv,hb,rfl⟩)
theorem MinCtx.rho64 {a:Int}(ha:a∈jc m met):in64 (jm m met a):=by
 have h1:=h.mlen;have h2:=h.small.old
 have h3: ∀p:Int->Bool,(met.filter p).length<=1200:=fun p=>Xy (W0 _ _) h1
 unfold in64;rcases h.cases ha with ⟨a1,a2⟩|⟨a1,a2,a3⟩|⟨a1,a2,a3⟩
 ·obtain ⟨i,hi,rfl⟩:=ie.1 a1;rw [a2];omega
 ·have:=vq a3;have:=h3 (f0 m);rw [h.rhoY a1 a2];omega
 have:=vq a3
 have:=h3 fun a=> !f0 m a
 rw [h.rhoO a1 a2];omega
theorem MinCtx.mov64 (hv:in64 v.N):in64 (bG (jm m met) (jc m met) v).N:=by
 unfold bG
 cases hb:bd v&&decide (v.N∈jc m met) with
 |false=>exact hv
 |true=>
  rw [XW,XO] at hb;exact h.rho64 hb.2
theorem MinCtx.now64: ∀v∈roots.map (bG (jm m met) (jc m met)),in64 v.N:=fun v hv=>by
 obtain ⟨w,hw,rfl⟩:=Xc.1 hv;exact h.mov64 (h.r64 w hw)
theorem MinCtx.nCE (a:Int):nC N m met a=lI (jm m met) (jc m met) (mN N (jc m met) (aJ m a)):=by
 have _:=h;exact I3 _
theorem MinCtx.midW:W64 (pa N m met):=fun c hc v hv=>by
 obtain ⟨a,ha,rfl⟩:=h.midMem hc;have hv':v∈(nC N m met a).Yb++(nC N m met a).Ya:=hv;rw [h.nCE] at hv'
 have hv2:v∈((mN N (jc m met) (aJ m a)).Yb++(mN N (jc m met) (aJ m a)).Ya).map (bG (jm m met) (jc m met)):=by rw [W5];exact hv'
 obtain ⟨w,hw,rfl⟩:=Xc.1 hv2;refine h.mov64 ?_;rcases LJ hw with hw|rfl
 ·exact h.w64.at_ a w hw
 show in64 0;unfold in64;omega
theorem MinCtx.midS (hcnt:m.Yd.length+m.Yc.length<=600)(l:List VN)(hl:l.length<=600):Small (pa N m met) l:=by
 have:=h.midCnt;refine ⟨by omega,by omega,hl,fun c hc=> ?_⟩;obtain ⟨a,ha,rfl⟩:=h.midMem hc;exact ⟨(h.okN ha).2.slots,(h.okN ha).2.more⟩
theorem MinCtx.newHas {l:List VN}(hl:js (jc m met) l)(hv:v∈l.map (bG (jm m met) (jc m met)))(hb:bd v=true):aw (pa N m met) v.N=true:=by
 obtain ⟨w,hw,rfl⟩:=Xc.1 hv;rw [HN] at hb;have:=hl w hw hb;rw [sm hb this];exact (h.at_ this).1
theorem MinCtx.midAddr (hc:c∈(pa N m met).Yd++(pa N m met).Yc):bj c=true/\ ∀x∈cp c,aw (pa N m met) x=true:=by
 obtain ⟨a,ha,rfl⟩:=h.midMem hc;refine ⟨(h.okN ha).2.right,fun x hx=> ?_⟩;have hx':x∈cp (nC N m met a):=hx;obtain ⟨v,hv,hb,rfl⟩:=zx hx';rw [h.nCE] at hv;obtain ⟨i1,i2⟩:=(h.cell ha).inC;rcases W8.1 hv with hv|hv
 ·exact h.newHas i1 hv hb
 exact h.newHas i2 hv hb
end
end
section
open Go.RowKit
theorem zP (N:Nat)(hN:6500<N)(c:VJ)(hS:c.Yb.length<=600)(hM:c.Ya.length<=2900):pF N c=some ((cp c).any yB):=by
 have h1:=np c;have h2:=rz c
 have hy: ∀x,ne N x=some (yB x):=fun x=>by
  unfold ne yB;cases decide (0<x)<;>cases decide (x.tmod 2=1)<;>rfl
 unfold pF cp;rw [qL N U c U U,xv N U c U U,bs,bs,Eo N _ yB (ce c) U U (fun x _=>hy x),Eo N _ yB (mw c) U U (fun x _=>hy x),bs,bs,List.any_append];cases (ce c).any yB<;>cases (mw c).any yB<;>rfl
theorem Nm {L:List (Int×Bool)}{a:Int}(h:a∉L.map (·.1)):Dd L a=L:=by
 unfold Dd;rcases KN a L with ⟨i,c, -,h2⟩|⟨h1, -⟩
 ·exact absurd (Xc.2 ⟨_,Xd h2,J⟩) h
 rw [h1]
theorem EJ (N:Nat)(hN:6500<N){roots:List VN}(hs:Small m roots): ∃kv,cG N ⟨[]⟩ m=some ⟨kv⟩/\kv.map Prod.fst=lr m:=by
 have ho:=hs.old
 have key:Sat (cG N ⟨[]⟩ m) fun r=>r.at_.map Prod.fst=lr m:=by
  unfold cG o7;rw [bs];refine cD (fun k i (s:List (Int×Bool))=>fi N m k (i:Int) s) m.Yc.length (fun i s=>s.map Prod.fst=((List.range i).filter (uT m)).map (fun i:Nat=>2*(i:Int)+2)) _ ?_ ?_ N 0 [] U U J
  ·rintro k i s hi h1 go;show Sat (fi N m (k+1) (i:Int) s) _;have hc:=hs.cells _ (V5 m.Yd (XY hi))
   have hnext:((List.range (i+1)).filter (uT m)).map (fun i:Nat=>2*(i:Int)+2)=((List.range i).filter (uT m)).map (fun i:Nat=>2*(i:Int)+2)++(bif uT m i then [2*(i:Int)+2] else []):=by
    rw [List.range_succ,List.filter_append,W5];cases h:uT m i<;>simp [h]
   have hno:(2*(i:Int)+2)∉s.map Prod.fst:=by
    rw [h1];intro hm;obtain ⟨j,hj,e⟩:=Xc.1 hm;have:=Xe.1 (Xb.1 hj).1;omega
   have e:(cp m.Yc[i]).any yB=uT m i:=by unfold uT;rw [rY m i hi]
   rw [fi.eq_2,dr U,ct,aI hi,bs,r64 U U,r64 U U];unfold cA kC sV;rw [zP N hN _ hc.1 hc.2,e,dr U,ct,tL U,th U];simp only [bs,nt,cf];cases h:uT m i
   ·simp only [nf,ct,bs];rw [Nm hno,r64 U U];exact go s (by rw [hnext,h,h1,cf,Wv])
   simp only [nt,cf,bs];rw [r64 U U];refine go (wT s (2*(i:Int)+2) true) ?_;have:=Bc s (2*(i:Int)+2) true;rw [if_neg hno] at this;rw [hnext,h,ct, <-h1];exact this
  rintro k s h1;show Sat (fi N m (k+1) _ s) _;rw [fi.eq_2,db U,cf];exact ad h1
 obtain ⟨r,e,h⟩:=key;exact ⟨r.at_,e,h⟩
theorem BS (m:VR):(lr m).Pairwise (· < ·):=by
 have:=Jc m;unfold uq at this;rw [XW,XO] at this;exact this.2
def wY (m:VR)(live f:List Int):List VN:=f.flatMap fun a=>i3 live (aJ m a)
section
variable {N:Nat}{roots:List VN}(h:CollCtx N m roots live f)
include h
theorem CollCtx.nextTot:(roots.map (bG (tw f) f)++(wY m live f).map (bG (tw f) f)).length+wt (iy N m live f).Yd+wt (iy N m live f).Yc<=roots.length+wt m.Yd+wt m.Yc:=by
 have h1:=IC h.lv;have e0:(iy N m live f).Yd=[]:=rfl
 have e1:(iy N m live f).Yc=f.map fun a=>lI (tw f) f (mN N live (aJ m a)):=rfl
 rw [e0,e1,XS,XU,XU];unfold wY;have e2:wt []=0:=rfl;omega
end
end
section
open Go.RowKit
theorem yo {β γ:Type}(o:Option α)(f:α->Option β)(g:β->γ):(o.bind f).map g=o.bind fun x=>(f x).map g:=by cases o<;>rfl
theorem Oq {β γ:Type}(c:Prop)[Decidable c](o:Option β)(g:β->γ):(aE c o).map g=aE c (o.map g):=by unfold aE;split<;>rfl
theorem HS {β γ:Type}(b:Bool)(x y:Option β)(g:β->γ):(bif b then x else y).map g=bif b then x.map g else y.map g:=by cases b<;>rfl
def UQ:(VR×VY×VY×Int) ⊕ (VR×VY×VY)->VR×VY×VY×Int
 | .inl x=>x
 | .inr x=>(x.1,x.2.1,x.2.2,0)
theorem Sc (N:Nat)(m:VR)(roots:List VN):oM N m roots=(cZ N m roots).map UQ:=by
 have a6:kJ=mJ:=rfl;have a8:kI=mI:=rfl;unfold oM cZ;rw [a6,a8,yo]
 congr 1;funext y7
 rw [HS];cases !decide (y7=0)
 ·simp only [cond_false,yo]
  congr 1;funext b0;congr 1;funext b5;congr 1;funext b6
  unfold sS;split
  ·simp only [yo]
   congr 1;funext b7;congr 1;funext b9
   split
   ·simp only [yo];rfl
   ·rfl
   ·rfl
   rfl
  ·rfl
  ·rfl
  rfl
 rfl
def TH:(VR×VY×VY) ⊕ (VR×VY×VY)->VR×VY×VY×Int
 | .inl x=>(x.1,x.2.1,x.2.2,1)
 | .inr x=>(x.1,x.2.1,x.2.2,0)
theorem Ok (N:Nat)(a0:VR)(b6:VX)(a1:List VN)(b7 b9:List Int): ∀(k:Nat) (a6:List VN) (a8:Int) (b0 b5:List VJ),dP N b6 a1 b7 b9 k a6 a8 b0 b5=(fm N b6 a1 b7 b9 a0 k a6 a8 b0 b5).map TH:=by
 intro k
 induction k with
 |zero=>intros;rfl
 |succ k ih=>
  intro a6 a8 b0 b5;rw [dP.eq_2,fm.eq_2];unfold mH kF pS nX;simp only [HS,yo,Oq,ih];rfl
theorem Ol (N:Nat)(a0:VR)(a1:List VN)(a2 b6:List Int)(b7:VX): ∀(k:Nat) (a6:List VN) (a8:List Int) (b0:Int) (b5:List VJ),eZ N a0 a1 a2 b6 b7 k a6 a8 b0 b5=(fo N a0 a1 a2 b6 b7 k a6 a8 b0 b5).map TH:=by
 intro k
 induction k with
 |zero=>intros;rfl
 |succ k ih=>
  intro a6 a8 b0 b5;rw [eZ.eq_2,fo.eq_2];unfold jS kG pT nZ;simp only [HS,yo,Oq,ih,Ok N a0]
theorem R9 (N:Nat)(m:VR)(roots:List VN)(kept:List Int):jx N m roots kept=(dQ N m roots kept).map TH:=by
 unfold jx dQ;rw [yo]
 congr 1;funext y7
 rw [HS];cases !y7
 ·simp only [cond_false,yo,Ol]
 rfl
def mS (l:List VJ):Nat:=bw (fun c=>c.Ya.length) l
theorem vI (n:Nat): ∀l:List α,bw (fun _=>n) l=n*l.length
 | []=>by simp [bw]
 |a::l=>by rw [bw,vI n l,WY,Nat.mul_succ];omega
theorem Ez (g:α->Nat)(x:α): ∀(l:List α) (i:Nat),bw g (l.set i x)<=bw g l+g x
 | [],_=>by simp [bw]
 |a::l,0=>by simp only [List.set_cons_zero,bw];omega
 |a::l,i+1=>by have:=Ez g x l i;simp only [List.set_cons_succ,bw];omega
structure HInv (k:Nat) (g:VU):Prop where
 cnt:g.m_.Yd.length+g.m_.Yc.length<=k
 cells: ∀c∈g.m_.Yd++g.m_.Yc,c.Yb.length<=20/\c.Ya.length<=20
 sum:4*(g.Ym++g.Yt).length+3*(mS g.m_.Yd+mS g.m_.Yc)<=60*k
 w64:W64 g.m_
 r64: ∀v∈g.Ym++g.Yt,in64 v.N
 nd:(g.Ys.at_.map Prod.fst).Nodup
 keys: ∀x∈g.Ys.at_.map Prod.fst, ∃i:Nat,i<g.m_.Yc.length/\x=2*(i:Int)+2
section
variable (h:HInv k g)
include h
end
structure HB (g:VU):Prop where
 small:Small g.m_ (g.Ym++g.Yt)
 wtd:Wtd g.m_ (g.Ym++g.Yt)
 tot:bw (fun a=>(aJ g.m_ a).Ya.length) (Dh g.m_)<=3600
 four:4*(g.Ym++g.Yt).length+3*(mS g.m_.Yd+mS g.m_.Yc)<=9000
 w64:W64 g.m_
 r64: ∀v∈g.Ym++g.Yt,in64 v.N
 nd:(g.Ys.at_.map Prod.fst).Nodup
 keys: ∀x∈g.Ys.at_.map Prod.fst, ∃i:Nat,i<g.m_.Yc.length/\x=2*(i:Int)+2
theorem RD (N:Nat)(g:VU){a:Int}(ha:in64 a):jy N g a=some (aw g.m_ a):=by
 unfold jy aG;rw [bs,nf,ct,we N _ _ ha];rfl
theorem DH {N:Nat}(hN:6500<N)(h1:c.Yb.length<=1000/\c.Ya.length<=2900):fd N c=some (bj c):=by
 rw [xJ N U c h1.1 h1.2,qC N U c h1.1 h1.2]
def Bv (c:VJ)(a:Int):VJ:=⟨c.XZ,c.Yf,c.Ye,a,c.Yb,c.Ya⟩
def BH (kv:List (Int×Bool))(a:Int)(c:VJ):List (Int×Bool):=bif (cp c).any yB then wT kv a true else Dd kv a
theorem ME {N:Nat}(hN:6500<N)(h1:c.Yb.length<=600/\c.Ya.length<=2900)(kv:List (Int×Bool))(i:Nat): ∃b,cA N ⟨kv⟩ (2*(i:Int)+2) c=some (b,⟨BH kv (2*(i:Int)+2) c⟩):=by
 unfold cA kC sV BH;rw [dr U,ct,tL U,th U,zP N hN c h1.1 h1.2];simp only [bs,nt,cf];cases (cp c).any yB
 ·exact ⟨false,J⟩
 exact ⟨true,J⟩
theorem Of (h:(kv.map Prod.fst).Nodup)(a:Int)(c:VJ):((BH kv a c).map Prod.fst).Nodup:=by
 unfold BH;cases (cp c).any yB
 ·exact (G9 h a).2.1
 show ((wT kv a true).map (·.1)).Nodup;rw [Bc];split
 ·exact h
 rename_i hn
 exact Xg.2 ⟨h,by simp,fun x hx y hy=>by rintro rfl;exact hn (by rw [Xf.1 hy] at hx;exact hx)⟩
theorem GO (h:(kv.map Prod.fst).Nodup)(a:Int)(c:VJ)(x:Int):x∈(BH kv a c).map Prod.fst↔((cp c).any yB=true/\(x∈kv.map Prod.fst\/x=a))\/((cp c).any yB=false/\x∈kv.map Prod.fst/\x≠a):=by
 unfold BH;cases (cp c).any yB
 ·simp only [Wk,false_and,false_or,true_and];exact (G9 h a).1 x
 simp only [Bool.true_eq_false,false_and,or_false,true_and];show x∈(wT kv a true).map (·.1)↔(x∈kv.map (·.1)\/x=a);rw [Bc];split
 ·rename_i hn
  exact ⟨.inl,fun hx=>hx.elim id fun e=>e▸hn⟩
 rw [W8,Xf]
def ga (g:VU)(a:Int)(c:VJ):VU:=
 bif decide (a%2=1) then ⟨⟨g.m_.Yd.set (a / 2).toNat (Bv c (aJ g.m_ a).Yg),g.m_.Yc⟩,g.Ym,g.Yt,g.Ys⟩
 else ⟨⟨g.m_.Yd,g.m_.Yc.set (a / 2 - 1).toNat (Bv c (aJ g.m_ a).Yg)⟩,g.Ym,g.Yt,⟨BH g.Ys.at_ a c⟩⟩
def GB (g:VU)(i:Int):Bool:=decide (0<=i)&&decide (i<(g.Ym.length:Int))
theorem Ml (h:GB g i=true): ∃j:Nat,i=j/\j<g.Ym.length:=by
 unfold GB at h;rw [XW,XO,XO] at h;exact ⟨i.toNat,by omega,by omega⟩
theorem Mk (N:Nat)(g:VU)(i:Int):bK N g i=some (bif GB g i then g.Ym.getD i.toNat vZ else vZ):=by
 unfold bK aG
 cases hb:GB g i with
 |true=>
  obtain ⟨j,rfl,hj⟩:=Ml hb;rw [bs,cf,bs,V1 (p:=(j:Int)<0) U,cf,bs,V1 (p:=(g.Ym.length:Int)<=(j:Int)) U,cf,aI hj,bs,ct,Ws,List.getD_eq_getElem?_getD,WO hj];rfl
 |false=>
  unfold GB at hb;rw [bs,cf,bs,cf];by_cases h1:i<0
  ·rw [dr h1,ct,bs];rfl
  rw [V1 h1,cf,bs];rw [V0 (p:=(0:Int)<=i) U,Wl,XN] at hb;rw [V0 (p:=(g.Ym.length:Int)<=i) U];rfl
end
section
open Go.RowKit
theorem Lr (l:List Int)(cb:VN): ∀xs:List VN,4*(nO l cb xs).length+3*(ey l xs).length<=3*xs.length
 | []=>by simp [ey,nO]
 | [_]=>by simp [ey,nO]
 | [_,_]=>by simp [ey,nO]
 | [_,_,_]=>by simp [ey,nO]
 |t::h::k::s::r=>by
  have:=Lr l cb r;unfold ey nO;cases decide (t.N∈l)<;>simp<;>omega
theorem Pe (N:Nat)(l:List Int)(c:VJ):4*(i3 l c).length+3*(mN N l c).Ya.length<=3*c.Ya.length:=by
 have h1:=(tp N l c).2;by_cases h10:c.XZ=10
 ·have:=Lr l (c.Ya.headD mU) (c.Ya.drop 1);unfold mN i3;rw [V0 h10,V1 (p:=c.XZ=8) U];show 4*(nO l (c.Ya.headD mU) (c.Ya.drop 1)).length+3*(c.Ya.take 1++ey l (c.Ya.drop 1)).length<=_;rw [XS,XT];rw [WZ] at this;omega
 have e:i3 l c=[]:=by unfold i3;rw [V1 h10];rfl
 rw [e] at h1⊢;simp only [W2] at h1⊢;omega
theorem Bd (n:Nat)(g:α->Nat): ∀l:List α,bw (fun x=>n*g x) l=n*bw g l
 | []=>by simp [bw]
 |a::l=>by simp only [bw];rw [Bd n g l,Nat.mul_add]
theorem HT (m:VR):bw (fun a=>(aJ m a).Ya.length) (Dh m)=mS m.Yd+mS m.Yc:=by
 have h3:=pA (fun c:VJ=>c.Ya.length) (aJ m) (Dh m);rw [F2,tS] at h3;exact h3.symm
theorem Ry {N:Nat}(hn:f.Nodup)(hf:∀a∈f,aw m a=true):4*(f.flatMap fun a=>i3 lv (aJ m a)).length+3*bw (fun a=>(mN N lv (aJ m a)).Ya.length) f<=3*(mS m.Yd+mS m.Yc):=by
 rw [yw]
 have h1:bw (fun a=>4*(i3 lv (aJ m a)).length+3*(mN N lv (aJ m a)).Ya.length) f<=bw (fun a=>3*(aJ m a).Ya.length) f:=D7 fun a _=>Pe N lv (aJ m a)
 rw [Be,Bd,Bd,Bd] at h1
 have h2:=rC (fun a=>(aJ m a).Ya.length) hn fun a ha=>wa (hf a ha)
 rw [HT] at h2;omega
theorem yD (N:Nat)(a b:List VN)(ha:a.length<=100000)(hb:b.length<=100000):cm N a b=some (a++b):=by
 unfold cm lw mn iC kN;rw [r64 U U,db (a:=0+(a.length:Int)) U,cf,r64 U U,db (a:=0+(a.length:Int)+(b.length:Int)) U,cf,r64 U U,r64 U U,cf];by_cases h:0<a.length+b.length
 ·rw [dr U,ct,gp ⟨by omega,by omega⟩,bs,rF (by simp;omega),rF (by simp;omega)];rfl
 rw [db U,cf,bs,rF (by simp;omega),rF (by simp;omega)];rfl
theorem FU (N:Nat)(a:List VN)(ha:a.length<=100000):cu N a=some a:=by
 unfold cu;rw [rF (by simp;omega)];rfl
theorem Jf (N:Nat)(g:VU)(h:g.Ym.length<=600):jV N g=some g.Ym:=by
 unfold jV aG;rw [bs,cf,FU N _ U,bs]
section
variable (h:HB g)
include h
theorem HB.klen:g.Ys.at_.length<=g.m_.Yc.length:=by
 have h1:=rC (fun _=>1) h.nd (L:=bN g.m_.Yc.length) fun x hx=>ie.2 (h.keys x hx)
 rw [vI,vI,XU] at h1;unfold bN at h1;simp only [XU,List.length_range] at h1;omega
theorem HB.keysH (hx:x∈iN g.Ys.at_):aw g.m_ x=true:=by
 obtain ⟨i,hi,rfl⟩:=h.keys x ((tv _ x).1 hx);rw [sy,V0 hi]
theorem HB.kslen:(iN g.Ys.at_).length<=g.m_.Yc.length:=by
 have h1:=h.klen;have e:(iN g.Ys.at_).length=(g.Ys.at_.map Prod.fst).length:=vJ _;rw [e,XU];omega
theorem KJ (N:Nat):mD N g.Ys=some (iN g.Ys.at_):=by
 have h1:=h.klen;have h2:=h.small.old;unfold mD yn sb;rw [bs,gp ⟨fun x hx=>rl h.small (by obtain ⟨i,hi,rfl⟩:=h.keys x hx;rw [sy,V0 hi]),h.nd,by show ci g.Ys.at_.length;unfold ci;omega⟩,bs]
end
theorem Ja (h:kv.map Prod.fst=lr m):(kv.map Prod.fst).Nodup/\ ∀x∈kv.map Prod.fst, ∃i:Nat,i<m.Yc.length/\x=2*(i:Int)+2:=by
 rw [h];refine ⟨(BS m).imp fun hab e=>by omega,fun x hx=> ?_⟩;obtain ⟨i,hi, -,e⟩:=tz.1 hx;exact ⟨i,hi,e⟩
theorem Lm {N:Nat}(f:VN->VN)(r p gone:List VN){R:Type}(F:List VN->List VN->Option R)(h1:r.length+p.length<=600)(h2:gone.length<=3000):
  aE ((0:Int)<=(r.length:Int)/\0<=(r.length:Int).toNat/\(r.length:Int).toNat<=((r++p).map f).length) (aE ((0:Int)<=(r.length:Int)/\(r.length:Int).toNat<=((r++p).map f).length/\((r++p).map f).length<=((r++p).map f).length) ((cu N ((((r++p).map f).drop 0).take ((r.length:Int).toNat - 0))).bind fun a6=>(cm N ((((r++p).map f).drop ((r.length:Int).toNat)).take (((r++p).map f).length - (r.length:Int).toNat)) gone).bind fun a8=>F a6 a8))=F (r.map f) (p.map f++gone):=by
 have e1:(((r++p).map f).drop 0).take ((r.length:Int).toNat - 0)=r.map f:=by
  rw [WC,Nat.sub_zero,Ws,W5,List.take_left' (by simp)]
 have e2:(((r++p).map f).drop ((r.length:Int).toNat)).take (((r++p).map f).length - (r.length:Int).toNat)=p.map f:=by
  rw [Ws,W5,List.drop_left' (by simp)];exact Xn (by simp)
 have hl:((r++p).map f).length=r.length+p.length:=by simp
 rw [gp ⟨by omega,by omega,by omega⟩,gp ⟨by omega,by omega,by omega⟩,e1,e2,FU N _ (by simp;omega),bs,yD N _ _ (by simp;omega) U,bs]
section
variable {N:Nat}{roots:List VN}(h:MinCtx N m roots kept met)
include h
theorem MinCtx.mid4:4*(ym m met).length+3*(mS (pa N m met).Yd+mS (pa N m met).Yc)<=3*(mS m.Yd+mS m.Yc):=by
 have h1:=Ry (N:=N) (lv:=jc m met) h.nd fun a ha=>h.f1has ha
 have h2:=h.midSum fun c=>c.Ya.length
 have h3:bw (fun a=>(rW N m met a).Ya.length) (jc m met)=bw (fun a=>(mN N (jc m met) (aJ m a)).Ya.length) (jc m met):=tO fun a _=>by
  show ((mN N (jc m met) (aJ m a)).Ya.map _).length=_;rw [XU]
 unfold mS ym at*;omega
end
section
variable {N:Nat}{roots:List VN}(h:CollCtx N m roots live f)
include h
theorem CollCtx.next4:4*(wY m live f).length+3*(mS (iy N m live f).Yd+mS (iy N m live f).Yc)<=3*(mS m.Yd+mS m.Yc):=by
 have h1:=Ry (N:=N) (lv:=live) h.lv.nd fun a ha=>h.lv.fhas ha
 have h3:mS (iy N m live f).Yc=bw (fun a=>(mN N live (aJ m a)).Ya.length) f:=by
  show bw (fun c:VJ=>c.Ya.length) (f.map fun a=>lI (tw f) f (mN N live (aJ m a)))=_;rw [pA]
  exact tO fun a _=>by show ((mN N live (aJ m a)).Ya.map _).length=_;rw [XU]
 have h4:mS (iy N m live f).Yd=0:=rfl;unfold wY at*;omega
theorem CollCtx.nextCnt:(iy N m live f).Yc.length<=m.Yd.length+m.Yc.length:=by
 have h1:=rC (fun _=>1) h.lv.nd fun a ha=>wa (h.lv.fhas ha)
 rw [vI,vI] at h1;unfold Dh at h1;unfold iy;simp only [XS,XU,List.length_range] at h1⊢;omega
end
theorem Qn {N:Nat}(hN:6500<N)(h:HB g):
  (Fl N g.m_ (g.Ym++g.Yt) (iN g.Ys.at_)=false/\dc N g=some (1,g))\/
  ∃met kv,MinCtx N g.m_ (g.Ym++g.Yt) (iN g.Ys.at_) met/\kv.map Prod.fst=lr (pa N g.m_ met)/\
   dc N g=some (0,⟨pa N g.m_ met,g.Ym.map (bG (jm g.m_ met) met),g.Yt.map (bG (jm g.m_ met) met)++(ym g.m_ met).map (bG (jm g.m_ met) met),⟨kv⟩⟩):=by
 have hs:=h.small;have hkl:=h.kslen;have ho:=hs.old;have hrl:=hs.roots;have hsum:=h.four;have hcnt:=h.wtd.cnt;rw [XS] at hrl hsum;have hm:=R9 N g.m_ (g.Ym++g.Yt) (iN g.Ys.at_)
 have head:dc N g=((dQ N g.m_ (g.Ym++g.Yt) (iN g.Ys.at_)).bind fun a6=>zy a6 (fun y13_0=>some (.inl (y13_0.1,y13_0.2.1,y13_0.2.2))) (fun y13_1=>some (.inr (y13_1.1,y13_1.2.1,y13_1.2.2)))).bind fun a8=>(zy a8 (fun y26_0:VR×VY×VY=>gG N g y26_0.1.Yd y26_0.1.Yc y26_0.2.1 y26_0.2.2) (fun y26_1:VR×VY×VY=>dR N g y26_1.1.Yd y26_1.1.Yc y26_1.2.1 y26_1.2.2)).bind fun y9=>some (y9.1,y9.2):=by
  unfold dc iF nq aG;rw [bs,cf,yD N _ _ U U,bs,KJ h N,bs,Option.bind_assoc]
 cases hmay:Fl N g.m_ (g.Ym++g.Yt) (iN g.Ys.at_) with
 | false=>
  have e1:jx N g.m_ (g.Ym++g.Yt) (iN g.Ys.at_)=some (⟨[],[]⟩,[],[],1):=by
   unfold jx;rw [GR N hN hs h.w64 h.r64 _ U (fun x hx=>rl hs (h.keysH hx)),hmay,bs,nf,ct]
  rw [e1] at hm;refine .inl ⟨J,?_⟩;rw [head]
  cases hc:dQ N g.m_ (g.Ym++g.Yt) (iN g.Ys.at_) with
  |none=>rw [hc] at hm;cases hm
  | some y=>
   rw [hc] at hm
   cases y with
   |inl y=>rfl
   |inr y=>
    have:=XH hm;have:=congrArg (fun z:VR×VY×VY×Int=>z.2.2.2) this;exact absurd this (by show¬(1:Int)=0;omega)
 | true=>
  obtain ⟨met,c⟩:=Qe hN hs h.w64 h.r64 h.tot (kept:=iN g.Ys.at_) U hmay;have h4:=c.mid4;have hmc:=c.midCnt;obtain ⟨kv,k1,k2⟩:=EJ N hN (m:=pa N g.m_ met) (c.midS U [] (by simp));have hg:((ym g.m_ met).map (bG (jm g.m_ met) met)).length=(ym g.m_ met).length:=XU _;refine .inr ⟨met,kv,c,k2,?_⟩;rw [On c] at hm;rw [head]
  have ek:dQ N g.m_ (g.Ym++g.Yt) (iN g.Ys.at_)=some (.inr (pa N g.m_ met,(g.Ym++g.Yt).map (bG (jm g.m_ met) met),(ym g.m_ met).map (bG (jm g.m_ met) met))):=by
   cases hc:dQ N g.m_ (g.Ym++g.Yt) (iN g.Ys.at_) with
   |none=>rw [hc] at hm;cases hm
   | some y=>
    rw [hc] at hm;have e:=XH hm
    cases y with
    |inl y=>
     have:=congrArg (fun z:VR×VY×VY×Int=>z.2.2.2) e;exact absurd this (by show¬(0:Int)=1;omega)
    |inr y=>
     obtain ⟨y1,y2,y3⟩:=y;have e':=e;simp only [TH,Prod.mk.injEq,and_true] at e';obtain ⟨rfl,rfl,rfl⟩:=e';rfl
  rw [ek,bs]
  dsimp only [zy]
  rw [bs]
  dsimp only
  unfold dR gF;rw [Lm (N:=N) (bG (jm g.m_ met) met) g.Ym g.Yt _ _ U U];have k1':cG N g.Ys (⟨(pa N g.m_ met).Yd,(pa N g.m_ met).Yc⟩:VR)=some ⟨kv⟩:=k1;rw [k1',bs,bs]
theorem KA {N:Nat}{R:List VN}(h0:mh N m R=some 0){y:VR×List VN×List VN×Int}(h:cZ N m R=some (.inl y)):False:=by
 unfold cZ at h;rw [h0,bs,V0 (p:=(0:Int)=0) rfl,nt,cf] at h;obtain ⟨a6, -,h⟩:=aa h;obtain ⟨a8, -,h⟩:=aa h;obtain ⟨b0, -,h⟩:=aa h;unfold sS at h;split at h
 ·obtain ⟨b5, -,h⟩:=aa h;obtain ⟨b6, -,h⟩:=aa h;split at h
  ·obtain ⟨b7, -,h⟩:=aa h;obtain ⟨b9, -,h⟩:=aa h;cases h
  ·cases h
  ·cases h
  cases h
 ·cases h
 ·cases h
 cases h
theorem Qo {N:Nat}(hN:6500<N)(h:HB g):
  (oh N g.m_ (g.Ym++g.Yt)≠0/\df N g=some (oh N g.m_ (g.Ym++g.Yt),g))\/
  ∃live f kv,CollCtx N g.m_ (g.Ym++g.Yt) live f/\kv.map Prod.fst=lr (iy N g.m_ live f)/\
   df N g=some (0,⟨iy N g.m_ live f,g.Ym.map (bG (tw f) f),g.Yt.map (bG (tw f) f)++(wY g.m_ live f).map (bG (tw f) f),⟨kv⟩⟩):=by
 have hs:=h.small;have hrl:=hs.roots;have hsum:=h.four;have hcnt:=h.wtd.cnt;rw [XS] at hrl hsum;obtain ⟨live,f,hl⟩:=Qg N hN hs h.w64 h.r64;have hp:=Ih N hN hs h.wtd h.w64 h.r64 hl;have hm:=Sc N g.m_ (g.Ym++g.Yt);rw [hp] at hm;unfold Pd at hm
 have head:df N g=((cZ N g.m_ (g.Ym++g.Yt)).bind fun a6=>zy a6 (fun y11_0=>some (.inl (y11_0.1,y11_0.2.1,y11_0.2.2.1,y11_0.2.2.2))) (fun y11_1=>some (.inr (y11_1.1,y11_1.2.1,y11_1.2.2)))).bind fun a8=>(zy a8 (fun y27_0:VR×VY×VY×Int=>dT N g y27_0.1.Yd y27_0.1.Yc y27_0.2.1 y27_0.2.2.1 y27_0.2.2.2) (fun y27_1:VR×VY×VY=>dS N g y27_1.1.Yd y27_1.1.Yc y27_1.2.1 y27_1.2.2)).bind fun y9=>some (y9.1,y9.2):=by
  unfold df iG nr aG;rw [bs,cf,yD N _ _ U U,bs,Option.bind_assoc]
 by_cases h0: ¬oh N g.m_ (g.Ym++g.Yt)=0
 ·rw [iX h0,cond_false] at hm;refine .inl ⟨h0,?_⟩;rw [head]
  cases hc:cZ N g.m_ (g.Ym++g.Yt) with
  |none=>rw [hc] at hm;cases hm
  | some y=>
   rw [hc] at hm;have e:=congrArg (fun z:VR×VY×VY×Int=>z.2.2.2) (XH hm)
   cases y with
   |inl y=>
    obtain ⟨y1,y2,y3,y4⟩:=y;have e':oh N g.m_ (g.Ym++g.Yt)=y4:=e;rw [bs]
    dsimp only [zy]
    rw [bs]
    dsimp only
    unfold dT;rw [<-e',iX h0,nf,ct,bs]
   |inr y=>exact absurd e h0
 replace h0:oh N g.m_ (g.Ym++g.Yt)=0:=by omega
 rw [th h0,cond_true] at hm;have c:=Ss hN hs h.wtd h.w64 h.r64 hl h0;have h4:=c.next4;have hnc:=c.nextCnt;have h0n:(iy N g.m_ live f).Yd.length=0:=rfl;obtain ⟨kv,k1,k2⟩:=EJ N hN (m:=iy N g.m_ live f) (c.nextS [] (by simp));have k1':cG N g.Ys (⟨(iy N g.m_ live f).Yd,(iy N g.m_ live f).Yc⟩:VR)=some ⟨kv⟩:=k1;have hg:((wY g.m_ live f).map (bG (tw f) f)).length=(wY g.m_ live f).length:=XU _;refine .inr ⟨live,f,kv,c,k2,?_⟩;rw [head]
 cases hc:cZ N g.m_ (g.Ym++g.Yt) with
 |none=>rw [hc] at hm;cases hm
 | some y=>
  rw [hc] at hm;have e:=XH hm
  cases y with
  |inl y=>exact (KA (by rw [FY N hN hs h.wtd h.w64 h.r64,h0]) hc).elim
  |inr y=>
   obtain ⟨y1,y2,y3⟩:=y;simp only [UQ,Prod.mk.injEq,and_true] at e;obtain ⟨rfl,rfl,rfl⟩:=e;rw [bs]
   dsimp only [zy]
   rw [bs]
   dsimp only
   unfold dS gI;unfold JC
   dsimp only
   rw [Lm (N:=N) (bG (tw f) f) g.Ym g.Yt _ _ U (by unfold wY at hg;rw [hg];unfold wY at h4;omega)];have k2':cG N g.Ys (⟨[],f.map fun a=>lI (tw f) f (mN N live (aJ g.m_ a))⟩:VR)=some ⟨kv⟩:=k1;rw [k2',bs,bs];rfl
end
section
open Go.RowKit
theorem Hj {a b:List VN}(h:js f (a++b)):js f a:=fun v hv hb=>h v (V4 _ hv) hb
theorem Lb (h:c.XZ≠10):i3 lv c=[]:=by
 unfold i3;rw [V1 h];rfl
theorem Ii {N:Nat}(h8:c.XZ≠8)(h10:c.XZ≠10):mN N lv c=c:=by
 unfold mN;rw [V1 h8,V1 h10];rfl
theorem ST (h:kv.map Prod.fst=lr m):iN kv=lr m:=by
 have e:iN kv=kq (kv.map Prod.fst):=rfl;rw [e,h]
 exact EB ((BS m).imp fun hab e=>by omega) (BS m) fun x=>Iff.rfl
structure Pl (g:VU):Prop where
 hb:HB g
 pend:g.Yt=[]
 cells: ∀c∈g.m_.Yd++g.m_.Yc,bj c=true/\(∀x∈cp c,aw g.m_ x=true)/\c.XZ≠8/\c.XZ≠10
 roots: ∀x∈bP g.Ym,aw g.m_ x=true
 set:iN g.Ys.at_=lr g.m_
structure Mv (g g':VU) (ρ:Int->Int) (f:List Int):Prop where
 roots:g'.Ym=g.Ym.map (bG ρ f)
 pend:g'.Yt=[]
 at_: ∀a∈f,aw g'.m_ (ρ a)=true/\ ∃age,aJ g'.m_ (ρ a)=xG (lI ρ f (aJ g.m_ a)) age
 rin:js f g.Ym
 has: ∀a∈f,aw g.m_ a=true
 cells: ∀c∈g'.m_.Yd++g'.m_.Yc,(∃a∈f, ∃age,c=xG (lI ρ f (aJ g.m_ a)) age)/\bj c=true/\ ∀x∈cp c,aw g'.m_ x=true
 cnt:g'.m_.Yd.length+g'.m_.Yc.length<=g.m_.Yd.length+g.m_.Yc.length
 sum:mS g'.m_.Yd+mS g'.m_.Yc<=mS g.m_.Yd+mS g.m_.Yc
 wts:wt g'.m_.Yd+wt g'.m_.Yc<=wt g.m_.Yd+wt g.m_.Yc
 w64:W64 g'.m_
 r64: ∀v∈g'.Ym,in64 v.N
 set:g'.Ys.at_.map Prod.fst=lr g'.m_
 inj: ∀a∈f, ∀b∈f,ρ a=ρ b->a=b
 cin: ∀a∈f,js f (aJ g.m_ a).Yb/\js f (aJ g.m_ a).Ya
theorem Pl.check {N:Nat}(hN:6500<N)(h:Pl g):oh N g.m_ (g.Ym++g.Yt)=0:=by
 unfold oh
 have e1:(g.m_.Yd++g.m_.Yc).all (se N)=true:=by
  rw [Wu];intro c hc;have:=h.hb.small.cells c hc;rw [IP U U U];exact (h.cells c hc).1
 have e2:iY g.m_ ((g.m_.Yd++g.m_.Yc).flatMap cp++bP (g.Ym++g.Yt))=true:=by
  unfold iY;rw [Wu];intro x hx;rcases W8.1 hx with hx|hx
  ·obtain ⟨c,hc,hx⟩:=List.mem_flatMap.1 hx;exact (h.cells c hc).2.1 x hx
  rw [h.pend,Wv] at hx;exact h.roots x hx
 rw [e1,e2];rfl
theorem Pl.may {N:Nat}(hN:6500<N)(h:Pl g):Fl N g.m_ (g.Ym++g.Yt) (iN g.Ys.at_)=true:=by
 rw [h.set,MM,h.pend,Wv];unfold FG CE iY;rw [XW,Wu,Wu];refine ⟨fun x hx=>h.roots x hx,fun c hc=> ?_⟩;have:=h.hb.small.cells c hc;have ha:=(h.cells c hc).2.1;unfold FH;rw [qC N U c U U,(h.cells c hc).1];show (true&&_)=true;rw [Wl,XW];unfold iY;rw [Wu,Wu];exact ⟨fun x hx=>ha x (V4 _ hx),fun x hx=>ha x (V5 _ hx)⟩
theorem Om {N:Nat}(hN:6500<N)(h:Pl g): ∃g' ρ f,dc N g=some (0,g')/\Mv g g' ρ f:=by
 have hcnt:=h.hb.wtd.cnt;rcases Qn hN h.hb with ⟨hm, -⟩|⟨met,kv,c,k2,e⟩
 ·rw [h.may hN] at hm;cases hm
 have ef:bG (jm g.m_ met) met=bG (jm g.m_ met) (jc g.m_ met):=funext fun v=>(Fi v).symm
 have hin:js (jc g.m_ met) g.Ym:=Hj c.rootIn
 have hk: ∀a∈jc g.m_ met,(aJ g.m_ a).XZ≠8/\(aJ g.m_ a).XZ≠10:=fun a ha=>(h.cells _ (mP (c.f1has ha))).2.2
 have hg:ym g.m_ met=[]:=by
  unfold ym;rw [List.flatMap_eq_nil_iff]
  exact fun a ha=>Lb (hk a ha).2
 have hp:g.Yt.map (bG (jm g.m_ met) met)++(ym g.m_ met).map (bG (jm g.m_ met) met)=[]:=by rw [hg,h.pend];rfl
 rw [hp] at e
 have hc: ∀a∈jc g.m_ met, ∃age,rW N g.m_ met a=xG (lI (jm g.m_ met) (jc g.m_ met) (aJ g.m_ a)) age:=fun a ha=>⟨_,by
  unfold rW
  rw [c.nCE a,Ii (hk a ha).1 (hk a ha).2]⟩
 have h4:=c.mid4;rw [hg,W2] at h4;refine ⟨_,jm g.m_ met,jc g.m_ met,e,⟨by rw [<-ef],rfl,fun a ha=> ?_,hin,fun a ha=>c.f1has ha,fun d hd=> ?_,c.midCnt,by show mS (pa N g.m_ met).Yd+mS (pa N g.m_ met).Yc<=_;omega,c.midWt,c.midW,fun v hv=> ?_,k2,fun a ha b hb=>c.ren.inj a b ha hb,fun a ha=> ?_⟩⟩
 ·obtain ⟨h1,h2⟩:=c.at_ ha;obtain ⟨age,h3⟩:=hc a ha;exact ⟨h1,age,h2.trans h3⟩
 ·obtain ⟨a,ha,rfl⟩:=c.midMem hd;obtain ⟨h1,h2⟩:=c.midAddr hd;exact ⟨⟨a,ha,hc a ha⟩,h1,h2⟩
 ·have hv':v∈g.Ym.map (bG (jm g.m_ met) met):=hv;rw [ef] at hv';exact c.now64 v (by rw [W5];exact V4 _ hv')
 have:=(c.cell ha).inC;rw [Ii (hk a ha).1 (hk a ha).2] at this;exact this
theorem Ot {N:Nat}(hN:6500<N)(h:Pl g): ∃g' ρ f,df N g=some (0,g')/\Mv g g' ρ f:=by
 rcases Qo hN h.hb with ⟨hm, -⟩|⟨live,f,kv,c,k2,e⟩
 ·exact absurd (h.check hN) hm
 have hin:js f g.Ym:=Hj c.rootIn
 have hk: ∀a∈f,(aJ g.m_ a).XZ≠8/\(aJ g.m_ a).XZ≠10:=fun a ha=>(h.cells _ (mP (c.lv.fhas ha))).2.2
 have hg:wY g.m_ live f=[]:=by
  unfold wY;rw [List.flatMap_eq_nil_iff]
  exact fun a ha=>Lb (hk a ha).2
 have hp:g.Yt.map (bG (tw f) f)++(wY g.m_ live f).map (bG (tw f) f)=[]:=by rw [hg,h.pend];rfl
 rw [hp] at e;have h4:=c.next4;have ht:=c.nextTot;have hnc:=c.nextCnt;rw [hg,W2] at h4;rw [hg,List.map_nil,Wv,XU] at ht;have h0n:(iy N g.m_ live f).Yd.length=0:=rfl
 have hc: ∀a∈f,lI (tw f) f (mN N live (aJ g.m_ a))=xG (lI (tw f) f (aJ g.m_ a)) (aJ g.m_ a).Yg:=fun a ha=>by
  rw [Ii (hk a ha).1 (hk a ha).2];rfl
 refine ⟨_,tw f,f,e,⟨J,J,fun a ha=> ?_,hin,fun a ha=>c.lv.fhas ha,fun d hd=> ?_,by show (iy N g.m_ live f).Yd.length+(iy N g.m_ live f).Yc.length<=_;omega,by show mS (iy N g.m_ live f).Yd+mS (iy N g.m_ live f).Yc<=_;omega,by show wt (iy N g.m_ live f).Yd+wt (iy N g.m_ live f).Yc<=_;omega,c.nextW,fun v hv=> ?_,k2,fun _ ha _ hb=>Lf ha hb,fun a ha=> ?_⟩⟩
 ·exact ⟨I1 ha,_,(Qb ha).trans (hc a ha)⟩
 ·have hd':d∈f.map fun a=>lI (tw f) f (mN N live (aJ g.m_ a)):=hd
  obtain ⟨h1,h2⟩:=c.nextAddr hd';obtain ⟨a,ha,rfl⟩:=Xc.1 hd';exact ⟨⟨a,ha,_,hc a ha⟩,h1,h2⟩
 ·exact c.now64 v (by rw [W5];exact V4 _ hv)
 have:=(c.cell ha).inC;rw [Ii (hk a ha).1 (hk a ha).2] at this;exact this
theorem Mv.pl {g':VU}{ρ:Int->Int}(m:Mv g g' ρ f)(h:Pl g):Pl g':=by
 obtain ⟨n1,n2⟩:=Ja m.set;have hs:=h.hb.small;have hw:=h.hb.wtd
 have hl:g'.Ym.length=g.Ym.length:=by rw [m.roots,XU]
 have hrl:=hs.roots;have hle:=hw.le;have hf:=h.hb.four;have ht:=h.hb.tot;have hwc:=hw.cnt;have hc:=m.cnt;have hwt:=m.wts;have hsum:=m.sum;rw [HT] at ht;rw [h.pend,Wv] at hrl hle hf
 have hsz: ∀c∈g'.m_.Yd++g'.m_.Yc,c.Yb.length<=600/\c.Ya.length<=2900:=fun c hc=>by
  obtain ⟨⟨a,ha,age,rfl⟩, -⟩:=m.cells c hc;have:=hs.cells _ (mP (m.has a ha));show ((aJ g.m_ a).Yb.map _).length<=600/\((aJ g.m_ a).Ya.map _).length<=2900;rw [XU,XU];exact this
 refine ⟨⟨⟨by omega,by omega,?_,hsz⟩,⟨?_,by omega⟩,?_,?_,m.w64,?_,n1,n2⟩,m.pend,fun c hc=> ?_,fun x hx=> ?_,ST m.set⟩
 ·rw [m.pend,Wv];omega
 ·rw [m.pend,Wv];omega
 ·rw [HT];omega
 ·rw [m.pend,Wv];omega
 ·rw [m.pend,Wv];exact m.r64
 ·obtain ⟨⟨a,ha,age,rfl⟩,h1,h2⟩:=m.cells c hc;exact ⟨h1,h2,(h.cells _ (mP (m.has a ha))).2.2⟩
 obtain ⟨v,hv,hb,rfl⟩:=qW.1 hx;rw [m.roots] at hv;obtain ⟨w,hw,rfl⟩:=Xc.1 hv;rw [HN] at hb;rw [sm hb (m.rin w hw hb)];exact (m.at_ _ (m.rin w hw hb)).1
def RQ (S:List Int)(c:VJ):List VN:=bif decide (c.XZ=8) then jd (fun x=>decide (x∈S)) c.Ya else c.Ya
structure IsoC (ρ:Int->Int) (S:List Int) (c d:VJ):Prop where
 kind:d.XZ=c.XZ
 shape:d.Yf=c.Yf
 flags:d.Ye=c.Ye
 slots:d.Yb=c.Yb.map (bG ρ S)
 more:RQ (S.map ρ) d=(RQ S c).map (bG ρ S)
 inS:js S c.Yb
 inM:js S (RQ S c)
structure TVal (m:VR) (R:List VN):Prop where
 right: ∀c∈m.Yd++m.Yc,bj c=true
 kind: ∀c∈m.Yd++m.Yc,c.XZ=8\/c.XZ=11
 addr: ∀c∈m.Yd++m.Yc, ∀x∈cp c,aw m x=true
 size: ∀c∈m.Yd++m.Yc,c.Yb.length<=20/\c.Ya.length<=20
 roots: ∀v∈R,v=mU\/(v.XZ=9/\v.S=⟨#[]⟩/\aw m v.N=true)
structure Iso (mA mB:VR) (RA RB:List VN) (S:List Int) (ρ:Int->Int):Prop where
 ren:Ren ρ S
 inA: ∀a∈S,aw mA a=true
 inB: ∀a∈S,aw mB (ρ a)=true
 cell: ∀a∈S,IsoC ρ S (aJ mA a) (aJ mB (ρ a))
 rootIn:js S RA
 roots:RB=RA.map (bG ρ S)
section
variable {R:List VN}(h:TVal m R)
include h
end
section
variable {mA mB:VR}{RA RB:List VN}{S:List Int}{ρ:Int->Int}(h:Iso mA mB RA RB S ρ)(vA:TVal mA RA)(vB:TVal mB RB)
include h vA vB
end
end
section
open Go.RowKit
def xF (m:VR)(a:Int)(c:VJ):VR:=bif decide (a%2=1) then ⟨m.Yd.set (a / 2).toNat c,m.Yc⟩ else ⟨m.Yd,m.Yc.set (a / 2 - 1).toNat c⟩
theorem Pm {a:Int}(c:VJ)(h:aw m a=true):(∀x,aw (xF m a c) x=aw m x)/\(∀x,aw m x=true->aJ (xF m a c) x=if x=a then c else aJ m x)/\(xF m a c).Yd.length=m.Yd.length/\(xF m a c).Yc.length=m.Yc.length/\(∀d∈(xF m a c).Yd++(xF m a c).Yc,d∈m.Yd++m.Yc\/d=c)/\mS (xF m a c).Yd+mS (xF m a c).Yc<=mS m.Yd+mS m.Yc+c.Ya.length:=by
 have hhas: ∀m':VR,m'.Yd.length=m.Yd.length->m'.Yc.length=m.Yc.length-> ∀x,aw m' x=aw m x:=fun m' h1 h2 x=>by
  rw [Bool.eq_iff_iff];constructor
  ·intro hx;rcases fu hx with ⟨i,hi,rfl⟩|⟨i,hi,rfl⟩
   ·rw [AL];exact V0 U
   rw [sy];exact V0 U
  intro hx;rcases fu hx with ⟨i,hi,rfl⟩|⟨i,hi,rfl⟩
  ·rw [AL];exact V0 U
  rw [sy];exact V0 U
 rcases fu h with ⟨j,hj,rfl⟩|⟨j,hj,rfl⟩
 ·have e:xF m (2*(j:Int)+1) c=⟨m.Yd.set j c,m.Yc⟩:=by
   unfold xF;rw [V0 U,cond_true,show ((2*(j:Int)+1) / 2).toNat=j by omega]
  rw [e];refine ⟨hhas _ (W3 ..) J,fun x hx=> ?_,W3 ..,J,fun d hd=> ?_,?_⟩
  ·rcases fu hx with ⟨i,hi,rfl⟩|⟨i,hi,rfl⟩
   ·rw [wi ⟨m.Yd.set j c,m.Yc⟩ i (by simpa using hi),wi m i hi];simp only [List.getElem_set];by_cases hij:j=i
    ·rw [if_pos hij,if_pos U]
    rw [if_neg hij,if_neg U]
   rw [rY ⟨m.Yd.set j c,m.Yc⟩ i hi,rY m i hi,if_neg U]
  ·rcases W8.1 hd with hd|hd
   ·rcases List.mem_or_eq_of_mem_set hd with hd|hd
    ·exact .inl (V4 _ hd)
    exact .inr hd
   exact .inl (V5 _ hd)
  have:=Ez (fun c:VJ=>c.Ya.length) c m.Yd j;unfold mS;simp only at this⊢;omega
 have e:xF m (2*(j:Int)+2) c=⟨m.Yd,m.Yc.set j c⟩:=by
  unfold xF;rw [V1 U,cond_false,show ((2*(j:Int)+2) / 2 - 1).toNat=j by omega]
 rw [e];refine ⟨hhas _ J (W3 ..),fun x hx=> ?_,J,W3 ..,fun d hd=> ?_,?_⟩
 ·rcases fu hx with ⟨i,hi,rfl⟩|⟨i,hi,rfl⟩
  ·rw [wi ⟨m.Yd,m.Yc.set j c⟩ i hi,wi m i hi,if_neg U]
  rw [rY ⟨m.Yd,m.Yc.set j c⟩ i (by simpa using hi),rY m i hi];simp only [List.getElem_set];by_cases hij:j=i
  ·rw [if_pos hij,if_pos U]
  rw [if_neg hij,if_neg U]
 ·rcases W8.1 hd with hd|hd
  ·exact .inl (V4 _ hd)
  rcases List.mem_or_eq_of_mem_set hd with hd|hd
  ·exact .inl (V5 _ hd)
  exact .inr hd
 have:=Ez (fun c:VJ=>c.Ya.length) c m.Yc j;unfold mS;simp only at this⊢;omega
theorem xZ (g:VU)(a:Int)(c:VJ):(ga g a c).m_=xF g.m_ a (Bv c (aJ g.m_ a).Yg)/\(ga g a c).Ym=g.Ym/\(ga g a c).Yt=g.Yt/\(ga g a c).Ys.at_=bif decide (a%2=1) then g.Ys.at_ else BH g.Ys.at_ a c:=by
 unfold ga xF;cases decide (a%2=1)<;>exact ⟨rfl,rfl,rfl,rfl⟩
theorem Kl (h:bj c=true){a:Int}(h0:0<=a)(h1:a<=1):bj (Bv c a)=true:=by
 unfold bj at h⊢;simp only [XW,Bool.not_eq_true',XN] at h⊢;obtain ⟨⟨⟨⟨⟨⟨⟨p1,p2⟩,p3⟩,p4⟩,p5⟩, -⟩, -⟩,h⟩:=h;exact ⟨⟨⟨⟨⟨⟨⟨p1,p2⟩,p3⟩,p4⟩,p5⟩,by show¬a<0;omega⟩,by show¬1<a;omega⟩,h⟩
theorem Mm (h:bj c=true):0<=c.Yg/\c.Yg<=1:=by
 unfold bj at h;simp only [XW,Bool.not_eq_true',XN] at h;omega
theorem Uj {N:Nat}(hN:6500<N)(hs:Small g.m_ (g.Ym++g.Yt)){a:Int}(hh:aw g.m_ a=true)(h1:c.Yb.length<=600/\c.Ya.length<=2900):
  lV N g a c=some (bif !bj c then (51,g) else (0,ga g a c)):=by
 have hy:=hs.young;have ho:=hs.old;unfold lV aG;rw [bs,cf,RD N g (rl hs hh),bs,DH hN U,bs,hh]
 cases bj c with
 |false=>rfl
 | true=>
  rw [nt,cf,cf];unfold ic;rcases fu hh with ⟨i,hi,rfl⟩|⟨i,hi,rfl⟩
  ·have e1:(2*(i:Int)+1).tmod 2=1:=by rw [tL U];omega
   have e2:(2*(i:Int)+1).tdiv 2=i:=by rw [Wo U];omega
   have e3:(2*(i:Int)+1) / 2=i:=by omega
   have e4:(2*(i:Int)+1)%2=1:=by omega
   unfold ga;rw [e1,e2,e3,e4,V0 (p:=(1:Int)=1) rfl,V1 (p:=(1:Int)=0) U,ct,ct,r64 U U,aI hi,bs,bs]
   dsimp only [zy]
   rw [aI hi,bs,qV N c U,bs,cf,wi g.m_ i hi];unfold mL;rw [List.set_set];rfl
  have e1:(2*(i:Int)+2).tmod 2=0:=by rw [tL U];omega
  have e2:(2*(i:Int)+2).tdiv 2=(i:Int)+1:=by rw [Wo U];omega
  have e3:(2*(i:Int)+2) / 2 - 1=i:=by omega
  have e4:(2*(i:Int)+2)%2=0:=by omega
  have e5:(i:Int)+1 - 1=i:=by omega
  obtain ⟨b,hb⟩:=ME hN (c:=c) U g.Ys.at_ i;have hb':cA N g.Ys (2*(i:Int)+2) c=some (b,⟨BH g.Ys.at_ (2*(i:Int)+2) c⟩):=hb;unfold ga;rw [hb',e1,e2,e3,e4,e5,V1 (p:=(0:Int)=1) U,V0 (p:=(0:Int)=0) rfl,cf,cf,r64 U U,r64 U U,aI hi,bs,bs]
  dsimp only [zy]
  rw [aI hi,bs,qV N c U,bs,ct,bs,rY g.m_ i hi];unfold mK;rw [List.set_set];rfl
theorem Ms (hs:iN g.Ys.at_=lr g.m_)(hnd:(g.Ys.at_.map Prod.fst).Nodup){a:Int}(ha:aw g.m_ a=true)(c:VJ)(nd:((ga g a c).Ys.at_.map Prod.fst).Nodup):iN (ga g a c).Ys.at_=lr (ga g a c).m_:=by
 obtain ⟨f1, -, -,f4⟩:=xZ g a c;obtain ⟨s1,s2,s3,s4, -, -⟩:=Pm (Bv c (aJ g.m_ a).Yg) ha;have e:iN (ga g a c).Ys.at_=kq ((ga g a c).Ys.at_.map Prod.fst):=rfl;rw [e]
 refine EB nd (BS _) fun x=> ?_
 have hkv: ∀x,x∈g.Ys.at_.map Prod.fst↔x∈lr g.m_:=fun x=>by rw [<-hs];exact (tv _ x).symm
 have hold: ∀i,i<g.m_.Yc.length->uT (ga g a c).m_ i=if 2*(i:Int)+2=a then (cp c).any yB else uT g.m_ i:=fun i hi=>by
  unfold uT;rw [f1,s2 _ (by rw [sy];exact V0 hi)];split<;>rfl
 rw [tz,f1,s4,f4, <-f1];rcases fu ha with ⟨j,hj,rfl⟩|⟨j,hj,rfl⟩
 ·rw [V0 U,cond_true,hkv,tz];refine ⟨fun ⟨i,h1,h2,h3⟩=>⟨i,h1,by rw [hold i h1,if_neg U];exact h2,h3⟩,fun ⟨i,h1,h2,h3⟩=>⟨i,h1,by rw [hold i h1,if_neg U] at h2;exact h2,h3⟩⟩
 rw [V1 U,cond_false,GO hnd,hkv,tz];constructor
 ·rintro (⟨h1,⟨i,q1,q2,rfl⟩|rfl⟩|⟨h1,⟨i,q1,q2,rfl⟩,hne⟩)
  ·refine ⟨i,q1,?_,J⟩;rw [hold i q1];split
   ·exact h1
   exact q2
  ·exact ⟨j,hj,by rw [hold j hj,if_pos rfl];exact h1,rfl⟩
  exact ⟨i,q1,by rw [hold i q1,if_neg hne];exact q2,rfl⟩
 rintro ⟨i,q1,q2,rfl⟩;rw [hold i q1] at q2;by_cases hij:2*(i:Int)+2=2*(j:Int)+2
 ·rw [if_pos hij] at q2;exact .inl ⟨q2,.inr hij⟩
 rw [if_neg hij] at q2
 cases hb:(cp c).any yB with
 |true=>exact .inl ⟨rfl,.inl ⟨i,q1,q2,rfl⟩⟩
 |false=>exact .inr ⟨rfl,⟨i,q1,q2,rfl⟩,hij⟩
theorem Po (c:VJ):(∀x,aw m x=true->aw ⟨m.Yd++ [c],m.Yc⟩ x=true/\aJ ⟨m.Yd++ [c],m.Yc⟩ x=aJ m x)/\aw ⟨m.Yd++ [c],m.Yc⟩ (2*(m.Yd.length:Int)+1)=true/\aJ ⟨m.Yd++ [c],m.Yc⟩ (2*(m.Yd.length:Int)+1)=c:=by
 refine ⟨fun x hx=> ?_,?_,?_⟩
 ·rcases fu hx with ⟨i,hi,rfl⟩|⟨i,hi,rfl⟩
  ·have h2:i<(m.Yd++ [c]).length:=by simp;omega
   exact ⟨by rw [AL];exact V0 h2,by rw [wi ⟨m.Yd++ [c],m.Yc⟩ i h2,wi m i hi];exact List.getElem_append_left hi⟩
  exact ⟨by rw [sy];exact V0 hi,by rw [rY ⟨m.Yd++ [c],m.Yc⟩ i hi,rY m i hi]⟩
 ·rw [AL];exact V0 (by simp)
 rw [wi ⟨m.Yd++ [c],m.Yc⟩ m.Yd.length (by simp)];simp
theorem OB (c:VJ):lr ⟨m.Yd++ [c],m.Yc⟩=lr m:=by
 unfold lr;show List.map _ ((List.range m.Yc.length).filter _)=_
 congr 1
 refine List.filter_congr fun i hi=> ?_
 unfold uT;rw [((Po c).1 (2*(i:Int)+2) (by rw [sy];exact V0 (Xe.1 hi))).2]
theorem Sj {N:Nat}(hs:∀c∈g.m_.Yd++g.m_.Yc,c.Yb.length<=600/\c.Ya.length<=2900){a:Int}(ha:in64 a)(hh:aw g.m_ a=true):ns N g a=some (aJ g.m_ a,true):=by
 unfold ns;rw [RD N g ha,bs,hh];have hc:=hs _ (mP hh);have hi64:in64 a:=ha;unfold ic;rcases fu hh with ⟨i,hi,rfl⟩|⟨i,hi,rfl⟩
 ·have e1:(2*(i:Int)+1).tmod 2=1:=by rw [tL U];omega
  have e2:(2*(i:Int)+1).tdiv 2=i:=by rw [Wo U];omega
  rw [wi g.m_ i hi] at hc⊢;unfold in64 at hi64;rw [nt,cf,e1,e2,V0 (p:=(1:Int)=1) rfl,ct,r64 U U,aI hi,bs,bs]
  dsimp only [zy]
  rw [aI hi,bs,qV N _ U,bs]
 have e1:(2*(i:Int)+2).tmod 2=0:=by rw [tL U];omega
 have e2:(2*(i:Int)+2).tdiv 2=(i:Int)+1:=by rw [Wo U];omega
 have e5:(i:Int)+1 - 1=i:=by omega
 rw [rY g.m_ i hi] at hc⊢;unfold in64 at hi64;rw [nt,cf,e1,e2,e5,V1 (p:=(0:Int)=1) U,cf,r64 U U,r64 U U,aI hi,bs,bs]
 dsimp only [zy]
 rw [aI hi,bs,qV N _ U,bs]
theorem De {N:Nat}{w:VS}(hs:∀c∈w.Yi.m_.Yd++w.Yi.m_.Yc,c.Yb.length<=600/\c.Ya.length<=2900)(hv:bd v=true)(ha:in64 v.N)(hh:aw w.Yi.m_ v.N=true):aF N w v=some (aJ w.Yi.m_ v.N):=by
 have e:iI N v=some (bd v):=by
  unfold iI bd;cases decide (v.XZ=7)<;>rfl
 unfold aF;rw [e,bs,hv,nt,cf,Sj hs ha hh,bs];rfl
theorem HE (N:Nat){j:Nat}(h:g.Ym[j]? =some v):bK N g (j:Int)=some v:=by
 obtain ⟨hj,e⟩:=WQ.1 h;rw [Mk];unfold GB;rw [V0 (p:=(0:Int)<=(j:Int)) U,V0 (p:=(j:Int)<(g.Ym.length:Int)) U,Ws,List.getD_eq_getElem?_getD,h];rfl
theorem JA (N:Nat)(g:VU):fB N g (g.Ym.length:Int)=some g:=by
 unfold fB aG;rw [bs,nf,ct,V1 (p:=max (g.Ym.length:Int) 0<(g.Ym.length:Int)) U,bs,cf]
def EE (w:VS)(g:VU):VS:=⟨w.Yu,w.Yn,(),g,w.Yk,w.Yv,w.Yo,w.YB,w.YC,w.Yw,w.Yx⟩
theorem GS (N:Nat){w:VS}(h:w.Yi.Ym.length<=600):cH N w=some (w.Yi.Ym.length:Int):=by
 unfold cH;rw [Jf N _ h,bs]
theorem Jy (N:Nat)(a:Int)(w:VS): ∃b,fI N a w=some b:=by
 unfold fI;by_cases h:0<a
 ·rw [dr h,ct,gp U,bs];exact ⟨_,J⟩
 rw [db U,cf,bs];exact ⟨_,J⟩
theorem cz {ρ σ:Type}{b:Bool}{x y:Option σ}{f:σ->Option ρ}{P:σ->Prop}{R:ρ->Prop}(h1:b=true->Sat x P)(h2:b=false->Sat y P)(k:∀z,P z->Sat (f z) R):Sat ((bif b then x else y).bind f) R:=Sat.bind (jI h1 h2) k
def Tf (k:VI):Prop:=k.XZ=0->0<=k.N/\k.N<=4294967294
def xq (a:Int):Prop:=0<=a/\a<=15/\aq .i64 a 9≠9
theorem NK (N:Nat)(a:Int):Sat (pj N a) fun b=>b=true->xq a:=by
 unfold pj
 refine Sat.bind (P:=fun b=>b=true->0<=a/\a<=15) (aK (fun h=>ad fun h1=>⟨h,XQ h1⟩) fun h=>ad fun h=>by cases h) fun b hb=> ?_
 refine cz (P:=fun c=>c=true->xq a) (fun e=>ad fun h=>⟨(hb e).1,(hb e).2,fun h1=> ?_⟩) (fun _=>ad fun h=>by cases h) fun c hc=>ad hc
 rw [V0 h1] at h;cases h
theorem Ej {b:ByteArray}(h0:0<=i)(h1:i<(b.size:Int)):Sat (H2 b i) fun x=>0<=x/\x<=255:=by
 have h2:i.toNat<b.size:=by omega
 unfold H2;rw [if_pos h0,getElem?_pos b i.toNat h2];exact ⟨((b[i.toNat]).toNat:Int),J,by omega,by have:=(b[i.toNat]).toNat_lt;omega⟩
theorem SS (x:Int):0<=IntKind.u8.wrap x/\IntKind.u8.wrap x<=255:=by
 have:IntKind.u8.wrap x=x%256:=by rfl
 omega
theorem Fz (N:Nat)(s:ByteArray)(hs:s.size<=10): ∀(m i:Nat) (p:Int),s.size<m+i->i<=s.size->0<=p->p+29<=29*(10:Int) ^ i->Sat (te N s m p (i:Int)) fun _=>True
 |0,i,p,h,h1,_,_=>by omega
 | m+1,i,p,h,h1,h2,h3=>by
  rw [te.eq_2]
  have h10:(10:Int) ^ i<=10 ^ 10:=by
   have:(10:Nat) ^ i<=10 ^ 10:=Nat.pow_le_pow_right U U
   exact_mod_cast this
  rw [show (10:Int) ^ 10=10000000000 from rfl] at h10
  refine aK (fun h7=> ?_) fun h7=> ?_
  ·refine (Ej U h7).bind fun x hx=> ?_
   refine cz (P:=fun _=>True) (fun _=>ad trivial) (fun _=>(Ej U h7).bind fun y _=>ad trivial) fun c _=> ?_
   refine jI (fun _=>ad trivial) fun _=> ?_
   refine dN (by constructor<;>omega) ((Ej U h7).bind fun y hy=> ?_);have h8:=SS (y - 48);rw [show IntKind.i64.wrap (IntKind.u8.wrap (y - 48))=IntKind.u8.wrap (y - 48) from IntWalk.i64_in _ ⟨by omega,by omega⟩];generalize IntKind.u8.wrap (y - 48)=d at h8;refine dN (by constructor<;>omega) (dN (by constructor<;>omega) ?_);exact Fz N s hs m (i+1) _ U U U (by rw [Int.pow_succ];omega)
  unfold wH
  exact aK (fun _=>ad trivial) fun _=>ad trivial
theorem OC (N:Nat)(hN:5000<=N)(s:ByteArray):Sat (uV N s) fun _=>True:=by
 unfold uV;by_cases h10:s.size<=10
 ·cases e:(s.toList==(⟨#[]⟩:ByteArray).toList) with
  |true=>exact ad trivial
  | false=>
   have hs:0<s.size:=by
    rcases Xv s.size with h|h
    ·exfalso
     have:s=⟨#[]⟩:=by
      obtain ⟨d⟩:=s;have:d= #[]:=Array.eq_empty_of_size_eq_zero h;rw [this]
     rw [this] at e;rw [beq_self_eq_true] at e;cases e
    exact h
   show Sat (Option.bind (some (decide (10<(s.size:Int)))) _) _;rw [bs,V1 U];show Sat (Option.bind ((H2 s 0).bind _) _) _
   refine Sat.bind (P:=fun _=>True) ((Ej U U).bind fun x _=>cz (P:=fun _=>True) (fun _=>ad trivial) (fun _=>ad trivial) fun _ _=>ad trivial) fun b _=> ?_
   exact jI (fun _=>ad trivial) fun _=>Fz N s h10 N 0 0 U U U (by decide)
 have:(bif s.toList==(⟨#[]⟩:ByteArray).toList then (some true) else (some (decide (10<(s.size:Int)))))=some true:=by
  cases s.toList==(⟨#[]⟩:ByteArray).toList with
  |true=>rfl
  |false=>show some _=_;rw [V0 U]
 rw [this];exact ad trivial
theorem GT (N:Nat)(hN:5000<=N)(k:VI):Sat (cU N k) fun b=>b=true->Tf k:=by
 unfold cU
 refine aK (fun h=> ?_) fun h=> ?_
 ·refine cz (P:=fun b=>b=true->0<=k.N) (fun _=>ad fun h=>XQ h) (fun _=>ad fun h=>by cases h) fun b hb=> ?_
  refine cz (P:=fun c=>c=true->Tf k) (fun e=>ad fun h _=>⟨hb e,XQ h⟩) (fun _=>ad fun h=>by cases h) fun c hc=>ad hc
 refine Sat.mono (R:=fun _=>True) ?_ fun _ _ _ h'=>absurd h' h
 refine aK (fun _=> ?_) fun _=> ?_
 ·refine (OC N hN k.S).bind fun y _=> ?_
  refine cz (P:=fun _=>True) (fun _=>ad trivial) (fun _=>ad trivial) fun b _=> ?_
  exact cz (P:=fun _=>True) (fun _=>ad trivial) (fun _=>ad trivial) fun b _=>ad trivial
 refine aK (fun _=> ?_) fun _=>ad trivial
 exact cz (P:=fun _=>True) (fun _=>ad trivial) (fun _=>ad trivial) fun b _=>ad trivial
theorem Qf (N:Nat){a:Int}(h:xq a):pj N a=some true:=by
 unfold pj;rw [V0 h.1,ct,bs,V0 h.2.1,ct,V1 h.2.2];rfl
def C2 (k:VI):Prop:=cU N k=some true
def R6 (x:VI×Int):Prop:=C2 N x.1/\xq x.2
def ka (s:VW):VI×Int:=(s.Yl,s.Yh)
def Has (t:VH)(i:Int)(s:VW):Prop:=0<=i/\t.Yk[i.toNat]? =some s
theorem Has.lt (h:Has t i s):0<=i/\i<t.Yk.length:=by
 have:=(WQ.1 h.2).1;exact ⟨h.1,by have:=h.1;omega⟩
theorem Has.get (h:Has t i s):ap t.Yk i=some s:=by
 unfold ap;rw [if_neg (by have:=h.1;omega)];exact h.2
theorem Has.one {s':VW}(h:Has t i s)(h':Has t i s'):s=s':=XH (h.2.symm.trans h'.2)
structure TU (t:VH):Prop where
 nx: ∀i s,Has t i s->0<s.YA->lk t.Yy (⟨s.Up,s.Yl,s.Yh⟩:VL)=some i
 root: ∀i s,Has t i s->s.YA=0->i=0
structure Le (t t':VH):Prop where
 sub: ∀i s,Has t i s->Has t' i s
 tu:TU t->TU t'
theorem Le.refl (t:VH):Le t t:=⟨fun _ _ h=>h,fun h=>h⟩
structure TI (N:Nat) (t:VH):Prop where
 sh: ∀i s,Has t i s->0<=s.YA/\s.YA<=1024/\(0<s.YA->R6 N (ka s)/\ ∃u,Has t s.Up u/\u.YA=s.YA - 1)
 nx: ∀k j,lk t.Yy k=some j-> ∃a b,Has t k.YQ a/\Has t j b/\b.YA=a.YA+1/\b.Up=k.YQ/\b.Yl=k.YP/\b.Yh=k.YR
inductive Row (t:VH):Int->List (VI×Int)->Prop
 |nil {i:Int} {s:VW}:Has t i s->s.YA=0->Row t i []
 |snoc {i:Int} {s:VW} {l:List (VI×Int)}:Has t i s->0<s.YA->Row t s.Up l->Row t i (l++ [ka s])
theorem Row.mono {t':VH}(h:Le t t')(r:Row t i l):Row t' i l:=by
 induction r with
 |nil h1 h2=>exact .nil (h.sub _ _ h1) h2
 |snoc h1 h2 _ ih=>exact .snoc (h.sub _ _ h1) h2 ih
theorem Row.has {N:Nat}(ti:TI N t)(r:Row t i l): ∃s,Has t i s/\s.YA=l.length:=by
 induction r with
 |nil h1 h2=>exact ⟨_,h1,h2⟩
 |snoc h1 h2 _ ih=>
  obtain ⟨u,u1,u2⟩:=ih;obtain ⟨-, -,a3⟩:=ti.sh _ _ h1;obtain ⟨-,u',b1,b2⟩:=a3 h2;have:=u1.one b1;subst this;exact ⟨_,h1,by rw [XS,W4];omega⟩
theorem Row.le {N:Nat}(ti:TI N t)(r:Row t i l):l.length<=1024:=by
 obtain ⟨s,s1,s2⟩:=r.has ti;have:=(ti.sh _ _ s1).2.1;omega
theorem Row.ok {N:Nat}(ti:TI N t)(r:Row t i l): ∀x∈l,R6 N x:=by
 induction r with
 |nil h1 h2=>simp
 |snoc h1 h2 _ ih=>
  intro x hx;rcases W8.1 hx with hx|hx
  ·exact ih x hx
  rw [Xf] at hx;subst hx;exact ((ti.sh _ _ h1).2.2 h2).1
theorem Sk (N:Nat)(t:VH)(i:Int):eS N t i=some (decide (0<=i)&&decide (i<(t.Yk.length:Int))):=by
 unfold eS;cases decide (0<=i)<;>rfl
theorem Has.has (N:Nat)(h:Has t i s):eS N t i=some true:=by
 rw [Sk,V0 h.lt.1,V0 h.lt.2];rfl
theorem TB (N:Nat)(h:Has t i s):nF N t i=some (s,true):=by
 unfold nF;rw [h.has N,bs,nt,cf,h.get,bs]
theorem KB (N:Nat)(h:Has t i s):eU N t i=some s.YA:=by
 unfold eU;rw [TB N h,bs]
theorem IN (N:Nat)(ti:TI N t)(lf:List (VI×Int))(hL:lf.length<=1024): ∀(m:Nat) (a8:Int) (a6:List VW) (l0 rest:List (VI×Int)),l0.length<m->lf=l0++rest->a6.length=lf.length->Row t a8 l0->
  (a6.drop l0.length).map ka=rest->Sat (kz N t m a8 a6 ((l0.length:Int) - 1)) fun l=>l.map ka=lf
 |0,_,_,l0,_,h,_,_,_,_=>by omega
 | m+1,a8,a6,l0,rest,h,h1,h2,h3,h4=>by
  rw [kz.eq_2]
  cases h3 with
  |nil h5 h6=>
   rw [V1 (by rw [W2];omega),cf];exact ad (by rw [h1, <-h4];rfl)
  | @snoc _ s l h5 h6 h7=>
   have e1:((((l++ [ka s]).length:Nat):Int) - 1)=(l.length:Int):=by rw [XS,W4];omega
   have e2:lf.length=l.length+1+rest.length:=by rw [h1,XS,XS,W4]
   rw [e1,V0 U,ct,h5.get,bs]
   refine t6 U U fun b0 _=> ?_
   refine t6 U (by rw [W3];omega) fun b5 h8=> ?_
   rw [Ws,WT U] at h8;cases h8;refine dN (by constructor<;>omega) ?_;refine IN N ti lf hL m _ _ l (ka s::rest) (by rw [XS,W4] at h;omega) (by rw [h1,V3];rfl) (by rw [W3];exact h2) h7 ?_;rw [Ws,List.drop_set,if_neg U,Nat.sub_self,Wz (show l.length<a6.length by omega)];rw [XS,W4] at h4;rw [List.set_cons_zero,W6,h4]
theorem NN (N:Nat)(hN:5000<=N)(ti:TI N t)(h:Row t i l):Sat (eR N t i) fun r=>r.map ka=l:=by
 obtain ⟨s,s1,s2⟩:=h.has ti;have:=h.le ti;unfold eR;rw [KB N s1,bs,s2];refine dN (by constructor<;>omega) (dN (by rw [List.length_replicate];constructor<;>omega) ?_);rw [List.length_replicate,Ws];refine IN N ti l this N i _ l [] U (by simp) (by simp) h (by simp)
def RN (l:List (VI×Int))(k:VI)(r:Int×Int×Bool):Prop:=(r=(0,0,false)/\ ∀x∈l,x.1≠k)\/ ∃n:Nat,r.1=n/\r.2.2=true/\l[n]? =some (k,r.2.1)
theorem GW (N:Nat)(ti:TI N t)(k:VI): ∀(m:Nat) (i:Int) (s:VW) (l:List (VI×Int)),l.length<m->Has t i s->Row t i l->Sat (jH N t k m s.Up s.Yl.XZ s.Yl.N s.Yl.S s.Yh s.YA) (RN l k)
 |0,i,s,l,h,h1,h2=>by omega
 | m+1,i,s,l,h,h1,h2=>by
  rw [jH.eq_2];have hle:=h2.le ti
  cases h2 with
  |nil h5 h6=>
   have:=h1.one h5;subst this;rw [V1 U,cf];exact ad (.inl ⟨J,by simp⟩)
  | @snoc _ s' l h5 h6 h7=>
   have:=h1.one h5;subst this;rw [XS,W4] at h hle;obtain ⟨u,u1,u2⟩:=h7.has ti;obtain ⟨a1,a2,a3⟩:=ti.sh _ _ h1;obtain ⟨b1,u',b2,b3⟩:=a3 h6;have:=u1.one b2;subst this;rw [V0 h6,ct]
   refine aK (fun e=>dN (by constructor<;>omega) (ad (.inr ⟨l.length,by show s.YA - 1=_;omega,rfl,?_⟩))) fun e=> ?_
   ·rw [WK (Xx _),Nat.sub_self];show some (ka s)=_;rw [show k=s.Yl from e.symm];rfl
   rw [u1.get,bs]
   refine (GW N ti k m _ u l U u1 h7).mono fun r hr=> ?_
   rcases hr with ⟨r1,r2⟩|⟨n,r1,r2,r3⟩
   ·refine .inl ⟨r1,fun x hx=> ?_⟩;rcases W8.1 hx with hx|hx
    ·exact r2 x hx
    rw [Xf] at hx;subst hx;exact e
   exact .inr ⟨n,r1,r2,by rw [WJ (WQ.1 r3).1];exact r3⟩
theorem Ek (N:Nat)(hN:5000<=N)(ti:TI N t)(h:Row t i l)(k:VI):Sat (dm N t i k) (RN l k):=by
 obtain ⟨s,s1,s2⟩:=h.has ti;have:=h.le ti;unfold dm;rw [s1.has N,bs,nt,cf,s1.get,bs];exact GW N ti k N i s l U s1 h
theorem DL (N:Nat)(ti:TI N t)(n:Nat): ∀(m:Nat) (i:Int) (l:List (VI×Int)),l.length<m->Row t i l->n<=l.length->Sat (jg N (n:Int) t m i) fun r=>Row t r (l.take n)
 |0,i,l,h,h1,h2=>by omega
 | m+1,i,l,h,h1,h2=>by
  obtain ⟨s,s1,s2⟩:=h1.has ti;rw [jg.eq_2,s1.get,bs]
  refine aK (fun h7=> ?_) fun h7=>ad (by rw [Xn U];exact h1)
  rw [bs]
  cases h1 with
  |nil h5 h6=>rw [W2] at s2;omega
  | @snoc _ s' l h5 h6 h8=>
   have:=s1.one h5;subst this;rw [XS,W4] at h s2 h2;rw [List.take_append_of_le_length U];exact DL N ti n m _ l U h8 U
theorem Hg (N:Nat)(hN:5000<=N)(ti:TI N t)(h:Row t i l)(n:Nat)(h2:n<=l.length):Sat (gm N t i (n:Int)) fun r=>Row t r (l.take n):=by
 have:=h.le ti;unfold gm;exact DL N ti n N i l U h h2
structure Grow (N:Nat) (t t':VH) (n:Nat):Prop where
 ti:TI N t'
 le:Le t t'
 num:t'.Yk.length<=t.Yk.length+n
def JU (t:VH)(l:List (VI×Int))(n:Nat)(r:Int×Int×VH):Prop:=r.2.1=0/\Grow N t r.2.2 n/\Row r.2.2 r.1 l
theorem Has.app {x:VW}{n:List (VL×Int)}(h:Has t i s):Has ⟨t.Yk++ [x],n⟩ i s:=
 ⟨h.1,by rw [WJ (WQ.1 h.2).1];exact h.2⟩
theorem Row.app {x:VW}{n:List (VL×Int)}(r:Row t i l):Row ⟨t.Yk++ [x],n⟩ i l:=by
 induction r with
 |nil h1 h2=>exact .nil h1.app h2
 |snoc h1 h2 _ ih=>exact .snoc h1.app h2 ih
theorem Lp (N:Nat)(t:VH)(l:List VW)(hl:∀x∈l,R6 N (ka x))(lf:List (VI×Int))(hT:lf.length<=1024)(hb:t.Yk.length+l.length<=1073741824): ∀(m i:Nat) (a6:Int) (t':VH) (l0:List (VI×Int)),l.length<m+i->i<=l.length->TI N t'->Le t t'->t'.Yk.length=t.Yk.length+i->Row t' a6 l0->lf=l0++(l.drop i).map ka->(TU t-> ∀x,l[i]? =some x->lk t'.Yy (⟨a6,x.Yl,x.Yh⟩:VL)=none)->Sat (kA N l m a6 (i:Int) t'.Yk t'.Yy) (JU N t lf l.length)
 |0,i,_,_,_,h,h1,_,_,_,_,_,_=>by omega
 | m +1,i,a6,t',l0,h,h1,ti,le,h2,h3,h4,hno=>by
  rw [kA.eq_2]
  refine aK (fun h7=> ?_) fun h7=>ad ⟨J,⟨ti,le,by show t'.Yk.length<=_;omega⟩,by rw [h4,List.drop_of_length_le U,List.map_nil,Wv];exact h3⟩
  obtain ⟨a,h3a,h3b⟩:=h3.has ti;rw [aI (show i<l.length by omega),bs];rw [h3a.get,bs];obtain ⟨a1,a2,a3⟩:=ti.sh _ _ h3a;have hox:=hl l[i] (XY _);have e4:l.drop i=l[i]::l.drop (i+1):=Wz _
  have e5:l0.length+1<=lf.length:=by rw [h4,e4,XS,W6,WY];omega
  have hno:=fun hu=>hno hu l[i] (WO _)
  generalize l[i]=x at*
  have e1:(t'.Yk++ [(⟨a6,x.Yl,x.Yh,a.YA+1⟩:VW)]).length=t'.Yk.length+1:=by rw [XS,W4]
  have e2:((((t'.Yk++ [(⟨a6,x.Yl,x.Yh,a.YA+1⟩:VW)]).length:Nat):Int) - 1)=(t'.Yk.length:Int):=by omega
  refine dN (by constructor<;>omega) (dN (by unfold ci;rw [W4];omega) (dN (by rw [e2];constructor<;>omega) (dN (by constructor<;>omega) ?_)));rw [e2]
  have hnew:Has ⟨t'.Yk++ [(⟨a6,x.Yl,x.Yh,a.YA+1⟩:VW)],wT t'.Yy ⟨a6,x.Yl,x.Yh⟩ (t'.Yk.length:Int)⟩ (t'.Yk.length:Int) ⟨a6,x.Yl,x.Yh,a.YA+1⟩:=
   ⟨by omega,by simp⟩
  have hsplit: ∀j s,Has ⟨t'.Yk++ [(⟨a6,x.Yl,x.Yh,a.YA+1⟩:VW)],wT t'.Yy ⟨a6,x.Yl,x.Yh⟩ (t'.Yk.length:Int)⟩ j s->Has t' j s\/(j=(t'.Yk.length:Int)/\s=⟨a6,x.Yl,x.Yh,a.YA+1⟩):=fun j s hs=>by
   by_cases e:j.toNat<t'.Yk.length
   ·exact .inl ⟨hs.1,by have:=hs.2;rwa [WJ e] at this⟩
   have hlt:=hs.lt
   have e3:j=(t'.Yk.length:Int):=by
    have:(j.toNat:Int)<(t'.Yk++ [(⟨a6,x.Yl,x.Yh,a.YA+1⟩:VW)]).length:=by have:=hlt.2;simp only at this;omega
    have:=hlt.1;omega
   subst e3;exact .inr ⟨J,hs.one hnew⟩
  have hTU:TU t->TU ⟨t'.Yk++ [(⟨a6,x.Yl,x.Yh,a.YA+1⟩:VW)],wT t'.Yy ⟨a6,x.Yl,x.Yh⟩ (t'.Yk.length:Int)⟩:=fun hu=>by
   have hu':=le.tu hu;have hn:=hno hu;refine ⟨fun j s hs hp=> ?_,fun j s hs hz=> ?_⟩
   ·show lk (wT t'.Yy ⟨a6,x.Yl,x.Yh⟩ (t'.Yk.length:Int)) ⟨s.Up,s.Yl,s.Yh⟩=some j;rw [DA];rcases hsplit j s hs with hs'|⟨rfl,rfl⟩
    ·have h9:=hu'.nx j s hs' hp;rw [if_neg fun e=> ?_]
     ·exact h9
     first|rw [e,h9] at hn|rw [<-e,h9] at hn
     cases hn
    rw [if_pos rfl]
   rcases hsplit j s hs with hs'|⟨rfl,rfl⟩
   ·exact hu'.root j s hs' hz
   exfalso;have:a.YA+1=0:=hz;omega
  refine Lp N t l hl lf hT hb m (i+1) _ ⟨_,wT t'.Yy ⟨a6,x.Yl,x.Yh⟩ (t'.Yk.length:Int)⟩ (l0++ [ka x]) U U ⟨?_,?_⟩ ⟨fun j s hs=>(le.sub j s hs).app,hTU⟩ (by show (t'.Yk++_).length=_;omega) (Row.snoc (s:=⟨a6,x.Yl,x.Yh,a.YA+1⟩) hnew (by show 0<a.YA+1;omega) (h3.app)) (by rw [h4,e4,W6,V3];rfl) (fun hu y hy=>by
   show lk (wT t'.Yy ⟨a6,x.Yl,x.Yh⟩ (t'.Yk.length:Int)) ⟨(t'.Yk.length:Int),y.Yl,y.Yh⟩=none;rw [DA,if_neg fun e=> ?_]
   ·cases e:lk t'.Yy (⟨(t'.Yk.length:Int),y.Yl,y.Yh⟩:VL) with
    |none=>rfl
    |some j=>
     obtain ⟨c,d,c1, -⟩:=ti.nx _ j e;have h8:Has t' (t'.Yk.length:Int) c:=c1;have:=h8.lt.2;omega
   ·have e8:a6=(t'.Yk.length:Int):=by first|exact congrArg VL.YQ e|exact (congrArg VL.YQ e).symm
    have:=h3a.lt.2
    omega)
  ·intro j s hs;rcases hsplit j s hs with hs'|⟨rfl,rfl⟩
   ·obtain ⟨b1,b2,b3⟩:=ti.sh _ _ hs';exact ⟨b1,b2,fun h=>let ⟨c1,u,c2,c3⟩:=b3 h;⟨c1,u,c2.app,c3⟩⟩
   exact ⟨by show 0<=a.YA+1;omega,by show a.YA+1<=1024;omega,fun _=>⟨hox,a,h3a.app,by show a.YA=a.YA+1 - 1;omega⟩⟩
  intro k j hk;change lk (wT t'.Yy ⟨a6,x.Yl,x.Yh⟩ (t'.Yk.length:Int)) k=some j at hk;rw [DA] at hk;split at hk
  ·rename_i e
   cases hk;subst e;exact ⟨a,_,h3a.app,hnew,J,J,J,J⟩
  obtain ⟨c,d,c1,c2,c3⟩:=ti.nx k j hk;exact ⟨c,d,c1.app,c2.app,c3⟩
theorem Sh (N:Nat)(hN:5000<=N)(ti:TI N t)(at_:Int)(l:List VW)(hl:∀x∈l,R6 N (ka x))(l0:List (VI×Int))(hT:l0.length+l.length<=1024)(hb:t.Yk.length+l.length<=1073741824)(h:Row t at_ l0)(hno:TU t-> ∀x,l[0]? =some x->lk t.Yy (⟨at_,x.Yl,x.Yh⟩:VL)=none):Sat (fS N t at_ l) (JU N t (l0++l.map ka) l.length):=by
 unfold fS;refine dN (by constructor<;>omega) (aK (fun h7=>by omega) fun h7=> ?_);exact Lp N t l hl _ (by rw [XS,XU];exact hT) hb N 0 at_ t l0 U U ti (Le.refl t) J h J hno
theorem I9 (N:Nat)(hN:5000<=N)(ti:TI N t)(n:Nat): ∀(m:Nat) (at_:Int) (l:List VW) (l0:List (VI×Int)),l.length<m->l.length<=n->l0.length+l.length<=1024->t.Yk.length+n<=1073741824->(∀x∈l,R6 N (ka x))->Row t at_ l0->Sat (lA N t m at_ l) (JU N t (l0++l.map ka) n)
 |0,_,_,_,h,_,_,_,_,_=>by omega
 | m +1,at_,l,l0,h,hn,h0,hb,hl,ha=>by
  rw [lA.eq_2]
  have h5:(TU t-> ∀x,l[0]? =some x->lk t.Yy (⟨at_,x.Yl,x.Yh⟩:VL)=none)->Sat (fS N t at_ l) (JU N t (l0++l.map ka) n):=fun hno=>(Sh N hN ti at_ l hl l0 h0 U ha hno).mono fun r hr=>⟨hr.1,⟨hr.2.1.ti,hr.2.1.le,by have:=hr.2.1.num;omega⟩,hr.2.2⟩
  refine aK (fun h7=> ?_) fun h7=>h5 fun _ x hx=>by
   have:=(WQ.1 hx).1;omega
  cases l with
  |nil=>rw [W2] at h7;omega
  | cons x l=>
   rw [show ap (x::l) 0=some x from rfl,bs,bs]
   cases e:lk t.Yy (⟨at_,x.Yl,x.Yh⟩:VL) with
   |none=>
    refine h5 fun _ y hy=> ?_
    obtain rfl:x=y:=XH hy;exact e
   | some j=>
    show Sat (aE _ _) _;refine dN ⟨by decide,by show 1<=l.length+1;omega,Xx _⟩ ?_;obtain ⟨c,d,c1,c2,c3,c4,c5,c6⟩:=ti.nx _ _ e
    have e5:(((x::l).drop ((1:Int).toNat)).take ((x::l).length - (1:Int).toNat))=l:=by
     show (l.take (l.length+1 - 1))=l;exact Xn U
    rw [e5]
    have hd:0<d.YA:=by have:=(ti.sh _ _ c1).1;omega
    have hr:Row t j (l0++ [ka x]):=by
     have:=Row.snoc c2 hd (by rw [c4];exact ha)
     rwa [show ka d=ka x by unfold ka;rw [c5,c6]] at this
    rw [WY] at h hn h0;have:=I9 N hN ti n m j l (l0++ [ka x]) U U (by rw [XS,W4];omega) hb (fun z hz=>hl z (Xa _ hz)) hr
    rwa [V3] at this
theorem KC (N:Nat)(hN:5000<=N)(ti:TI N t)(at_:Int)(l:List VW)(hl:∀x∈l,R6 N (ka x))(l0:List (VI×Int))(hT:l0.length+l.length<=1024)(hb:t.Yk.length+1024<=1073741824)(ha:Row t at_ l0):Sat (jG N t at_ l) (JU N t (l0++l.map ka) 1024):=
 I9 N hN ti 1024 N at_ l l0 U U hT hb hl ha
theorem F0 (N:Nat)(hN:5000<=N)(h:Has t i s)(k:VI)(a:Int):Sat (fh N t i k a) fun r=>(r=0/\C2 N k/\xq a)\/(r≠0/\ ¬(C2 N k/\xq a)):=by
 unfold fh;rw [h.has N,bs,nt,cf];obtain ⟨b,h1, -⟩:=GT N hN k;obtain ⟨c,h2,h3⟩:=NK N a;rw [h1,bs,h2]
 cases b with
 |false=>exact ad (.inr ⟨by decide,fun h=>by have:=h.1;unfold C2 at this;rw [h1] at this;cases this⟩)
 |true=>
  cases c with
  |false=>exact ad (.inr ⟨by decide,fun h=>by have:=Qf N h.2;rw [h2] at this;cases this⟩)
  |true=>exact ad (.inl ⟨rfl,h1,h3 rfl⟩)
theorem Qa (N:Nat)(hN:5000<=N)(ti:TI N t)(hb:t.Yk.length+1024<=1073741824)(h:Row t i l)(k:VI)(a:Int)(hk:∀x∈l,x.1≠k)(hl:l.length<1024):Sat (i4 N t i k a) fun r=>(C2 N k/\xq a/\JU N t (l++ [(k,a)]) 1024 r)\/(¬(C2 N k/\xq a)/\r.2.1≠0/\r.2.2=t):=by
 obtain ⟨s,s1,s2⟩:=h.has ti;unfold i4
 refine (F0 N hN s1 k a).bind fun y hy=> ?_
 rcases hy with ⟨rfl,h1,h2⟩|⟨h1,h2⟩
 ·show Sat (Option.bind _ _) _
  refine (Ek N hN ti h k).bind fun z hz=> ?_
  rcases hz with ⟨rfl, -⟩|⟨n,z1,z2,z3⟩
  ·show Sat (Option.bind _ _) _;rw [KB N s1,bs]
   refine aK (fun _=>by omega) fun _=> ?_
   refine (KC N hN ti i [(⟨0,k,a,0⟩:VW)] (fun x hx=>by rw [Xf] at hx;subst hx;exact ⟨h1,h2⟩) l (by rw [W4];omega) hb h).bind fun r hr=>ad (.inl ⟨h1,h2,hr⟩)
  exact absurd J (hk _ (Xd z3))
 rw [V1 h1,nf,ct];exact ad (.inr ⟨h2,h1,J⟩)
theorem Nr (N:Nat)(hN:5000<=N)(ti:TI N t)(hb:t.Yk.length+1024<=1073741824)(h:Row t i l)(hd:(l.map (·.1)).Nodup)(k:VI)(a:Int)(n:Nat)(a0:Int)(hn:l[n]? =some (k,a0)):Sat (gn N t i k a) fun r=>(xq a/\JU N t (l.set n (k,a)) 1024 r)\/(¬xq a/\r.2.1≠0/\r.2.2=t):=by
 obtain ⟨s,s1,s2⟩:=h.has ti;have hle:=h.le ti;have hlt:=(WQ.1 hn).1;unfold gn
 refine (F0 N hN s1 k a).bind fun y hy=> ?_
 rcases hy with ⟨rfl,h1,h2⟩|⟨h1,h2⟩
 ·show Sat (Option.bind _ _) _
  refine (Ek N hN ti h k).bind fun z hz=> ?_
  rcases hz with ⟨rfl,z1⟩|⟨n',z1,z2,z3⟩
  ·exact absurd J (z1 _ (Xd hn))
  have:n'=n:=by
   have g1:(l.map (·.1))[n']? =some k:=by rw [WR,z3];rfl
   have g2:(l.map (·.1))[n]? =some k:=by rw [WR,hn];rfl
   exact (List.getElem?_inj (by rw [XU];exact (WQ.1 z3).1) hd).1 (g1.trans g2.symm)
  subst this;rw [z2];show Sat (Option.bind _ _) _
  refine (NN N hN ti h).bind fun r hr=> ?_
  have e:r.length=l.length:=by rw [<-hr,XU]
  rw [z1,Ws];refine dN ⟨by omega,by omega⟩ ?_
  refine t6 U (by rw [WZ];omega) fun x hx=> ?_
  refine (Hg N hN ti h n' U).bind fun b hbf=> ?_
  have a6:ka x=(k,z.2.1):=by
   rw [show (0:Int).toNat=0 from rfl,WN,Nat.add_zero] at hx
   have:(r.map ka)[n']? =some (ka x):=by rw [WR,hx];rfl
   rw [hr,z3] at this;exact (XH this).symm
  have hxk:x.Yl=k:=congrArg Prod.fst a6
  have hm: ∀q∈List.set (List.drop n' r) ((0:Int).toNat) (⟨x.Up,(⟨x.Yl.XZ,x.Yl.N,x.Yl.S⟩:VI),a,x.YA⟩:VW),R6 N (ka q):=fun q hq=>by
   rcases List.mem_or_eq_of_mem_set hq with hq|rfl
   ·exact h.ok ti _ (by rw [<-hr];exact List.mem_map_of_mem (List.mem_of_mem_drop hq))
   exact ⟨by show C2 N x.Yl;rw [hxk];exact h1,h2⟩
  have e6:(List.set (List.drop n' r) ((0:Int).toNat) (⟨x.Up,(⟨x.Yl.XZ,x.Yl.N,x.Yl.S⟩:VI),a,x.YA⟩:VW)).map ka=(l.drop n').set 0 (k,a):=by
   rw [show (0:Int).toNat=0 from rfl,List.map_set,List.map_drop,hr];show (l.drop n').set 0 (x.Yl,a)=_;rw [hxk]
  refine (KC N hN ti b _ hm (l.take n') (by rw [W3,WZ,XT];omega) hb hbf).bind fun q hq=>ad (.inl ⟨h2,?_⟩)
  rw [e6] at hq
  have e7:l.take n'++(l.drop n').set 0 (k,a)=l.set n' (k,a):=by
   rw [Wz hlt,List.set_cons_zero,List.set_eq_take_append_cons_drop,if_pos hlt]
  rw [e7] at hq;exact hq
 rw [V1 h1,nf,ct];exact ad (.inr ⟨fun h3=>h2 ⟨(h.ok ti _ (Xd hn)).1,h3⟩,h1,J⟩)
theorem JY (N:Nat)(hN:5000<=N)(ti:TI N t)(hb:t.Yk.length+1024<=1073741824)(h:Row t i l)(hd:(l.map (·.1)).Nodup)(k:VI)(n:Nat)(a0:Int)(hn:l[n]? =some (k,a0)):Sat (dW N t i k) (JU N t (l.eraseIdx n) 1024):=by
 obtain ⟨s,s1,s2⟩:=h.has ti;have hle:=h.le ti;have hlt:=(WQ.1 hn).1;unfold dW
 refine (F0 N hN s1 k 0).bind fun y hy=> ?_
 rcases hy with ⟨rfl,h1,h2⟩|⟨h1,h2⟩
 ·show Sat (Option.bind _ _) _
  refine (Ek N hN ti h k).bind fun z hz=> ?_
  rcases hz with ⟨rfl,z1⟩|⟨n',z1,z2,z3⟩
  ·exact absurd J (z1 _ (Xd hn))
  have:n'=n:=by
   have g1:(l.map (·.1))[n']? =some k:=by rw [WR,z3];rfl
   have g2:(l.map (·.1))[n]? =some k:=by rw [WR,hn];rfl
   exact (List.getElem?_inj (by rw [XU];exact (WQ.1 z3).1) hd).1 (g1.trans g2.symm)
  subst this;rw [z2,z1];show Sat (Option.bind _ _) _
  refine (Hg N hN ti h n' U).bind fun b hbf=> ?_
  refine (NN N hN ti h).bind fun r hr=> ?_
  have e:r.length=l.length:=by rw [<-hr,XU]
  have e8:((n':Int)+1).toNat=n'+1:=by omega
  refine dN (by constructor<;>omega) (dN ⟨by omega,by omega,Xx _⟩ ?_);rw [e8];have e6:((r.drop (n'+1)).take (r.length - (n'+1)))=r.drop (n'+1):=Xn (by rw [WZ];omega);rw [e6]
  refine (KC N hN ti b _ (fun q hq=>h.ok ti _ (by rw [<-hr];exact List.mem_map_of_mem (List.mem_of_mem_drop hq))) (l.take n') (by rw [WZ,XT];omega) hb hbf).bind fun q hq=>ad ?_
  rw [List.map_drop,hr, <-List.eraseIdx_eq_take_drop_succ] at hq;exact hq
 exact absurd ⟨(h.ok ti _ (Xd hn)).1,by decide,by decide,by decide⟩ h2
section
variable (N:Nat)(hN:20000<=N)(n:Nat)(hn:n<=6000)
include hN hn
section
variable (a q b:Int)(h0:0<=a)(h1:a<q)(h2:q<b)(h3:b<=n)
include h0 h1 h2 h3
end
end
end
section
open Go.RowKit
def K4 (c:VJ):Nat:=1+c.Yb.length
def ws (l:List VJ):Nat:=bw K4 l
theorem Gu (l:List VJ):wt l=ws l+mS l:=by
 rw [xt];unfold ws mS;rw [<-Be];rfl
theorem xA (g:α->Nat): ∀{l:List α} {x:α},x∈l->g x<=bw g l
 |a::l,x,h=>by
  rw [bw];rcases W9.1 h with rfl|h
  ·omega
  have:=xA g h;omega
theorem JX: ∀l:List VJ,l.length<=ws l
 | []=>XD _
 |c::l=>by
  have:=JX l;show l.length+1<=K4 c+ws l;unfold K4;omega
theorem CC (g:α->Nat)(x:α): ∀(l:List α) (i:Nat) (h:i<l.length),bw g (l.set i x)+g l[i]=bw g l+g x
 |a::l,0,_=>by simp only [List.set_cons_zero,bw,List.getElem_cons_zero];omega
 |a::l,i+1,h=>by
  have:=CC g x l i (by simpa using h);simp only [List.set_cons_succ,bw,List.getElem_cons_succ];omega
theorem IL (g:VJ->Nat){a:Int}(ha:aw m a=true)(c:VJ):bw g (xF m a c).Yd+bw g (xF m a c).Yc+g (aJ m a)=bw g m.Yd+bw g m.Yc+g c:=by
 unfold xF;rcases fu ha with ⟨i,hi,rfl⟩|⟨i,hi,rfl⟩
 ·rw [V0 U,cond_true,show (2*(i:Int)+1) / 2=i by omega,wi m i hi];have:=CC g c m.Yd i hi;show bw g (m.Yd.set i c)+bw g m.Yc+_=_;omega
 rw [V1 U,cond_false,show (2*(i:Int)+2) / 2 - 1=i by omega,rY m i hi];have:=CC g c m.Yc i hi;show bw g m.Yd+bw g (m.Yc.set i c)+_=_;omega
structure Hb (k M:Nat) (g:VU):Prop where
 hw:ws g.m_.Yd+ws g.m_.Yc<=k
 hm:mS g.m_.Yd+mS g.m_.Yc<=M
 hr:g.Ym.length<=30
theorem Hb.up (h:Hb k M g)(hk:k<=k')(hM:M<=M'):Hb k' M' g:=⟨Xy h.hw hk,Xy h.hm hM,h.hr⟩
theorem Hb.cell (h:Hb k M g)(hc:c∈g.m_.Yd++g.m_.Yc):1+c.Yb.length<=k/\c.Ya.length<=M:=by
 have h1:=h.hw;have h2:=h.hm;unfold ws at h1;unfold mS at h2;rcases W8.1 hc with hc|hc
 ·have a:=xA K4 hc;have b:=xA (fun c:VJ=>c.Ya.length) hc;unfold K4 at a h1;exact ⟨by omega,by omega⟩
 have a:=xA K4 hc;have b:=xA (fun c:VJ=>c.Ya.length) hc;unfold K4 at a h1;exact ⟨by omega,by omega⟩
theorem Si (hk:k<=580)(hM:M<=2200)(s:Hb k M g)(hp:g.Yt=[])(w64:W64 g.m_)(r64:∀v∈g.Ym,in64 v.N)(n1:(g.Ys.at_.map Prod.fst).Nodup)(n2:∀x∈g.Ys.at_.map Prod.fst, ∃i:Nat,i<g.m_.Yc.length/\x=2*(i:Int)+2):HB g:=by
 have h1:=s.hw;have h2:=s.hm;have h3:=s.hr;have h4:=JX g.m_.Yd;have h5:=JX g.m_.Yc;have h6:=Gu g.m_.Yd;have h7:=Gu g.m_.Yc
 have hl:(g.Ym++g.Yt).length=g.Ym.length:=by rw [hp,Wv]
 exact ⟨⟨by omega,by omega,by omega,fun c hc=>by have:=s.cell hc;omega⟩,⟨by omega,by omega⟩,by rw [HT];omega,by omega,w64,by rw [hp,Wv];exact r64,n1,n2⟩
def Px (m:VR)(c:VJ):Prop:= ∀v∈c.Yb++c.Ya,in64 v.N/\(bd v=true->aw m v.N=true)
theorem Pl.refs (h:Pl g)(hc:c∈g.m_.Yd++g.m_.Yc):Px g.m_ c:=fun v hv=>⟨h.hb.w64 c hc v hv,fun hb=>(h.cells c hc).2.1 _ (Cs hv hb)⟩
theorem Lh (s:Hb k M g){a:Int}(ha:aw g.m_ a=true)(h1:k+c.Yb.length<=k'+(aJ g.m_ a).Yb.length)(h2:M+c.Ya.length<=M'+(aJ g.m_ a).Ya.length):Hb k' M' (ga g a c):=by
 obtain ⟨f1,f2, -, -⟩:=xZ g a c;have e1:=IL K4 ha (Bv c (aJ g.m_ a).Yg);have e2:=IL (fun c:VJ=>c.Ya.length) ha (Bv c (aJ g.m_ a).Yg);have s1:=s.hw;have s2:=s.hm;unfold ws at s1;unfold mS at s2;refine ⟨?_,?_,by rw [f2];exact s.hr⟩
 ·rw [f1];unfold ws;have:K4 (Bv c (aJ g.m_ a).Yg)=1+c.Yb.length:=rfl;have:K4 (aJ g.m_ a)=1+(aJ g.m_ a).Yb.length:=rfl;omega
 rw [f1];unfold mS;have:(Bv c (aJ g.m_ a).Yg).Ya.length=c.Ya.length:=rfl;omega
theorem Pl.putK (hk:k<=580)(hM:M<=2200)(h:Pl g){a:Int}(ha:aw g.m_ a=true)(hr:bj c=true)(hkd:c.XZ≠8/\c.XZ≠10)(hc:Px g.m_ c)(b:Hb k M (ga g a c)):
  Pl (ga g a c)/\(∀x,aw (ga g a c).m_ x=aw g.m_ x)/\(∀x,aw g.m_ x=true->aJ (ga g a c).m_ x=if x=a then Bv c (aJ g.m_ a).Yg else aJ g.m_ x):=by
 obtain ⟨f1,f2,f3,f4⟩:=xZ g a c;obtain ⟨s1,s2,s3,s4,s5, -⟩:=Pm (Bv c (aJ g.m_ a).Yg) ha;have hage:=Mm (h.cells _ (mP ha)).1;have hr':bj (Bv c (aJ g.m_ a).Yg)=true:=Kl hr hage.1 hage.2
 have hhas: ∀x,aw (ga g a c).m_ x=aw g.m_ x:=fun x=>by rw [f1];exact s1 x
 have hmem: ∀d∈(ga g a c).m_.Yd++(ga g a c).m_.Yc,d∈g.m_.Yd++g.m_.Yc\/d=Bv c (aJ g.m_ a).Yg:=fun d hd=>by rw [f1] at hd;exact s5 d hd
 have nd:((ga g a c).Ys.at_.map Prod.fst).Nodup:=by
  rw [f4];cases decide (a%2=1)
  ·exact Of h.hb.nd _ _
  exact h.hb.nd
 have keys: ∀x∈(ga g a c).Ys.at_.map Prod.fst, ∃i:Nat,i<(ga g a c).m_.Yc.length/\x=2*(i:Int)+2:=fun x hx=>by
  rw [f1,s4];rw [f4] at hx
  cases hd:decide (a%2=1) with
  |true=>rw [hd] at hx;exact h.hb.keys x hx
  | false=>
   rw [hd] at hx;rcases (GO h.hb.nd _ _ x).1 hx with ⟨-,hx|rfl⟩|⟨-,hx, -⟩
   ·exact h.hb.keys x hx
   ·rcases fu ha with ⟨j,hj,rfl⟩|⟨j,hj,rfl⟩
    ·rw [V0 U] at hd;cases hd
    exact ⟨j,hj,J⟩
   exact h.hb.keys x hx
 have hp:(ga g a c).Yt=[]:=f3.trans h.pend
 have w64:W64 (ga g a c).m_:=fun d hd=>by
  rcases hmem d hd with hd|rfl
  ·exact h.hb.w64 d hd
  exact fun v hv=>(hc v hv).1
 refine ⟨⟨Si hk hM b hp w64 (fun v hv=> ?_) nd keys,hp,fun d hd=> ?_,fun x hx=> ?_,Ms h.set h.hb.nd ha c nd⟩,hhas,fun x hx=>by rw [f1];exact s2 x hx⟩
 ·rw [f2] at hv;exact h.hb.r64 v (V4 _ hv)
 ·rcases hmem d hd with hd|rfl
  ·exact ⟨(h.cells d hd).1,fun x hx=>(hhas x).trans ((h.cells d hd).2.1 x hx),(h.cells d hd).2.2⟩
  refine ⟨hr',fun x hx=> ?_,hkd⟩;obtain ⟨v,hv,hb,rfl⟩:=zx hx;exact (hhas _).trans ((hc v hv).2 hb)
 rw [f2] at hx;exact (hhas x).trans (h.roots x hx)
def D2 (g:VU)(c:VJ):VU:=⟨⟨g.m_.Yd++ [c],g.m_.Yc⟩,g.Ym,g.Yt,g.Ys⟩
def yf (g:VU):Int:=2*(g.m_.Yd.length:Int)+1
theorem MG (g:VU):aw g.m_ (yf g)=false:=by
 unfold yf;rw [AL];exact V1 U
theorem Rl (s:Hb k M g)(c:VJ)(h1:k+1+c.Yb.length<=k')(h2:M+c.Ya.length<=M'):Hb k' M' (D2 g c):=by
 have s1:=s.hw;have s2:=s.hm;refine ⟨?_,?_,s.hr⟩
 ·show ws (g.m_.Yd++ [c])+_<=k';unfold ws at s1⊢;rw [tS];simp only [bw];have:K4 c=1+c.Yb.length:=rfl;show bw K4 g.m_.Yd+(K4 c+0)+bw K4 g.m_.Yc<=k';omega
 show mS (g.m_.Yd++ [c])+_<=M';unfold mS at s2⊢;rw [tS];simp only [bw];show _+(c.Ya.length+0)+bw _ g.m_.Yc<=M';omega
theorem Pl.addK (hk:k<=580)(hM:M<=2200)(p:Pl g)(hr:bj c=true)(hkd:c.XZ≠8/\c.XZ≠10)(hc:Px g.m_ c)(s:Hb k M (D2 g c)):
  Pl (D2 g c)/\(∀x,aw g.m_ x=true->aw (D2 g c).m_ x=true/\aJ (D2 g c).m_ x=aJ g.m_ x)/\aw (D2 g c).m_ (yf g)=true/\aJ (D2 g c).m_ (yf g)=c:=by
 obtain ⟨a1,a2,a3⟩:=Po (m:=g.m_) c
 have hmem: ∀d∈(D2 g c).m_.Yd++(D2 g c).m_.Yc,d∈g.m_.Yd++g.m_.Yc\/d=c:=fun d hd=>by
  have hd:d∈(g.m_.Yd++ [c])++g.m_.Yc:=hd;simp only [W8,W9,List.not_mem_nil,or_false] at hd⊢;rcases hd with (hd|hd)|hd
  ·exact .inl (.inl hd)
  ·exact .inr hd
  exact .inl (.inr hd)
 have hset:iN g.Ys.at_=lr ⟨g.m_.Yd++ [c],g.m_.Yc⟩:=by rw [OB];exact p.set
 have hW:W64 (D2 g c).m_:=fun d hd=>by
  rcases hmem d hd with hd|rfl
  ·exact p.hb.w64 d hd
  exact fun v hv=>(hc v hv).1
 refine ⟨⟨Si hk hM s p.pend hW (fun v hv=>p.hb.r64 v (V4 _ hv)) p.hb.nd p.hb.keys,p.pend,fun d hd=> ?_,fun x hx=>(a1 x (p.roots x hx)).1,hset⟩,a1,a2,a3⟩;rcases hmem d hd with hd|rfl
 ·exact ⟨(p.cells d hd).1,fun x hx=>(a1 _ ((p.cells d hd).2.1 x hx)).1,(p.cells d hd).2.2⟩
 refine ⟨hr,fun x hx=> ?_,hkd⟩;obtain ⟨v,hv,hb,rfl⟩:=zx hx;exact (a1 _ ((hc v hv).2 hb)).1
def v0:VN:=⟨0,0,⟨#[]⟩⟩
def Mf (w:VS)(t:VH):VS:=⟨w.Yu,w.Yn,(),w.Yi,t,w.Yv,w.Yo,w.YB,w.YC,w.Yw,w.Yx⟩
theorem Tb:mQ v0=true:=by kernel_rfl
theorem o6 (h:bj c=true):0<=c.Yf/\(0<=c.Ye/\c.Ye<=63)/\0<=c.Yg/\c.Yg<=1:=by
 unfold bj at h;simp only [XW,Bool.not_eq_true',XN] at h;omega
theorem zb (hk:c.XZ=1\/c.XZ=2)(h0:0<=c.Yf)(hf:0<=c.Ye/\c.Ye<=63)(ha:0<=c.Yg/\c.Yg<=1)(hs:∀x∈c.Yb,mQ x=true)(hm:∀x∈c.Ya,mQ x=true)(hn:c.Yb.length<=1025){z:VN}(hz:c.Yb[0]? =some z)(hz1:z.XZ=1\/z.XZ=7)(hml:c.Ya.length<=4096)(hp:c.XZ=1->c.Ya=[]):bj c=true:=by
 have h1:=(WQ.1 hz).1
 have e0:rv c.Yb 0=z:=by unfold rv;rw [List.getD_eq_getElem?_getD,hz];rfl
 have e1:mX c.XZ c.Yf c.Ye c.Yb=true:=by
  unfold mX CR;rw [e0,V0 (p:=1<=c.Yb.length) U,V0 hn];rcases hk with h|h<;>rcases hz1 with h2|h2<;>rw [h,h2]<;>rfl
 have e2:rM c.XZ c.Ya=true:=by
  unfold rM;rcases hk with h|h
  ·rw [hp h,h];rfl
  rw [h,V0 (p:=(2:Int)=2) rfl,cond_true];exact V0 hml
 unfold bj;rw [e1,e2,Wu.2 hs,Wu.2 hm,V1 (p:=c.XZ<1) U,V1 (p:=11<c.XZ) U,V1 (p:=c.Yf<0) U,V1 (p:=c.Ye<0) U,V1 (p:=63<c.Ye) U,V1 (p:=c.Yg<0) U,V1 (p:=1<c.Yg) U];rfl
structure ValW (m:VR) (x:VN):Prop where
 may:mQ x=true
 i64:in64 x.N
 ref:bd x=true->aw m x.N=true
theorem LW (m:VR):ValW m v0:=⟨Tb,by decide,fun h=>by cases h⟩
def rK (g s:VN):VJ:=⟨5,0,0,0,[g,s],[]⟩
def BX (x:VN):Prop:=x.XZ=0\/x.XZ=7
theorem Kn {g s:VN}(hg:ValW m g)(hs:ValW m s)(kg:BX g)(ks:BX s):bj (rK g s)=true:=by
 have e1:noneB g 7=true:=by unfold noneB;rcases kg with h|h<;>rw [h]<;>rfl
 have e2:noneB s 7=true:=by unfold noneB;rcases ks with h|h<;>rw [h]<;>rfl
 have e3:mX 5 0 0 [g,s]=true:=by
  unfold mX;show (decide ([g,s].length=2)&&noneB g 7&&noneB s 7)=true;rw [e1,e2];rfl
 unfold bj rK;simp only [List.all_cons,List.all_nil];rw [hg.may,hs.may,e3];rfl
theorem Mx (h:bj c=true)(hk:c.XZ=5){g s:VN}(hs:c.Yb=[g,s]):BX g/\BX s:=by
 unfold bj mX CR at h;rw [hk,hs] at h;simp only [XW] at h;obtain ⟨-, -, -,h, -⟩:=h;have h:(bif !decide (c.Yf=0)|| !decide (c.Ye=0) then false else (decide ([g,s].length=2)&&noneB g 7&&noneB s 7))=true:=h
 cases e:(!decide (c.Yf=0)|| !decide (c.Ye=0)) with
 |true=>rw [e] at h;cases h
 |false=>
  rw [e,cond_false] at h;simp only [XW,noneB,Bool.or_eq_true,XO] at h;exact ⟨h.1.2,h.2⟩
def F3 (m:VR)(x g s:VN):Prop:= ∃(a ag:Int),x=⟨9,a,⟨#[]⟩⟩/\aw m a=true/\aJ m a=⟨5,0,0,ag,[g,s],[]⟩
def SlotP (m:VR)(p:VP)(x:VN):Prop:=
 (aq .i64 p.Yh 8=0/\p.Value=x/\p.Yp=v0/\p.Yr=v0/\x.XZ≠9)\/
 (aq .i64 p.Yh 8≠0/\p.Value=v0/\F3 m x p.Yp p.Yr)
structure Wd (N k q M:Nat) (w:VS):Prop where
 pl:Pl w.Yi
 hb:Hb k M w.Yi
 ti:TI N w.Yk
 tb:w.Yk.Yk.length<=q
 ep:0<=w.Yo/\w.Yo<=(q:Int)
theorem Wd.up {N q q':Nat}{w:VS}(h:Wd N k q M w)(h1:k<=k')(h2:q<=q')(h3:M<=M'):Wd N k' q' M' w:=⟨h.pl,h.hb.up h1 h3,h.ti,Xy h.tb h2,h.ep.1,by have:=h.ep.2;omega⟩
theorem Wd.sz {N q:Nat}{w:VS}(h:Wd N k q M w)(hk:k<=580)(hM:M<=2200): ∀c∈w.Yi.m_.Yd++w.Yi.m_.Yc,c.Yb.length<=600/\c.Ya.length<=2900:=fun c hc=>by have:=h.hb.cell hc;omega
theorem Pl.valW (h:Pl g){a:Int}(ha:aw g.m_ a=true){x:VN}(hx:x∈(aJ g.m_ a).Yb++(aJ g.m_ a).Ya):ValW g.m_ x:=by
 have hc:=mP ha;have h1:=h.refs hc x hx;have h2:=uM (h.cells _ hc).1;refine ⟨?_,h1.1,h1.2⟩;rcases W8.1 hx with hx|hx
 ·exact Wu.1 h2.1 x hx
 exact Wu.1 h2.2.1 x hx
theorem NB {N q:Nat}{w:VS}(h:Wd N k q M w)(hk:k<=580)(hM:M<=2200){x:VN}(hx:bd x=true)(hi:in64 x.N)(ha:aw w.Yi.m_ x.N=true):aF N w x=some (aJ w.Yi.m_ x.N):=De (h.sz hk hM) hx hi ha
def Iu (p:VP):VI×Int:=(p.Yl,p.Yh)
structure ObjC (t:VH) (c:VJ) (l:List (VI×Int)):Prop where
 kind:c.XZ=1\/c.XZ=2
 proto: ∃z,c.Yb[0]? =some z/\(z.XZ=1\/z.XZ=7)
 plain:c.XZ=1->c.Ya=[]
 row:Row t c.Yf l
 num:c.Yb.length=l.length+1
 nd:(l.map (·.1)).Nodup
structure Obj (N:Nat) (i:Int) (k q:Nat) (w:VS) (c:VJ) (PL:List VP):Prop where
 wd:Wd N k q c.Ya.length w
 has:aw w.Yi.m_ i=true
 at_:aJ w.Yi.m_ i=c
 oc:ObjC w.Yk c (PL.map Iu)
 each: ∀(n:Nat) p,PL[n]? =some p-> ∃x,c.Yb[n+1]? =some x/\SlotP w.Yi.m_ p x
 inj: ∀(n m:Nat) x y,n≠m->c.Yb[n+1]? =some x->c.Yb[m+1]? =some y->x.XZ=9->y.XZ=9->x.N≠y.N
theorem Obj.up {N q q':Nat}{w:VS}(h:Obj N i k q w c PL)(h1:k<=k')(h2:q<=q'):Obj N i k' q' w c PL:=⟨h.wd.up h1 h2 (Xx _),h.has,h.at_,h.oc,h.each,h.inj⟩
theorem Obj.len {N q:Nat}{w:VS}(h:Obj N i k q w c PL):PL.length<=1024:=by
 have:=h.oc.row.le h.wd.ti
 rwa [XU] at this
theorem Obj.num {N q:Nat}{w:VS}(h:Obj N i k q w c PL):c.Yb.length=PL.length+1:=by
 have:=h.oc.num
 rwa [XU] at this
theorem Obj.right {N q:Nat}{w:VS}(h:Obj N i k q w c PL):bj c=true:=by
 have:=(h.wd.pl.cells _ (mP h.has)).1
 rwa [h.at_] at this
theorem Obj.val {N q:Nat}{w:VS}(h:Obj N i k q w c PL){x:VN}(hx:x∈c.Yb++c.Ya):ValW w.Yi.m_ x:=h.wd.pl.valW h.has (by rw [h.at_];exact hx)
theorem Obj.key {N q:Nat}{w:VS}(h:Obj N i k q w c PL)(hp:p∈PL):C2 N p.Yl/\xq p.Yh:=h.oc.row.ok h.wd.ti _ (List.mem_map_of_mem hp)
theorem Obj.nodup {N q:Nat}{w:VS}(h:Obj N i k q w c PL):(PL.map (·.Yl)).Nodup:=by
 have:=h.oc.nd;rw [List.map_map] at this;exact this
def mG (p:VP):VP:=bif decide (aq .i64 p.Yh 8=0) then ⟨p.Yl,p.Yh,p.Value,v0,v0⟩ else ⟨p.Yl,p.Yh,v0,p.Yp,p.Yr⟩
def sH:VP:=⟨⟨0,0,⟨#[]⟩⟩,0,v0,v0,v0⟩
def o9 (PL:List VP)(key:VI):VP×Bool:=match PL.find? (fun p=>decide (p.Yl=key)) with
 |some p=>(p,true)
 |none=>(sH,false)
theorem Lj {key:VI}(h:∀p∈PL,p.Yl≠key):o9 PL key=(sH,false):=by
 unfold o9;rw [List.find?_eq_none.2 fun p hp=>by simp [h p hp]]
theorem Lk (hn:(PL.map (·.Yl)).Nodup){n:Nat}(hp:PL[n]? =some p):o9 PL p.Yl=(p,true):=by
 have hm:=Xd hp
 cases e:PL.find? (fun x=>decide (x.Yl=p.Yl)) with
 |none=>exact absurd (List.find?_eq_none.1 e p hm) (by simp)
 |some x=>
  have h1:x.Yl=p.Yl:=by simpa using List.find?_some e
  have h2:=List.mem_of_find?_eq_some e;obtain ⟨m,hmm⟩:=List.getElem?_of_mem h2;have h3:=WQ.1 hmm;have h4:=WQ.1 hp;have:m=n:=(List.getElem_inj (h₀:=by rw [XU];exact h3.1) (h₁:=by rw [XU];exact h4.1) hn).1 (by rw [WW,WW,h3.2,h4.2,h1]);subst this;have:x=p:=XH (hmm.symm.trans hp);subst this;unfold o9;rw [e]
section
variable {N:Nat}(hv:v.XZ=7)(hvN:v.N=i){q:Nat}(hk:k<=580){w:VS}(hM:c.Ya.length<=2200)(h:Obj N i k q w c PL)
include hv hvN hk hM h
theorem Oe:aF N w v=some c:=by
 have hi:=rl (h.wd.pl.hb.small) h.has;rw [NB h.wd hk hM (x:=v) (by unfold bd;rw [hv];rfl) (by rw [hvN];exact hi) (by rw [hvN];exact h.has),hvN,h.at_]
theorem zZ:bU N w v=some (.inr ⟨c,w,v⟩):=by
 obtain ⟨z,z1,z2⟩:=h.oc.proto;have hl:=(WQ.1 z1).1
 have hg:ap c.Yb 0=some z:=by unfold ap;exact z1
 unfold bU;rw [V0 hv,nt,cf,Oe hv hvN hk hM h,bs,V1 (show¬(c.Yb.length:Int)=0 by omega),cf,hg,bs,bs];rcases z2 with z2|z2<;>rw [z2]<;>rfl
omit hv hvN in
theorem PI {n:Nat}(hn:PL[n]? =some p):fj N ⟨c,w,v⟩ (n:Int) p.Yl p.Yh=some p:=by
 have hlt:=(WQ.1 hn).1;have hnum:=h.num;have hl:=h.len;obtain ⟨x,hx,hs⟩:=h.each n p hn
 have hg:ap c.Yb ((n:Int)+1)=some x:=by
  unfold ap;rw [if_neg U,show ((n:Int)+1).toNat=n+1 by omega];exact hx
 unfold fj;rw [r64 U U];show (bif decide ((c.Yb.length:Int)<=(n:Int)+1) then _ else _)=_;rw [V1 U,cf,r64 U U];show Option.bind (ap c.Yb ((n:Int)+1)) _=_;rw [hg,bs];rcases hs with ⟨s1,s2,s3,s4, -⟩|⟨s1,s2,a,ag,s3,s4,s5⟩
 ·rw [V0 s1,ct];refine congrArg some ?_;rw [<-s2,show (⟨0,0,⟨#[]⟩⟩:VN)=p.Yp from s3.symm];have:p.Yp=p.Yr:=s3.trans s4.symm
  conv=>lhs;arg 5;rw [this]
 have hi:=rl (h.wd.pl.hb.small) s4;subst s3;rw [V1 s1,cf];show Option.bind (aF N w _) _=_;rw [NB h.wd hk hM (x:=⟨9,a,⟨#[]⟩⟩) rfl hi s4,bs,s5];show some (⟨p.Yl,p.Yh,v0,p.Yp,p.Yr⟩:VP)=some p;rw [<-s2]
end
end
section
open Go.RowKit
set_option maxRecDepth 20000
section
variable {N:Nat}(hN:20000<=N)(hv:v.XZ=7)(hvN:v.N=i){q:Nat}(hk:k<=580){w:VS}(hM:c.Ya.length<=2200)(h:Obj N i k q w c PL)
include hN hk hM h
def TD (PL:List VP)(key:VI)(r:VP×Int×Bool):Prop:=(r=(sH,0,false)/\ ∀p∈PL,p.Yl≠key)\/ ∃(n:Nat) (p:VP),r=(p,(n:Int),true)/\PL[n]? =some p/\p.Yl=key
theorem J2 (key:VI):Sat (cJ N ⟨c,w,v⟩ key) (TD PL key):=by
 unfold cJ bZ;rw [bs];have hle:=h.len
 refine (Ek N U h.wd.ti h.oc.row key).bind fun z hz=> ?_
 rcases hz with ⟨rfl,hz⟩|⟨n,z1,z2,z3⟩
 ·show Sat (some ((sH,0,false):VP×Int×Bool)) _;refine ad ?_;left;refine ⟨J,fun p hp e=> ?_⟩;exact hz (Iu p) (List.mem_map_of_mem hp) e
 rw [WR] at z3;obtain ⟨p,hp,e⟩:=Option.map_eq_some_iff.1 z3;have e1:p.Yl=key:=congrArg Prod.fst e;have e2:p.Yh=z.2.1:=congrArg Prod.snd e
 have e3:fj N ⟨c,w,v⟩ z.1 key z.2.1=some p:=by rw [z1, <-e2, <-e1];exact PI hk hM h hp
 rw [z2];show Sat (Option.bind _ _) _
 refine Sat.bind (P:=(· =p)) ⟨p,e3,J⟩ fun y hy=> ?_
 subst hy;refine ad ?_;right;exact ⟨n,y,by rw [z1],hp,e1⟩
include hv hvN
end
structure PropW (m:VR) (p:VP):Prop where
 v:ValW m p.Value/\p.Value.XZ≠9
 g:ValW m p.Yp/\BX p.Yp
 s:ValW m p.Yr/\BX p.Yr
structure FrW (w w':VS):Prop where
 roots:w'.Yi.Ym=w.Yi.Ym
 has: ∀a,aw w.Yi.m_ a=true->aw w'.Yi.m_ a=true
 spent:w'.Yu=w.Yu
 config:w'.Yn=w.Yn
theorem FrW.refl (w:VS):FrW w w:=⟨rfl,fun _ h=>h,rfl,rfl⟩
theorem FrW.trans {a b c:VS}(h:FrW a b)(h':FrW b c):FrW a c:=⟨h'.roots.trans h.roots,fun x hx=>h'.has x (h.has x hx),h'.spent.trans h.spent,h'.config.trans h.config⟩
theorem ValW.mono {m':VR}(hm:∀a,aw m a=true->aw m' a=true){x:VN}(h:ValW m x):ValW m' x:=⟨h.may,h.i64,fun hb=>hm _ (h.ref hb)⟩
structure Slotted (N k q M:Nat) (w:VS) (p:VP) (old:VN) (r:VN×VS):Prop where
 wd:Wd N (k+3) q M r.2
 fr:FrW w r.2
 tab:r.2.Yk=w.Yk
 val:ValW r.2.Yi.m_ r.1
 slot:SlotP r.2.Yi.m_ (mG p) r.1
 fresh:r.1.XZ=9->r.1=old\/aw w.Yi.m_ r.1.N=false
 rest: ∀a,aw w.Yi.m_ a=true->(old.XZ=9->old.N≠a)->aJ r.2.Yi.m_ a=aJ w.Yi.m_ a
 ep:r.2.Yo=w.Yo
theorem Td {a:Int}(h:1<=a):mQ ⟨9,a,⟨#[]⟩⟩=true:=by
 unfold mQ fV;rw [show ((⟨9,a,⟨#[]⟩⟩:VN).S.toList==(⟨#[]⟩:ByteArray).toList)=true from beq_self_eq_true _];show (Option.getD (some (decide (1<=a))) false)=true;rw [V0 h];rfl
theorem Fe (h:¬aq .i64 p.Yh 8=0):mG p=⟨p.Yl,p.Yh,v0,p.Yp,p.Yr⟩:=by
 unfold mG;rw [V1 h];rfl
theorem CV (h:aq .i64 p.Yh 8=0):mG p=⟨p.Yl,p.Yh,p.Value,v0,v0⟩:=by
 unfold mG;rw [V0 h];rfl
theorem SO {N:Nat}(hN:20000<=N){w:VS}(hp:Pl w.Yi){x:VN}(hx:bd x=true)(ha:aw w.Yi.m_ x.N=true)(h1:c.Yb.length<=600/\c.Ya.length<=2900)(hr:bj c=true):cB N w x c=some (EE w (ga w.Yi x.N c)):=by
 have e:iI N x=some (bd x):=by
  unfold iI bd;cases decide (x.XZ=7)<;>rfl
 unfold cB;rw [e,bs,hx,ct,Uj U hp.hb.small ha h1,hr];rfl
theorem SP {N:Nat}(hN:20000<=N){w:VS}(hp:Pl w.Yi)(h1:c.Yb.length<=600/\c.Ya.length<=2900)(hr:bj c=true)(h0:c.Yg=0):cI N w c=some (⟨9,yf w.Yi,⟨#[]⟩⟩,EE w (D2 w.Yi c)):=by
 have ec:(⟨c.XZ,c.Yf,c.Ye,0,c.Yb,c.Ya⟩:VJ)=c:=by rw [<-h0]
 have hl:=hp.hb.small.young
 have e:(((w.Yi.m_.Yd++ [(⟨c.XZ,c.Yf,c.Ye,0,c.Yb,c.Ya⟩:VJ)]).length:Nat):Int)=(w.Yi.m_.Yd.length:Int)+1:=by simp
 unfold cI iU aG;rw [bs,cf,DH U U,bs,hr,nt,cf,qV N c U,bs,rF (by simp only [WY,W2];omega),e,r64 U U,r64 U U,ec,show 2*((w.Yi.m_.Yd.length:Int)+1) - 1=yf w.Yi by unfold yf;omega,bs];rfl
theorem NJ {N:Nat}(hN:20000<=N){q:Nat}(hk:k+3<=580)(hM:M<=2200){w:VS}(h:Wd N k q M w){c':VJ}{v':VN}(hp:PropW w.Yi.m_ p){old:VN}(hold:old.XZ≠9\/ ∃g s,F3 w.Yi.m_ old g s):Sat (iw N ⟨c',w,v'⟩ p old) (Slotted N k q M w p old):=by
 unfold iw
 refine aK (fun h8=>ad ?_) fun h8=> ?_
 ·refine ⟨h.up U (Xx _) (Xx _),FrW.refl w,J,hp.v.1,?_,fun e=>absurd e hp.v.2,fun _ _ _=>J,J⟩;rw [CV h8];exact .inl ⟨h8,J,J,J,hp.v.2⟩
 have hr:bj (rK p.Yp p.Yr)=true:=Kn hp.g.1 hp.s.1 hp.g.2 hp.s.2
 have hrf:Px w.Yi.m_ (rK p.Yp p.Yr):=fun x hx=>by
  have hx:x=p.Yp\/x=p.Yr:=by simpa [rK] using hx
  rcases hx with rfl|rfl
  ·exact ⟨hp.g.1.i64,hp.g.1.ref⟩
  exact ⟨hp.s.1.i64,hp.s.1.ref⟩
 have hide:old.XZ≠9->Sat ((cI N w (⟨5,0,0,0,([p.Yp,p.Yr]:List VN),[]⟩:VJ)).bind fun a6=>some (a6.1,a6.2)) (Slotted N k q M w p old):=fun hne=>by
  have hb:Hb (k+3) M (D2 w.Yi (rK p.Yp p.Yr)):=Rl h.hb _ (by show k+1+2<=k+3;omega) (by show M+0<=M;omega);obtain ⟨p1,p2,p3,p4⟩:=h.pl.addK hk hM hr ⟨by show (5:Int)≠8;decide,by show (5:Int)≠10;decide⟩ hrf hb;have e:=SP (c:=rK p.Yp p.Yr) hN h.pl (by constructor<;>(show _<=_;simp [rK])) hr rfl;show Sat (Option.bind (cI N w (rK p.Yp p.Yr)) _) _;rw [e,bs];have hi:=rl p1.hb.small p3;refine ad ⟨⟨p1,hb,h.ti,h.tb,h.ep⟩,⟨J,fun a ha=>(p2 a ha).1,J,J⟩,J,⟨?_,hi,fun _=>p3⟩,?_,fun _=> .inr (MG _),fun a ha _=>(p2 a ha).2,J⟩
  ·show mQ ⟨9,yf w.Yi,⟨#[]⟩⟩=true
   have:(1:Int)<=yf w.Yi:=by unfold yf;omega
   exact Td this
  rw [Fe h8];exact .inr ⟨h8,J,yf w.Yi,0,J,p3,p4⟩
 by_cases h9:old.XZ=9
 ·obtain ⟨g,s,a,ag,rfl,ha,hat⟩: ∃g s,F3 w.Yi.m_ old g s:=hold.resolve_left fun hne=>hne h9
  have hi:=rl h.pl.hb.small ha;rw [V0 h9,ct];show Sat (Option.bind (Option.bind (aF N w ⟨9,a,⟨#[]⟩⟩) _) _) _;rw [NB h U hM (x:=⟨9,a,⟨#[]⟩⟩) rfl hi ha,bs,bs];show Sat (bif decide ((aJ w.Yi.m_ a).XZ=5) then _ else _) _;rw [hat,V0 (p:=(5:Int)=5) rfl,ct];have hb:Hb k M (ga w.Yi a (rK p.Yp p.Yr)):=Lh h.hb ha (by rw [hat];exact Xx _) (by rw [hat];exact Xx _);obtain ⟨p1,p2,p3⟩:=h.pl.putK U hM ha hr ⟨by show (5:Int)≠8;decide,by show (5:Int)≠10;decide⟩ hrf hb;have e:=SO (x:=⟨9,a,⟨#[]⟩⟩) (c:=rK p.Yp p.Yr) hN h.pl rfl ha (by constructor<;>(show _<=_;simp [rK])) hr;show Sat (Option.bind (cB N w ⟨9,a,⟨#[]⟩⟩ (rK p.Yp p.Yr)) _) _;rw [e,bs];have hold':=h.pl.cells _ (mP ha);refine ad ⟨⟨p1,hb.up U (Xx _),h.ti,h.tb,h.ep⟩,⟨(xZ _ _ _).2.1,fun b hb'=>by rw [show (EE w (ga w.Yi a (rK p.Yp p.Yr))).Yi.m_=(ga w.Yi a (rK p.Yp p.Yr)).m_ from rfl,p2];exact hb',rfl,rfl⟩,J,⟨?_,hi,fun _=>(p2 a).trans ha⟩,?_,fun _=> .inl J,fun b hb' hne=> ?_,J⟩
  ·have:(1:Int)<=a:=by
    rcases fu ha with ⟨j, -,rfl⟩|⟨j, -,rfl⟩<;>omega
   exact Td this
  ·rw [Fe h8];refine .inr ⟨h8,J,a,ag,J,(p2 a).trans ha,?_⟩;show aJ (ga w.Yi a (rK p.Yp p.Yr)).m_ a=_;rw [p3 a ha,if_pos rfl,hat];rfl
  show aJ (ga w.Yi a (rK p.Yp p.Yr)).m_ b=_;rw [p3 b hb',if_neg fun e=>hne rfl e.symm]
 rw [V1 h9,cf,bs,cf];exact hide h9
end
end Go.Proofs.YthhiddkljcacaaaGreat