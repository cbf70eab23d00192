/- Merged texts: part 6. No conditions of their own. -/
import Derived.Test.YtmcifcmlojonnaaGreatDoorG5
set_option maxHeartbeats 4000000
namespace Go.Proofs.YtmcifcmlojonnaaGreatDoor
variable (N:Nat){a1 a3:Int}{a0:WP}{a4:WW}{a2:WX}
section
theorem WG:type_of% Tryz.underlying247:=Tryz.underlying247
variable {A1 A2 A3 A4 A5 A6:Option Addr}{B1 B2 B3 B6 M3 M7 c1 c2 c3 c4 c5 c6 n1 n2 n3 n4 n5 n6:Nat}
open Go.RowKit Asn
set_option maxRecDepth 20000
def gN (a0:WR)(a1:Int)(a2:WX)(a3:Int):Option (Int×Int×WR):=
 (fE N a0 a1 a2 a3).bind fun y5=>bif !decide (y5=0) then (some (0,y5,a0)) else ((dA N a0 a1 a2).bind fun y7=>bif !y7.2.2 then (some (0,3,a0)) else ((fk N a0 a1).bind fun y9=>aI ((0:Int)<=y7.1/\y7.1.toNat<y9.length) ((aq (List.drop y7.1.toNat y9) 0).bind fun a6=>(gM N a0 a1 y7.1).bind fun a8=>(kh N a0 a8 (List.set (List.drop y7.1.toNat y9) ((0:Int).toNat) (⟨a6.Up,(⟨a6.Zo.Zh,a6.Zo.N,a6.Zo.S⟩:WX),a3,a6.ZJ⟩:W2))).bind fun a7=>some (a7.1,a7.2.1,a7.2.2))))
theorem xG {N:Nat}{a0:WR}{r:Int×Int×WR}(h:gN N a0 a1 a2 a3=some r):Okc Xk 151 [pV B1 0,iV a1,(eI a2),iV a3] ([ah B1 170 [W A2 n2 c2,.map (some M3)],bf bA 166 (W A2 n2 c2) a0.Zw,bE er wx M3 a0.ZK]) (fun u post=> ∃A0 n0 c0 M1,u=.tuple #[iV r.1,iV r.2.1]/\post=[ah B1 170 [W A0 n0 c0,.map (some M1)],bf bA 166 (W A0 n0 c0) r.2.2.Zw,bE er wx M1 r.2.2.ZK]):=by
 refine ce Tryz.func151 ?_;intro B4;refine sY ?_
 refine cR h (fun _ k=>nq k) fun y5 h=> ?_
 refine gH J h ?_ ?_<;>intro h
 ·exact eY
 refine cR h (fun _ k=>kR k) fun y7 h=> ?_
 refine sZ ?_;refine gH J h ?_ ?_<;>intro h
 ·exact eY
 refine LD h (fun _ k=>lQ k) fun y9 b6 b7 b9 h=> ?_
 obtain ⟨b5,h⟩:=ac h
 refine sI (SZ (l:=y7.1.toNat) 0 J J Wy size166.out J (by rw [Xz b5.1];rfl) b5.2) fun c7 c8 c9=> ?_
 obtain ⟨a8,a6,a7,b0,h⟩:=ba h;refine gR (bS 0 J MK J J Wy size166.out a6 a7)<|gR (qi 0 J MK J (toNat_lt a6 a7) CC)<|GB (NK (us:=[iV a3]) (z:=(⟨a8.Up,(⟨a8.Zo.Zh,a8.Zo.N,a8.Zo.S⟩:WX),a3,a8.ZJ⟩:W2)) 0 J J J J size3.out J (toNat_lt a6 a7) J (fun S w vs xk hk hr=>by obtain rfl:=YX (hk.symm.trans b0);rw [show _=_ from hr];rfl)) ?_
 refine cR h (fun _ k=>qX k) fun d0 h=> ?_
 refine mP (Sa 0 J)<|ab ?_;obtain ⟨d1,k,h⟩:=aa h;refine gD (oC (pu k)) ?_;rintro _ _ ⟨_,⟨d2,d3,d4,d6,rfl,rfl⟩,rfl⟩;exact eY
theorem vR {N:Nat}{a0:WR}{r:Int×Int×WR}(h:gN N a0 a1 a2 a3=some r):Okc Xk 151 [pV B1 0,iV a1,(eI a2),iV a3] ([oDTable B1 a0]) (fun u post=>u=.tuple #[iV r.1,iV r.2.1]/\post=[oDTable B1 r.2.2]):=Mk 0 rfl (fun _=>xG h)
def nA (y9:WS×Int×Bool)(a0:WV)(a6:Int×Int×WR)(a1:WS)(a7:W8)(a8:WP):Option (Bool×WV):=
 (bN N (⟨(⟨a0.Zu.Zh,a6.1,a0.Zu.Zm,a0.Zu.Zn,a7,a0.Zu.Zi⟩:W3),a8,a0.at_⟩:WV) true).bind fun b0=>some (true,b0)
def gX (y9:WS×Int×Bool)(a1:WS)(a0:WV)(a7:Int)(a8:WP):Option (Bool×WV):=
 aI (in64 (y9.2.1+1)) (aI (in64 (y9.2.1+1)) ((aq a0.Zu.Zj (y9.2.1+1)).bind fun b0=>(iC N (⟨(⟨a0.Zu.Zh,a7,a0.Zu.Zm,a0.Zu.Zn,a0.Zu.Zj,a0.Zu.Zi⟩:W3),a8,a0.at_⟩:WV) a1 b0).bind fun a6=>(aq a0.Zu.Zj (y9.2.1+1)).bind fun b6=>(bN N (⟨(⟨a0.Zu.Zh,a7,a0.Zu.Zm,a0.Zu.Zn,List.set a0.Zu.Zj ((y9.2.1+1).toNat) (⟨a6.1.Zh,a6.1.N,a6.1.S⟩:WZ),a0.Zu.Zi⟩:W3),a6.2,a0.at_⟩:WV) (!decide (y9.1.Zk=a1.Zk))).bind fun b5=>some (true,b5)))
def gn (a0:WV)(a1:WS):Option (Bool×WV):=
 (cU N a0.w_).bind fun y8=>(ci N a0 a1.Zo).bind fun y9=>bif !y9.2.2 then ((fo N a0.w_.Zw a0.Zu.Zq).bind fun b0=>bif decide (1024<=b0) then (some (false,a0)) else ((jq N a0.w_.Zw a0.Zu.Zq a1.Zo a1.Zk).bind fun a6=>bif !decide (a6.2.1=0) then (some (false,(⟨a0.Zu,(⟨a0.w_.ZI,a0.w_.ZB,(),a0.w_.Zv,a6.2.2,a0.w_.ZF,a0.w_.ZL,a0.w_.ZM,a0.w_.ZN,a0.w_.ZG,a0.w_.ZH⟩:WP),a0.at_⟩:WV))) else ((iC N (⟨(⟨a0.Zu.Zh,a6.1,a0.Zu.Zm,a0.Zu.Zn,a0.Zu.Zj,a0.Zu.Zi⟩:W3),(⟨a0.w_.ZI,a0.w_.ZB,(),a0.w_.Zv,a6.2.2,a0.w_.ZF,a0.w_.ZL,a0.w_.ZM,a0.w_.ZN,a0.w_.ZG,a0.w_.ZH⟩:WP),a0.at_⟩:WV) a1 (⟨0,0,⟨#[]⟩⟩:WZ)).bind fun a8=>aI (bm (a0.Zu.Zj.length+([a8.1]:List WZ).length)) (nA N y9 a0 a6 a1 (a0.Zu.Zj++([a8.1]:List WZ)) a8.2)))) else (bif !decide (y9.1.Zk=a1.Zk) then ((gN N a0.w_.Zw a0.Zu.Zq a1.Zo a1.Zk).bind fun a7=>bif !decide (a7.2.1=0) then (some (false,(⟨a0.Zu,(⟨a0.w_.ZI,a0.w_.ZB,(),a0.w_.Zv,a7.2.2,a0.w_.ZF,a0.w_.ZL,a0.w_.ZM,a0.w_.ZN,a0.w_.ZG,a0.w_.ZH⟩:WP),a0.at_⟩:WV))) else (gX N y9 a1 a0 a7.1 (⟨a0.w_.ZI,a0.w_.ZB,(),a0.w_.Zv,a7.2.2,a0.w_.ZF,a0.w_.ZL,a0.w_.ZM,a0.w_.ZN,a0.w_.ZG,a0.w_.ZH⟩:WP))) else (gX N y9 a1 a0 a0.Zu.Zq a0.w_))
theorem sS {N:Nat}{a0:WV}{a1:WS}{r:Bool×WV}(h:gn N a0 a1=some r){B4 B5 B6:Nat}:Okc Xk 105 [pV B1 0,(cm a1)] ([ah B1 135 [iV a0.Zu.Zh,iV a0.Zu.Zq,iV a0.Zu.Zm,iV a0.Zu.Zn,W A2 n2 c2,W A3 n3 c3,pV B4 0,iV a0.at_.Zh,iV a0.at_.N,.string a0.at_.S],bj A2 n2 c2 a0.Zu.Zj,bj A3 n3 c3 a0.Zu.Zi,oDWorld B4 B5 B6 a0.w_]) (fun u post=> ∃A0 n0 c0 A1 n1 c1,u=.bool r.1/\post=[ah B1 135 [iV r.2.Zu.Zh,iV r.2.Zu.Zq,iV r.2.Zu.Zm,iV r.2.Zu.Zn,W A0 n0 c0,W A1 n1 c1,pV B4 0,iV r.2.at_.Zh,iV r.2.at_.N,.string r.2.at_.S],bj A0 n0 c0 r.2.Zu.Zj,bj A1 n1 c1 r.2.Zu.Zi,oDWorld B4 B5 B6 r.2.w_]):=by
 refine ce Tryz.func105 ?_;intro B7
 refine cR h (fun _ k=>eS k) fun y8 h=> ?_
 refine cR h (fun _ k=>kT k) fun y9 h=> ?_
 intro b7;refine sY ?_;refine gH J h ?_ ?_<;>intro h
 ·refine sZ ?_
  refine cR h (fun _ k=>xZ k) fun e8 h=> ?_
  refine gH J h ?_ ?_<;>intro h
  ·exact eY
  refine ab ?_;refine aB<|be O ([ah b7 50 (co y9.1),ah B7 50 (co a1),ah B1 135 [iV a0.Zu.Zh,iV a0.Zu.Zq,iV a0.Zu.Zm,iV a0.Zu.Zn,W A2 n2 c2,W A3 n3 c3,pV B4 0,iV a0.at_.Zh,iV a0.at_.N,.string a0.at_.S],bj A2 n2 c2 a0.Zu.Zj,bj A3 n3 c3 a0.Zu.Zi]) (cS [0,1,2,3,4] 6) ?_;refine ab ?_;refine kM ((cS [5,0,1,2,3,4] 6).trans AP) (cS [2,3,4,5,6] 7) ?_;refine bz ?_;obtain ⟨b9,k,h⟩:=aa h;refine zD 10 J (oC (xD k)) ?_;rintro _ _ ⟨_,⟨rfl,rfl⟩,rfl⟩;refine bL ?_;refine bz ?_;refine kM (Be) (cS [1,2,3,4,5] 6) ?_;refine bz ?_;refine sY ?_;refine gH J h ?_ ?_<;>intro h
  ·exact eY
  refine ab ?_;refine ak (fun s L=> ∃c9 d0 d1 d2 d3,nA N y9 a0 b9 a1 c9 d0=some r/\s=[(0,pV B1 0),(3,pV B7 0),(4,.bool false),(5,pV B6 0),(6,pV b7 0),(7,iV y9.2.1)]/\L=[bj d1 d2 d3 c9,bj A3 n3 c3 a0.Zu.Zi,ah B1 135 [iV a0.Zu.Zh,iV b9.1,iV a0.Zu.Zm,iV a0.Zu.Zn,W d1 d2 d3,W A3 n3 c3,pV B4 0,iV a0.at_.Zh,iV a0.at_.N,.string a0.at_.S],ah B7 50 (co a1),ah b7 50 (co y9.1),oDWorld B4 B5 B6 d0]) ?_ ?_
  ·refine be O ([ah b7 50 (co y9.1),ah B7 50 (co a1),bj A3 n3 c3 a0.Zu.Zi]) (cS [1,2,5] 6) ?_;refine zY [0,1,2,3,4,6,7] ?_;refine zE 8 J (nH J bld_28_.out) ?_;refine mO 5 9 O ?_ ?_
   ·refine bB J (sR (cD 3 J J sj J)) J J J ?_;rintro _ _ ⟨rfl,rfl⟩;refine bL ?_;obtain ⟨a6,b5,h⟩:=aa h;refine zD 9 J (oC (nz b5)) ?_;rintro _ _ ⟨_,⟨rfl,rfl⟩,rfl⟩;refine bL ?_;refine bz ?_
    refine zk 10 J (aw (R:=ay) (vss:=[[iV a6.1.Zh,iV a6.1.N,.string a6.1.S]]) (xs:=[a6.1]) J (jy _ _ _) J J (fun _ _ hr=> .cons J All2.nil)) fun e2 e3 e4=> ?_
    obtain ⟨c7,h⟩:=ac h
    refine zk 11 J (az 3 0 J J aj J J t9 sw J J c7) fun a7 a8 b0=> ?_
    refine zY [12,13,14] ?_;refine zO 15 J (ao (us:=[W a7 a8 b0]) (cs':=[iV a0.Zu.Zh,iV b9.1,iV a0.Zu.Zm,iV a0.Zu.Zn,W a7 a8 b0,W A3 n3 c3,pV B4 0,iV a0.at_.Zh,iV a0.at_.N,.string a0.at_.S]) 2 J J J J size22.out J J J) ?_;rintro _ _ rfl;refine bL ?_;refine bz ?_;exact aY O<|jY
   obtain ⟨a6,b5,h⟩:=aa h;refine bB J (oC (nz b5)) J J J ?_;rintro _ _ ⟨_,⟨rfl,rfl⟩,rfl⟩;refine bL ?_;refine bz ?_;refine mO 5 10 O ?_ ?_
   ·refine bB J (sR (cD 1 J J sj J)) J J J ?_;rintro _ _ ⟨rfl,rfl⟩;refine bL ?_
    refine zk 10 J (aw (R:=ay) (vss:=[[iV a6.1.Zh,iV a6.1.N,.string a6.1.S]]) (xs:=[a6.1]) J (jy _ _ _) J J (fun _ _ hr=> .cons J All2.nil)) fun e2 e3 e4=> ?_
    obtain ⟨c7,h⟩:=ac h
    refine zk 11 J (az 3 0 J J aj J J t9 sw J J c7) fun a7 a8 b0=> ?_
    refine zY [12,13,14] ?_;refine zO 15 J (ao (us:=[W a7 a8 b0]) (cs':=[iV a0.Zu.Zh,iV b9.1,iV a0.Zu.Zm,iV a0.Zu.Zn,W a7 a8 b0,W A3 n3 c3,pV B4 0,iV a0.at_.Zh,iV a0.at_.N,.string a0.at_.S]) 2 J J J J size22.out J J J) ?_;rintro _ _ rfl;refine bL ?_;refine bz ?_;exact aY O<|jY
   refine bB J (aw (R:=ay) (vss:=[[iV a6.1.Zh,iV a6.1.N,.string a6.1.S]]) (xs:=[a6.1]) J (jy _ _ _) J J (fun _ _ hr=> .cons J All2.nil)) J J J ?_;rintro _ _ ⟨e2,e3,e4,rfl,rfl⟩;refine bL ?_;refine zD 5 J (sR (cD 2 J J sj J)) ?_;rintro _ _ ⟨rfl,rfl⟩;refine bL ?_;obtain ⟨c7,h⟩:=ac h
   refine zk 11 J (az 3 0 J J aj J J t9 sw J J c7) fun a7 a8 b0=> ?_
   refine zY [12,13,14] ?_;refine zO 15 J (ao (us:=[W a7 a8 b0]) (cs':=[iV a0.Zu.Zh,iV b9.1,iV a0.Zu.Zm,iV a0.Zu.Zn,W a7 a8 b0,W A3 n3 c3,pV B4 0,iV a0.at_.Zh,iV a0.at_.N,.string a0.at_.S]) 2 J J J J size22.out J J J) ?_;rintro _ _ rfl;refine bL ?_;refine bz ?_;exact aY O<|jY
  rintro _ _ ⟨c9,d0,d1,d2,d3,h,rfl,rfl⟩
  refine Ua h (fun _ k=>jH k) fun e9 f0 f1 f2 f3 f4 f6 h=> ?_
  exact eN
 refine ab ?_;refine ak (fun s L=> ∃c8 d4,gX N y9 a1 a0 c8 d4=some r/\s=[(0,pV B1 0),(3,pV B7 0),(4,.bool false),(7,iV y9.2.1),(11,.bool (!decide (y9.1.Zk=a1.Zk)))]/\L=[bj A2 n2 c2 a0.Zu.Zj,bj A3 n3 c3 a0.Zu.Zi,ah B1 135 [iV a0.Zu.Zh,iV c8,iV a0.Zu.Zm,iV a0.Zu.Zn,W A2 n2 c2,W A3 n3 c3,pV B4 0,iV a0.at_.Zh,iV a0.at_.N,.string a0.at_.S],ah B7 50 (co a1),oDWorld B4 B5 B6 d4]) ?_ ?_
 ·refine dk h ?_ ?_<;>intro h
  ·refine aB<|be O ([ah b7 50 (co y9.1),ah B7 50 (co a1),ah B1 135 [iV a0.Zu.Zh,iV a0.Zu.Zq,iV a0.Zu.Zm,iV a0.Zu.Zn,W A2 n2 c2,W A3 n3 c3,pV B4 0,iV a0.at_.Zh,iV a0.at_.N,.string a0.at_.S],bj A2 n2 c2 a0.Zu.Zj,bj A3 n3 c3 a0.Zu.Zi]) (cS [0,1,2,3,4] 6) ?_;refine ab ?_;refine kM ((cS [5,0,1,2,3,4] 6).trans AP) (cS [2,3,4,5,6] 7) ?_;refine bz ?_;obtain ⟨f9,k,h⟩:=aa h;refine zD 10 J (oC (vR k)) ?_;rintro _ _ ⟨_,⟨rfl,rfl⟩,rfl⟩;refine bL ?_;refine bz ?_;refine kM (Be) (cS [1,2,3,4,5] 6) ?_;refine bz ?_;refine sY ?_;refine gH J h ?_ ?_<;>intro h
   ·exact eY
   exact jY
  exact jY
 rintro _ _ ⟨c8,d4,h,rfl,rfl⟩;refine aB<|be O ([bj A2 n2 c2 a0.Zu.Zj,bj A3 n3 c3 a0.Zu.Zi,ah B1 135 [iV a0.Zu.Zh,iV c8,iV a0.Zu.Zm,iV a0.Zu.Zn,W A2 n2 c2,W A3 n3 c3,pV B4 0,iV a0.at_.Zh,iV a0.at_.N,.string a0.at_.S],ah B7 50 (co a1)]) (cS [0,1,2,3] 5) ?_;refine ab ?_;obtain ⟨g0,h⟩:=ac h;refine ab ?_;obtain ⟨g1,h⟩:=ac h;refine ab ?_;obtain ⟨g2,e5,e6,e7,h⟩:=ba h;refine ab ?_;obtain ⟨b6,k,h⟩:=aa h;refine zD 18 J (oC (nz k)) ?_;rintro _ _ ⟨_,⟨rfl,rfl⟩,rfl⟩;refine bL ?_;refine bz ?_;obtain ⟨g3,d6,e0,e1,h⟩:=ba h;refine ab ?_;refine gI 20 J O O (bZ (us:=[iV b6.1.Zh,iV b6.1.N,.string b6.1.S]) (z:=(⟨b6.1.Zh,b6.1.N,b6.1.S⟩:WZ)) 2 J J J J size28.out J (toNat_lt d6 e0) J (fun S w vs xk hk hr ho=>by obtain rfl:=YX (hk.symm.trans e1);rw [show _=_ from hr];rfl)) ?_;rintro _ _ rfl;refine bz ?_
 refine Ua h (fun _ k=>jH k) fun g4 g5 g6 g7 g8 g9 h0 h=> ?_
 exact eN
def tq (a0:WP)(a1:WZ)(a2:WX)(a3:WZ)(a4:Int):Option (Bool×WP):=
 (gF N a0 a1).bind fun y7=>Er y7 (fun y7_0=>some (false,a0)) (fun y7_1=>(bd N a2).bind fun a7=>(bif !a7 then (some true) else (some (decide (a4<0)))).bind fun a8=>(bif a8 then (some true) else (some (decide (7<a4)))).bind fun b16=>bif b16 then (some (false,a0)) else ((gn N (⟨y7_1.Zu,a0,y7_1.at_⟩:WV) (⟨a2,a4,a3,(⟨0,0,⟨#[]⟩⟩:WZ),(⟨0,0,⟨#[]⟩⟩:WZ)⟩:WS)).bind fun a6=>some (a6.1,a6.2.w_)))
theorem GU {N:Nat}{a1 a3:WZ}{a4:Int}{r:Bool×WP}(h:tq N a0 a1 a2 a3 a4=some r){B1 B2 B3:Nat}:Okc Xk 146 [pV B1 0,(aF a1),(eI a2),(aF a3),iV a4] ([oDWorld B1 B2 B3 a0]) (fun u post=>u=.bool r.1/\post=[oDWorld B1 B2 B3 r.2]):=by
 refine ce Tryz.func146 ?_;intro B4
 refine cl fun B5=> ?_
 intro B6;refine ab ?_;obtain ⟨y7,a6,h⟩:=aa h;rcases y7 with y7_0|y7_1
 ·replace h:=G9 h;refine gD (oR (dc a6)) ?_;rintro _ _ ⟨_,⟨rfl,rfl⟩,rfl⟩;refine sY ?_;exact jE J<|eY
 replace h:=G8 h;refine gD (oR (dc a6)) ?_;rintro _ _ ⟨_,⟨B8,A9,n9,c9,a7,a8,b0,rfl,rfl⟩,rfl⟩;refine sY ?_
 refine cR h (fun _ k=>nU k) fun b5 h=> ?_
 refine gS 3 29 26 h ?_;intro b6 h;refine ab ?_;refine gS 3 33 30 h ?_;intro b16 h;refine dk h ?_ ?_<;>intro h
 ·exact eY
 refine Ua h (fun _ k=>sS k) fun b7 b9 c7 c8 d0 d1 d2 h=> ?_
 exact eN
def yU (N:Nat)(a0:WZ)(a1:Int):Option WW:=
 some (⟨51,ai .i64 a1 7,a0,(⟨0,0,⟨#[]⟩⟩:WZ),(⟨0,0,⟨#[]⟩⟩:WZ)⟩:WW)
theorem IU {N:Nat}{a0:WZ}{r:WW}(h:yU N a0 a1=some r):Okc Xk 185 [(aF a0),iV a1] ([]) (fun u post=>u=(fT r)/\post=[]):=by
 refine ce Tryz.func185 ?_;intro B1
 refine cl fun B2=> ?_
 refine fS (aP J J) ?_;exact eN
def zJ (a0:WS):Option WW:=
 bif !decide (ai .i64 a0.Zk 8=0) then (some (⟨60,ai .i64 a0.Zk 6,(⟨0,0,⟨#[]⟩⟩:WZ),a0.Zx,a0.Zy⟩:WW)) else ((yU N a0.Value a0.Zk).bind fun y4=>some y4)
theorem Lt {N:Nat}{a0:WS}{r:WW}(h:zJ N a0=some r):Okc Xk 147 [(cm a0)] ([]) (fun u post=>u=(fT r)/\post=[]):=by
 refine ce Tryz.func147 ?_;intro B1
 refine cl fun B2=> ?_
 refine sZ ?_;refine fS (aP J J) ?_;refine gH J h ?_ ?_<;>intro h
 ·refine ab ?_;refine fS (aP J J) ?_;exact eN
 refine cR h (fun _ k=>IU k) fun y4 h=> ?_
 exact eN
def jW (a0:WP)(a1:WZ)(a2:WX)(a3:WW):Option (Bool×WP):=
 (gF N a0 a1).bind fun y7=>Er y7 (fun y7_0=>some (false,a0)) (fun y7_1=>(bd N a2).bind fun b0=>bif !b0 then (some (false,a0)) else ((ci N (⟨y7_1.Zu,a0,y7_1.at_⟩:WV) a2).bind fun a6=>(dw N a6.1 a6.2.2 (!decide (ai .i64 y7_1.Zu.Zm 1=0)) a2 a3).bind fun a7=>bif a7.2 then ((gn N (⟨y7_1.Zu,a0,y7_1.at_⟩:WV) a7.1).bind fun a8=>some (a8.1,a8.2.w_)) else (some (false,a0))))
theorem wg {N:Nat}{a1:WZ}{a3:WW}{r:Bool×WP}(h:jW N a0 a1 a2 a3=some r){B1 B2 B3:Nat}:Okc Xk 60 [pV B1 0,(aF a1),(eI a2),(fT a3)] ([oDWorld B1 B2 B3 a0]) (fun u post=>u=.bool r.1/\post=[oDWorld B1 B2 B3 r.2]):=by
 refine ce Tryz.func60 ?_;intro B4
 refine cl fun B5=> ?_
 intro B6;refine ab ?_;obtain ⟨y7,b7,h⟩:=aa h;rcases y7 with y7_0|y7_1
 ·replace h:=G9 h;refine gD (oR (dc b7)) ?_;rintro _ _ ⟨_,⟨rfl,rfl⟩,rfl⟩;refine sY ?_;exact jE J<|eY
 replace h:=G8 h;refine gD (oR (dc b7)) ?_;rintro _ _ ⟨_,⟨B8,A9,n9,c9,b9,c7,c8,rfl,rfl⟩,rfl⟩;refine sY ?_
 refine cR h (fun _ k=>nU k) fun d1 h=> ?_
 refine gH J h ?_ ?_<;>intro h
 ·exact eY
 refine cR h (fun _ k=>kT k) fun a7 h=> ?_
 intro b5;refine ab ?_;refine aB ?_;obtain ⟨a6,b6,h⟩:=aa h;refine gw (t:=[(6,pV B5 0),(7,pV B6 0),(8,.bool false),(9,pV B8 0),(10,.bool true),(11,pV b5 0),(13,.bool a7.2.2)]) ?_ ml (ae _)
 refine iR O 16 [14] [13,14,15] [36,37,38,39,40,41,42,43,44,45,46,47,35,48,49,14] [[],[],[],[2],[3],[4],[5],[6],[7],[],[],[0,1,8,9,10],[11],[12],[12],[]] [aV ((cm a7.1)),
aV (.bool a7.2.2),
aV (pV B8 0),
aV (pV B8 0),
aV (pV B8 0),
aV (pV B8 2),
aV (iV y7_1.Zu.Zm),
aV (iV (ai .i64 y7_1.Zu.Zm 1)),
aV (.bool (!decide (ai .i64 y7_1.Zu.Zm 1=0))),
aV ((eI a2)),
aV ((fT a3)),
aV (.tuple #[(cm a6.1),.bool a6.2]),
aV (.tuple #[(cm a6.1),.bool a6.2]),
aV ((cm a6.1)),
aV (.bool a6.2),
aX1 (fun (a8:Nat)=>pV a8 0) (fun a8=> [ah a8 50 [iV 0,iV 0,.string (⟨#[]⟩),iV 0,iV 0,iV 0,.string (⟨#[]⟩),iV 0,iV 0,.string (⟨#[]⟩),iV 0,iV 0,.string (⟨#[]⟩)]])] [] (ae _) (fu rfl me) O rfl rfl ?_ ?_ ?_
 ·exact ft J (nK (dl J J) J (iI J (ae _)))<|md
 ·refine aG J ?_ ?_
  ·refine tH (bF zero50.out J) J ?_;rintro _ _ ⟨d0,rfl,rfl⟩;exact Oi d0 (ae _)
  refine qE (dl J J) ?_;refine qE (dl J J) ?_;refine qE (ap J) ?_;refine aG J ?_ ?_
  ·refine tH (oR (vK b6)) J ?_;rintro _ _ ⟨_,⟨rfl,rfl⟩,rfl⟩;exact iI J (ae _)
  refine qR (aD (us:=iv a3) 4 J J agg41.out J) ?_;refine qR (aD (us:=jw a2) 5 J J agg39.out J) ?_;refine qE (SE J J) ?_;refine qE (aP J J) ?_;refine qR (cD 1 J J wc J) ?_;refine qE (kK J MA) ?_;refine qE (rE J J5) ?_;refine qE (dF J) ?_;refine qE (ap J) ?_;refine qE (ap J) ?_;refine qR (aD (us:=co a7.1) 0 J J agg50.out J) ?_;exact dK
 intro a8;refine oq (t:=[(48,(cm a6.1)),(49,.bool a6.2),(14,pV a8 0),(6,pV B5 0),(7,pV B6 0),(8,.bool false),(9,pV B8 0),(10,.bool true),(11,pV b5 0),(13,.bool a7.2.2)]) (L':=[ah a8 50 [iV 0,iV 0,.string (⟨#[]⟩),iV 0,iV 0,iV 0,.string (⟨#[]⟩),iV 0,iV 0,.string (⟨#[]⟩),iV 0,iV 0,.string (⟨#[]⟩)],ah b5 50 (co a7.1),ah B8 135 [iV y7_1.Zu.Zh,iV y7_1.Zu.Zq,iV y7_1.Zu.Zm,iV y7_1.Zu.Zn,W A9 n9 c9,W b9 c7 c8,pV B1 0,iV y7_1.at_.Zh,iV y7_1.at_.N,.string y7_1.at_.S],bj A9 n9 c9 y7_1.Zu.Zj,bj b9 c7 c8 y7_1.Zu.Zi,ah B6 41 (iv a3),ah B5 39 (jw a2),ah B4 28 (bU a1),oDWorld B1 B2 B3 a0]) ?_ ml (ae _);refine pU 16 J O (ao (us:=co a6.1) (cs':=co a6.1) 0 J J J J size50.out J J J) J J ?_;rintro _ _ rfl;refine CS 17 J O (ck J) J J J<|mj O<|ab ?_;refine fU 51 J (fun b0=> ?_) (fun b0=> ?_)
 ·replace h:=cZ b0 h;refine ab ?_;obtain ⟨d2,k,h⟩:=aa h;refine CU (oC (sS k)) J (bW b0 J) J ?_;rintro _ _ ⟨_,⟨d3,d4,d6,e0,e1,e2,rfl,rfl⟩,rfl⟩;exact eY
 replace h:=db b0 h;exact eY
def vp (a0:WP)(a1:WZ)(a2:WS):Option WP:=
 (tq N a0 a1 a2.Zo (⟨0,0,⟨#[]⟩⟩:WZ) 7).bind fun y6=>(zJ N a2).bind fun y7=>(jW N y6.2 a1 a2.Zo y7).bind fun y9=>some y9.2
theorem I1 {N:Nat}{a1:WZ}{a2:WS}{r:WP}(h:vp N a0 a1 a2=some r){B1 B2 B3:Nat}:Okc Xk 104 [pV B1 0,(aF a1),(cm a2)] ([oDWorld B1 B2 B3 a0]) (fun u post=>u=.tuple #[]/\post=[oDWorld B1 B2 B3 r]):=by
 refine ce Tryz.func104 ?_;intro B4
 refine cl fun B5=> ?_
 refine cC h (fun _ k=>GU k) fun y6 h=> ?_
 refine cR h (fun _ k=>Lt k) fun y7 h=> ?_
 intro B8
 refine cC h (fun _ k=>wg k) fun y9 h=> ?_
 exact eN
def jB (a8:WS×Bool)(a0:WP)(a1:WZ)(a2:W3)(a3:WX)(a6:WS×Bool)(b0:W8):Option (Bool×Bool×WP):=
 (aA N a0 a1 (⟨a2.Zh,a2.Zq,a2.Zm,a2.Zn,a2.Zj,b0⟩:W3)).bind fun a7=>bif decide (a6.1.Zk=7) then ((tC N a7 a1 a3 a8.2).bind fun b5=>some (true,false,b5)) else ((vp N a7 a1 a6.1).bind fun b6=>some (true,false,b6))
def jC (a8:WS×Bool)(a0:WP)(a1:WZ)(a2:W3)(a3:WX)(a6:WS×Bool)(a7:W8):Option (Bool×Bool×WP):=
 (aq a7 a3.N).bind fun b0=>bif decide (a6.1.Zk=7) then ((aq (List.set a7 a3.N.toNat (⟨8,0,(⟨#[]⟩:ByteArray)⟩:WZ)) a3.N).bind fun b5=>jB N a8 a0 a1 a2 a3 a6 (List.set (List.set a7 a3.N.toNat (⟨8,0,(⟨#[]⟩:ByteArray)⟩:WZ)) a3.N.toNat (⟨a6.1.Value.Zh,a6.1.Value.N,a6.1.Value.S⟩:WZ))) else (jB N a8 a0 a1 a2 a3 a6 (List.set a7 a3.N.toNat (⟨8,0,(⟨#[]⟩:ByteArray)⟩:WZ)))
def jA (N:Nat)(a7:WS×Bool)(a0:WP)(a1:WZ)(a2:W3)(a3:WX)(a8:WS×Bool):Nat->W8->Option (Bool×Bool×WP)
 |0,_=>none
 |b0+1,a6=>bif decide ((a6.length:Int)<=a3.N) then (aI (bm (a6.length+([(⟨8,0,(⟨#[]⟩:ByteArray)⟩:WZ)]:List WZ).length)) ((jA N a7 a0 a1 a2 a3 a8 b0) (a6++([(⟨8,0,(⟨#[]⟩:ByteArray)⟩:WZ)]:List WZ)))) else (jC N a7 a0 a1 a2 a3 a8 a6)
def nZ (a0:WP)(a1:WZ)(a2:W3)(a3:WX)(a4:WW):Option (Bool×Bool×WP):=
 (lI N a0 a1 a3).bind fun a7=>(dw N a7.1 a7.2 (!decide (ai .i64 a2.Zm 1=0)) a3 a4).bind fun a6=>bif !a6.2 then (some (false,false,a0)) else (bif decide (4096<=a3.N) then (some (false,true,a0)) else ((bif decide ((a2.Zi.length:Int)<=a3.N) then (some (!decide (ai .i64 a2.Zm 32=0))) else (some false)).bind fun b16=>bif b16 then (some (false,false,a0)) else ((qv N a0 a1 a3).bind fun a8=>(bif !decide (a6.1.Zk=7) then (some (!a8.2)) else (some false)).bind fun b0=>(bif b0 then ((js N a0 a1).bind fun b5=>some (decide (1024<=(b5.length:Int)))) else (some false)).bind fun b6=>bif b6 then (some (false,false,a0)) else (jA N a8 a0 a1 a2 a3 a6 N a2.Zi))))
theorem CP {N:Nat}{a1:WZ}{a2:W3}{a3:WX}{r:Bool×Bool×WP}(h:nZ N a0 a1 a2 a3 a4=some r){B1 B2 B3:Nat}:Okc Xk 59 [pV B1 0,(aF a1),.agg #[iV a2.Zh,iV a2.Zq,iV a2.Zm,iV a2.Zn,W A4 n4 c4,W A5 n5 c5],(eI a3),(fT a4)] ([sG,oDWorld B1 B2 B3 a0,bj A4 n4 c4 a2.Zj,bj A5 n5 c5 a2.Zi]) (fun u post=>u=.tuple #[.bool r.1,.bool r.2.1]/\post=[oDWorld B1 B2 B3 r.2.2]):=by
 refine ce Tryz.func59 ?_;intro B6
 refine cl fun B7=> ?_
 intro B8
 refine cl fun B9=> ?_
 refine cR h (fun _ k=>xj k) fun f1 h=> ?_
 intro f2;refine ab ?_;refine fS (aP J J) ?_
 refine cR h (fun _ k=>vK k) fun a6 h=> ?_
 intro a7;refine sY ?_;refine gH J h ?_ ?_<;>intro h
 ·exact eY
 refine dk h ?_ ?_<;>intro h
 ·exact eY
 refine ab ?_
 refine oz 5 56 51 h (fun _ e4 h=> ?_) fun b16 h=> ?_
 ·refine ab ?_;exact eP (aP J J) J (bW e4 J) J<|gY
 refine dk h ?_ ?_<;>intro h
 ·exact eY
 refine cR h (fun _ k=>Aq k) fun a8 h=> ?_
 intro f3;refine sY ?_;refine gS 3 70 67 h ?_;intro f4 h;refine ab ?_
 refine oz 6 77 71 h (fun _ e5 h=> ?_) fun f6 h=> ?_
 ·refine ab ?_;obtain ⟨f9,k,h⟩:=aa h;refine CU (oR (o9 k)) J (bW e5 J) J ?_;rintro _ _ ⟨_,⟨g0,g1,g2,rfl,rfl⟩,rfl⟩;exact gY
 refine dk h ?_ ?_<;>intro h
 ·exact eY
 refine ab ?_;refine ak (fun s L=> ∃b0 b5 b6 b7,jC N a8 a0 a1 a2 a3 a6 b0=some r/\s=[(0,pV B1 0),(6,pV B6 0),(7,pV B7 0),(8,pV B8 0),(10,.bool false),(11,.bool false),(14,pV a7 0),(17,.bool a8.2)]/\L=[oDWorld B1 B2 B3 a0,ah B6 28 (bU a1),bj A4 n4 c4 a2.Zj,bj b5 b6 b7 b0,ah B7 94 (iM a2 A4 n4 c4 b5 b6 b7),ah B8 39 (jw a3),ah a7 50 (co a6.1),sG]) ?_ ?_
 ·refine ab ?_;refine lK (fun m s L=> ∃(b9:W8) (c7:Option Addr) (c8 c9:Nat),jA N a8 a0 a1 a2 a3 a6 m b9=some r/\s=[(0,pV B1 0),(6,pV B6 0),(7,pV B7 0),(8,pV B8 0),(10,.bool false),(11,.bool false),(14,pV a7 0),(17,.bool a8.2)]/\L=[oDWorld B1 B2 B3 a0,ah B6 28 (bU a1),bj A4 n4 c4 a2.Zj,bj c7 c8 c9 b9,ah B7 94 (iM a2 A4 n4 c4 c7 c8 c9),ah B8 39 (jw a3),ah a7 50 (co a6.1),sG]) N ?_;rintro e6 _ _ ⟨b9,c7,c8,c9,h,rfl,rfl⟩;rw [jA.eq_2] at h;refine sZ ?_;refine gH J h ?_ ?_<;>intro h
  ·refine ab ?_;refine gD (aw (R:=ay) (vss:=[UD]) (xs:=[(⟨8,0,(⟨#[]⟩:ByteArray)⟩:WZ)]) J (jy _ _ _) J J (fun _ _ hr=> .cons J All2.nil)) ?_;rintro _ _ ⟨g3,g4,g5,rfl,rfl⟩;obtain ⟨e7,h⟩:=ac h
   refine sI (az 4 0 J J aj J J t9 sw J J e7) fun e8 e9 f0=> ?_
   exact ⟨e6,_,_,Xb _,⟨b9++([(⟨8,0,(⟨#[]⟩:ByteArray)⟩:WZ)]:List WZ),e8,e9,f0,h,J,J⟩,sA,cS [1,2,3,4,5,6,7,8] 9⟩
  exact jY
 rintro _ _ ⟨b0,b5,b6,b7,h,rfl,rfl⟩;refine ab ?_;obtain ⟨g6,d0,d1,d2,h⟩:=ba h;refine ab ?_;refine GB (bZ (us:=UD) (z:=(⟨8,0,(⟨#[]⟩:ByteArray)⟩:WZ)) 3 J J J J size28.out J (toNat_lt d0 d1) J (fun S w vs xk hk hr ho=>by obtain rfl:=YX (hk.symm.trans d2);rw [show _=_ from hr];rfl)) ?_;refine ak (fun s L=> ∃d3 d4 d6 e0,jB N a8 a0 a1 a2 a3 a6 d3=some r/\s=[(0,pV B1 0),(6,pV B6 0),(7,pV B7 0),(8,pV B8 0),(10,.bool false),(11,.bool false),(14,pV a7 0),(17,.bool a8.2)]/\L=[oDWorld B1 B2 B3 a0,ah B6 28 (bU a1),bj A4 n4 c4 a2.Zj,bj d4 d6 e0 d3,ah B7 94 (iM a2 A4 n4 c4 d4 d6 e0),ah B8 39 (jw a3),ah a7 50 (co a6.1),sG]) ?_ ?_
 ·refine dk h ?_ ?_<;>intro h
  ·refine ab ?_;obtain ⟨g7,e1,e2,e3,h⟩:=ba h;refine ab ?_;refine GB (bZ (us:=bU a6.1.Value) (z:=(⟨a6.1.Value.Zh,a6.1.Value.N,a6.1.Value.S⟩:WZ)) 3 J J J J size28.out J (toNat_lt e1 e2) J (fun S w vs xk hk hr ho=>by obtain rfl:=YX (hk.symm.trans e3);rw [show _=_ from hr];rfl)) ?_;exact ⟨_,_,⟨List.set (List.set b0 a3.N.toNat (⟨8,0,(⟨#[]⟩:ByteArray)⟩:WZ)) a3.N.toNat (⟨a6.1.Value.Zh,a6.1.Value.N,a6.1.Value.S⟩:WZ),b5,b6,b7,h,J,J⟩,sA,cS [0,1,2,3,4,5,6,7] 8⟩
  refine ab ?_;exact ⟨_,_,⟨List.set b0 a3.N.toNat (⟨8,0,(⟨#[]⟩:ByteArray)⟩:WZ),b5,b6,b7,h,J,J⟩,sA,cS [0,1,2,3,4,5,6,7] 8⟩
 rintro _ _ ⟨d3,d4,d6,e0,h,rfl,rfl⟩;refine ab ?_
 refine mP (bn 2 J)<|mP (bn 3 J)<|cC h (fun _ k=>dC k) fun g8 h=> ?_
 refine sZ ?_;refine gH J h ?_ ?_<;>intro h
 ·refine cC h (fun _ k=>G1 k) fun g9 h=> ?_
  exact eN
 refine cC h (fun _ k=>I1 k) fun h0 h=> ?_
 exact eN
def eC (a0:WP)(a1:WZ)(a2:WX)(a3:WW):Option (Bool×Bool×WP):=
 (ca N a0 a1).bind fun y7=>(bif !y7.2 then (some true) else ((bd N a2).bind fun b0=>some (!b0))).bind fun b5=>(bif b5 then (some true) else ((fA N a3).bind fun b6=>some (!b6))).bind fun b7=>bif b7 then (some (false,false,a0)) else ((cg N).bind fun b9=>bif decide (a2=b9) then ((ne N a0 a1 y7.1 a3).bind fun a6=>some (a6.1,a6.2.1,a6.2.2)) else (bif decide (a2.Zh=0) then ((nZ N a0 a1 y7.1 a2 a3).bind fun a7=>some (a7.1,a7.2.1,a7.2.2)) else ((jW N a0 a1 a2 a3).bind fun a8=>some (a8.1,false,a8.2))))
theorem sL {N:Nat}{a1:WZ}{a3:WW}{r:Bool×Bool×WP}(h:eC N a0 a1 a2 a3=some r){B1 B2 B3:Nat}:Okc Xk 24 [pV B1 0,(aF a1),(eI a2),(fT a3)] ([sG,oDWorld B1 B2 B3 a0]) (fun u post=>u=.tuple #[.bool r.1,.bool r.2.1]/\post=[oDWorld B1 B2 B3 r.2.2]):=by
 refine ce Tryz.func24 ?_;intro B4
 refine cl fun B5=> ?_
 intro B6
 refine G0 h (fun _ k=>dH k) fun y7 A8 n8 c8 A9 n9 c9 h=> ?_
 intro a7;refine sY ?_
 refine xv 4 25 21 h (fun _ a8 h=> ?_) fun b0 h=> ?_
 ·refine cR h (fun _ k=>nU k) fun b5 h=> ?_
  exact gY
 refine ab ?_
 refine xv 4 30 26 h (fun _ b6 h=> ?_) fun b7 h=> ?_
 ·refine cR h (fun _ k=>GY k) fun b9 h=> ?_
  exact gY
 refine dk h ?_ ?_<;>intro h
 ·exact eY
 refine dY [] ?_;refine ab ?_;obtain ⟨a6,k,h⟩:=aa h;refine zD 1 J (oR (jz k)) ?_;rintro _ _ ⟨_,⟨rfl,rfl⟩,rfl⟩;refine ⟨_,ae _,ae _,?_⟩;refine zE 2 J (wp (x:=a2) (y:=a6) J J) ?_;refine dk h ?_ ?_<;>intro h
 ·refine ab ?_
  refine mP (bn 1 J)<|mP (bn 2 J)<|cC h (fun _ k=>Bi k) fun c7 h=> ?_
  exact eN
 refine dk h ?_ ?_<;>intro h
 ·refine cC h (fun _ k=>CP k) fun d0 h=> ?_
  exact eN
 refine cC h (fun _ k=>wg k) fun d1 h=> ?_
 exact eN
def pT (a0:WP)(a1:WZ):Option Int:=
 (ca N a0 a1).bind fun y5=>bif !y5.2 then (some 0) else (some (y5.1.Zi.length:Int))
theorem xl {N:Nat}{a1:WZ}{r:Int}(h:pT N a0 a1=some r){B1 B2 B3:Nat}:Okc Xk 18 [pV B1 0,(aF a1)] ([pDWorld B1 B2 B3 a0]) (fun u post=>u=iV r/\post=[]):=by
 refine ce Tryz.func18 ?_;intro B4
 refine G0 h (fun _ k=>dH k) fun y5 A6 n6 c6 A7 n7 c7 h=> ?_
 intro B8;refine sY ?_;refine gH J h ?_ ?_<;>intro h
 ·exact eY
 exact eY
theorem zf {r:Int}: ∀v post,((fun (u:Value) (post:Xi)=>u=iV r/\post=[])) v post-> ∀c∈post,iS c:=by
 rintro _ _ ⟨rfl,rfl⟩;exact ax
def DH (N:Nat)(p4 p5:Int)(p6:ByteArray):Option Bool:=
 some false
def DG (p9:WP)(p13 a6:Int)(p15:ByteArray)(b6:Bool):Option Bool:=
 (bif !b6 then (some true) else ((mi N p9 (⟨p13,a6,p15⟩:WZ)).bind fun b7=>(pA N 0).bind fun b9=>(pA N 2).bind fun c7=>(cE N).bind fun c8=>(rl N b7 ([b9,c7,c8]:List WX)).bind fun c9=>some (!c9))).bind fun d0=>bif d0 then (some false) else ((pA N 5).bind fun d1=>(AC N 7 7).bind fun d2=>(eC N p9 (⟨p13,a6,p15⟩:WZ) d1 d2).bind fun a7=>(pT N a7.2.2 (⟨p13,a6,p15⟩:WZ)).bind fun d3=>(jD N a7.2.2 (⟨p13,a6,p15⟩:WZ) 1).bind fun a8=>(bif !a7.1 then (some true) else (some a7.2.1)).bind fun d4=>(bif d4 then (some true) else (some (!decide (d3=6)))).bind fun d6=>(bif d6 then (some true) else (some (!a8.1))).bind fun e0=>(bif e0 then (some true) else ((mi N a8.2 (⟨p13,a6,p15⟩:WZ)).bind fun e1=>(pA N 0).bind fun e2=>(cE N).bind fun e3=>(rl N e1 ([e2,e3]:List WX)).bind fun e4=>some (!e4))).bind fun e5=>bif e5 then (some false) else ((pA N 2).bind fun e6=>(AC N 7 0).bind fun e7=>(eC N a8.2 (⟨p13,a6,p15⟩:WZ) e6 e7).bind fun b0=>bif b0.1 then ((jD N b0.2.2 (⟨p13,a6,p15⟩:WZ) 0).bind fun b5=>(bif !b5.1 then ((pT N b5.2 (⟨p13,a6,p15⟩:WZ)).bind fun e8=>some (decide (e8=3))) else (some false)).bind fun e9=>some e9) else (some false)))
def pt:Option Bool:=
 (iq N).bind fun a6=>(tY N ([(⟨3,1,⟨#[]⟩⟩:WZ),a6,(⟨3,1,⟨#[]⟩⟩:WZ)]:List WZ)).bind fun a7=>Er a7 (fun y19_0=>DH N y19_0.Zh y19_0.N y19_0.S) (fun y19_1=>DG N y19_1.1 y19_1.2.1.Zh y19_1.2.1.N y19_1.2.1.S y19_1.2.2)
theorem xU {N:Nat}{r:Bool}(h:pt N=some r):Okc Xk 7 [] ([sG]) (fun u post=>u=.bool r/\post=[]):=by
 refine Ca Tryz.func7 J J ?_;simp only [qI];refine Y ?_
 refine gE (nH J (bld_28_0_1 _ _).out)<|gB (bF zero28.out J) fun B1=>gW (ao (us:=[iV 3,iV 1,.string (⟨#[]⟩)]) (cs':=[iV 3,iV 1,.string (⟨#[]⟩)]) 0 J J J J size28.out J J J)<|oS ?_
 refine Y ?_;refine ak (fun s L=>(∃p4 p5 p6 B3,DH N p4 p5 p6=some r/\s=[(0,.bool false),(2,.pointer none),(3,pV B3 0),(4,.bool false)]/\L=[ah B3 28 [iV p4,iV p5,.string p6],sG])\/(∃(p9:WP) (p13:Int) (a7:Int) (p15:ByteArray) (e0:Bool) (B8:Nat) (e3:Nat) (e4:Nat) (e1:Nat),DG N p9 p13 a7 p15 e0=some r/\s=[(0,.bool false),(2,pV B8 0),(3,pV e1 0),(4,.bool e0)]/\L=[oDWorld B8 e3 e4 p9,ah e1 28 [iV p13,iV a7,.string p15],sG])) ?_ ?_
 ·refine be O _ (ae _)<|yY [0,2] ?_;refine mO 1 9 O ?_ ?_
  ·obtain ⟨a8,k,h⟩:=aa h;refine bB J (aX (pK k) J (ax) rO) J J J ?_;rintro _ _ ⟨_,⟨rfl,rfl⟩,rfl⟩;refine ⟨_,ae _,ae _,?_⟩;refine mO 3 9 O ?_ ?_
   ·refine bB J (aw (R:=ay) (vss:=[[iV 3,iV 1,.string (⟨#[]⟩)],[iV a8.Zh,iV a8.N,.string a8.S],[iV 3,iV 1,.string (⟨#[]⟩)]]) (xs:=[(⟨3,1,⟨#[]⟩⟩:WZ),a8,(⟨3,1,⟨#[]⟩⟩:WZ)]) J (CL _ _ _ _ _ _ _ _ _) J J (fun _ _ hr=> .cons J (.cons J (.cons J All2.nil)))) J J J ?_;rintro _ _ ⟨g0,g1,g2,rfl,rfl⟩;refine ng (cS [1,2] 3) ?_;refine mO 4 9 O ?_ ?_
    ·obtain ⟨e8,c7,h⟩:=aa h;rcases e8 with y19_0|y19_1
     ·replace h:=G9 h;refine wA (bn 0 J) (cS [1,2] 3) ?_;refine OH ?_;refine bB J (dt (iT c7) J (bI [0] [] [0,1,2] 3 J)) J J J ?_;rintro _ _ ⟨_,⟨rfl,rfl⟩,rfl⟩;refine ng (cS [1,2] 3) ?_;refine bz ?_;refine yY [5,6,7,8] ?_;refine zD 9 J (bF zero28.out J) ?_;rintro _ _ ⟨e9,rfl,rfl⟩;refine ng (cS [2,3] 4) ?_;refine zE 10 J (ck J) ?_;refine zO 11 J (ao (us:=[iV y19_0.Zh,iV y19_0.N,.string y19_0.S]) (cs':=[iV y19_0.Zh,iV y19_0.N,.string y19_0.S]) 0 J J J J size28.out J J J) ?_;rintro _ _ rfl;refine ng (cS [2,3] 4) ?_;refine bz ?_;refine zE 12 J (ck J) ?_;exact aY O<|qx<|⟨_,_,.inl (⟨y19_0.Zh,y19_0.N,y19_0.S,e9,h,J,J⟩),sA,cS [0,3] 4⟩
     replace h:=G8 h;refine wA (bn 0 J) (cS [1,2] 3) ?_;refine OH ?_;refine bB J (dt (iT c7) J (bI [0] [] [0,1,2] 3 J)) J J J ?_;rintro _ _ ⟨_,⟨b5,b6,b7,rfl,rfl⟩,rfl⟩;refine ng (cS [2,3] 4) ?_;refine bz ?_;refine yY [5,6,7,8] ?_;refine zD 9 J (bF zero28.out J) ?_;rintro _ _ ⟨f0,rfl,rfl⟩;refine ng (cS [3,4] 5) ?_;refine zE 10 J (ck J) ?_;refine zO 11 J (ao (us:=[iV y19_1.2.1.Zh,iV y19_1.2.1.N,.string y19_1.2.1.S]) (cs':=[iV y19_1.2.1.Zh,iV y19_1.2.1.N,.string y19_1.2.1.S]) 0 J J J J size28.out J J J) ?_;rintro _ _ rfl;refine ng (cS [3,4] 5) ?_;refine bz ?_;refine zE 12 J (ck J) ?_;exact aY O<|qx<|⟨_,_,.inr (⟨y19_1.1,y19_1.2.1.Zh,y19_1.2.1.N,y19_1.2.1.S,y19_1.2.2,b5,b6,b7,f0,h,J,J⟩),sA,cS [1,0,4] 5⟩
    refine bB J (bF zero28.out J) J J J ?_;rintro _ _ ⟨e5,rfl,rfl⟩;refine ng (cS [2,3] 4) ?_;obtain ⟨c8,a6,h⟩:=aa h;rcases c8 with y20_0|y20_1
    ·replace h:=G9 h;refine kM (bn 1 J) (cS [2,3] 4) ?_;refine bz ?_;refine zD 4 J (dt (iT a6) J (bI [1] [] [0,1,2,3] 4 J)) ?_;rintro _ _ ⟨_,⟨rfl,rfl⟩,rfl⟩;refine ng (cS [2,3] 4) ?_;refine bz ?_;refine yY [5,6,7,8,10] ?_;refine zO 11 J (ao (us:=[iV y20_0.Zh,iV y20_0.N,.string y20_0.S]) (cs':=[iV y20_0.Zh,iV y20_0.N,.string y20_0.S]) 0 J J J J size28.out J J J) ?_;rintro _ _ rfl;refine ng (cS [2,3] 4) ?_;refine bz ?_;refine zE 12 J (ck J) ?_;exact aY O<|qx<|⟨_,_,.inl (⟨y20_0.Zh,y20_0.N,y20_0.S,e5,h,J,J⟩),sA,cS [0,3] 4⟩
    replace h:=G8 h;refine kM (bn 1 J) (cS [2,3] 4) ?_;refine bz ?_;refine zD 4 J (dt (iT a6) J (bI [1] [] [0,1,2,3] 4 J)) ?_;rintro _ _ ⟨_,⟨b5,b6,b7,rfl,rfl⟩,rfl⟩;refine ng (cS [3,4] 5) ?_;refine bz ?_;refine yY [5,6,7,8,10] ?_;refine zO 11 J (ao (us:=[iV y20_1.2.1.Zh,iV y20_1.2.1.N,.string y20_1.2.1.S]) (cs':=[iV y20_1.2.1.Zh,iV y20_1.2.1.N,.string y20_1.2.1.S]) 1 J J J J size28.out J J J) ?_;rintro _ _ rfl;refine ng (cS [3,4] 5) ?_;refine bz ?_;refine zE 12 J (ck J) ?_;exact aY O<|qx<|⟨_,_,.inr (⟨y20_1.1,y20_1.2.1.Zh,y20_1.2.1.N,y20_1.2.1.S,y20_1.2.2,b5,b6,b7,e5,h,J,J⟩),sA,cS [0,1,4] 5⟩
   refine bB J (bF zero28.out J) J J J ?_;rintro _ _ ⟨e6,rfl,rfl⟩;refine ng (cS [1,2] 3) ?_;refine zD 3 J (aw (R:=ay) (vss:=[[iV 3,iV 1,.string (⟨#[]⟩)],[iV a8.Zh,iV a8.N,.string a8.S],[iV 3,iV 1,.string (⟨#[]⟩)]]) (xs:=[(⟨3,1,⟨#[]⟩⟩:WZ),a8,(⟨3,1,⟨#[]⟩⟩:WZ)]) J (CL _ _ _ _ _ _ _ _ _) J J (fun _ _ hr=> .cons J (.cons J (.cons J All2.nil)))) ?_;rintro _ _ ⟨f1,f2,f3,rfl,rfl⟩;refine ng (cS [2,3] 4) ?_;obtain ⟨c8,a6,h⟩:=aa h;rcases c8 with y20_0|y20_1
   ·replace h:=G9 h;refine kM (bn 0 J) (cS [2,3] 4) ?_;refine bz ?_;refine zD 4 J (dt (iT a6) J (bI [0] [] [0,1,2,3] 4 J)) ?_;rintro _ _ ⟨_,⟨rfl,rfl⟩,rfl⟩;refine ng (cS [2,3] 4) ?_;refine bz ?_;refine yY [5,6,7,8,10] ?_;refine zO 11 J (ao (us:=[iV y20_0.Zh,iV y20_0.N,.string y20_0.S]) (cs':=[iV y20_0.Zh,iV y20_0.N,.string y20_0.S]) 1 J J J J size28.out J J J) ?_;rintro _ _ rfl;refine ng (cS [2,3] 4) ?_;refine bz ?_;refine zE 12 J (ck J) ?_;exact aY O<|qx<|⟨_,_,.inl (⟨y20_0.Zh,y20_0.N,y20_0.S,e6,h,J,J⟩),sA,cS [1,3] 4⟩
   replace h:=G8 h;refine kM (bn 0 J) (cS [2,3] 4) ?_;refine bz ?_;refine zD 4 J (dt (iT a6) J (bI [0] [] [0,1,2,3] 4 J)) ?_;rintro _ _ ⟨_,⟨b5,b6,b7,rfl,rfl⟩,rfl⟩;refine ng (cS [3,4] 5) ?_;refine bz ?_;refine yY [5,6,7,8,10] ?_;refine zO 11 J (ao (us:=[iV y20_1.2.1.Zh,iV y20_1.2.1.N,.string y20_1.2.1.S]) (cs':=[iV y20_1.2.1.Zh,iV y20_1.2.1.N,.string y20_1.2.1.S]) 2 J J J J size28.out J J J) ?_;rintro _ _ rfl;refine ng (cS [3,4] 5) ?_;refine bz ?_;refine zE 12 J (ck J) ?_;exact aY O<|qx<|⟨_,_,.inr (⟨y20_1.1,y20_1.2.1.Zh,y20_1.2.1.N,y20_1.2.1.S,y20_1.2.2,b5,b6,b7,e6,h,J,J⟩),sA,cS [0,2,4] 5⟩
  refine bB J (bF zero28.out J) J J J ?_;rintro _ _ ⟨e7,rfl,rfl⟩;refine ng (cS [1,2] 3) ?_;obtain ⟨d0,k,h⟩:=aa h;refine zD 1 J (aX (pK k) J (ax) rO) ?_;rintro _ _ ⟨_,⟨rfl,rfl⟩,rfl⟩;refine ng (cS [1,2] 3) ?_;refine zD 3 J (aw (R:=ay) (vss:=[[iV 3,iV 1,.string (⟨#[]⟩)],[iV d0.Zh,iV d0.N,.string d0.S],[iV 3,iV 1,.string (⟨#[]⟩)]]) (xs:=[(⟨3,1,⟨#[]⟩⟩:WZ),d0,(⟨3,1,⟨#[]⟩⟩:WZ)]) J (CL _ _ _ _ _ _ _ _ _) J J (fun _ _ hr=> .cons J (.cons J (.cons J All2.nil)))) ?_;rintro _ _ ⟨f1,f2,f3,rfl,rfl⟩;refine ng (cS [2,3] 4) ?_;obtain ⟨c8,a6,h⟩:=aa h;rcases c8 with y20_0|y20_1
  ·replace h:=G9 h;refine kM (bn 0 J) (cS [2,3] 4) ?_;refine bz ?_;refine zD 4 J (dt (iT a6) J (bI [0] [] [0,1,2,3] 4 J)) ?_;rintro _ _ ⟨_,⟨rfl,rfl⟩,rfl⟩;refine ng (cS [2,3] 4) ?_;refine bz ?_;refine yY [5,6,7,8,10] ?_;refine zO 11 J (ao (us:=[iV y20_0.Zh,iV y20_0.N,.string y20_0.S]) (cs':=[iV y20_0.Zh,iV y20_0.N,.string y20_0.S]) 1 J J J J size28.out J J J) ?_;rintro _ _ rfl;refine ng (cS [2,3] 4) ?_;refine bz ?_;refine zE 12 J (ck J) ?_;exact aY O<|qx<|⟨_,_,.inl (⟨y20_0.Zh,y20_0.N,y20_0.S,e7,h,J,J⟩),sA,cS [1,3] 4⟩
  replace h:=G8 h;refine kM (bn 0 J) (cS [2,3] 4) ?_;refine bz ?_;refine zD 4 J (dt (iT a6) J (bI [0] [] [0,1,2,3] 4 J)) ?_;rintro _ _ ⟨_,⟨b5,b6,b7,rfl,rfl⟩,rfl⟩;refine ng (cS [3,4] 5) ?_;refine bz ?_;refine yY [5,6,7,8,10] ?_;refine zO 11 J (ao (us:=[iV y20_1.2.1.Zh,iV y20_1.2.1.N,.string y20_1.2.1.S]) (cs':=[iV y20_1.2.1.Zh,iV y20_1.2.1.N,.string y20_1.2.1.S]) 2 J J J J size28.out J J J) ?_;rintro _ _ rfl;refine ng (cS [3,4] 5) ?_;refine bz ?_;refine zE 12 J (ck J) ?_;exact aY O<|qx<|⟨_,_,.inr (⟨y20_1.1,y20_1.2.1.Zh,y20_1.2.1.N,y20_1.2.1.S,y20_1.2.2,b5,b6,b7,e7,h,J,J⟩),sA,cS [0,2,4] 5⟩
 rintro _ _ (⟨p4,p5,p6,B3,h,rfl,rfl⟩|⟨p9,p13,a7,p15,e0,B8,e3,e4,e1,h,rfl,rfl⟩)
 ·refine aB<|Y ?_;refine jE J<|Y ?_;obtain rfl:=bJ h;exact nI J J (cS [] 2) ⟨J,J⟩
 refine aB<|Y ?_
 refine JW 10 33 23 h (fun _ b0 h=> ?_) (fun _ b0 h=> ?_) fun g3 h=> ?_
 ·refine Y ?_;obtain rfl:=bJ h;exact bD sA (cS [0,1,2] 3)
 ·refine Y ?_;refine sv (aD (us:=[iV p13,iV a7,.string p15]) 1 J J agg28.out J) J (cG b0 J) J ?_;obtain ⟨g4,k,h⟩:=aa h;refine CU (aX (vO k) J (t5 (zB (i:=0) J) (t5 (cQ (i:=2) J J) ax)) xB) J (cG b0 J) J ?_;rintro _ _ ⟨_,⟨g5,g6,g7,rfl,rfl⟩,rfl⟩;obtain ⟨d1,k,h⟩:=aa h;refine gU (aX (pZ k) J (ax) nm) (cG b0 J) ?_;obtain ⟨d2,k,h⟩:=aa h;refine gU (aX (pZ k) J (ax) nm) (cG b0 J) ?_;obtain ⟨d3,k,h⟩:=aa h;refine gU (aX (iW k) J (ax) o6) (cG b0 J)<|CU (aw (R:=gQ) (vss:=[[iV d1.Zh,iV d1.N,.string d1.S],[iV d2.Zh,iV d2.N,.string d2.S],[iV d3.Zh,iV d3.N,.string d3.S]]) (xs:=[d1,d2,d3]) J (P9 _ _ _ _ _ _ _ _ _) J J (fun _ _ hr=> .cons J (.cons J (.cons J All2.nil)))) J (cG b0 J) J ?_;rintro _ _ ⟨g8,g9,h0,rfl,rfl⟩;obtain ⟨h1,k,h⟩:=aa h;refine gU (aX (yw k) J (t5 (ju (i:=1) J) (t5 (ju (i:=0) J) ax)) Ak) (cG b0 J)<|Y ?_;obtain rfl:=bJ h;exact bD sA (cS [2,3,4] 5)
 refine Y ?_;refine gH J h ?_ ?_<;>intro h
 ·refine Y ?_;obtain rfl:=bJ h;exact nI J J (cS [] 3) ⟨J,J⟩
 refine Y ?_;refine aB<|be O _ (ae _)<|yY [0,1] ?_;obtain ⟨h2,k,h⟩:=aa h;refine zD 2 J (aX (pZ k) J (ax) nm) ?_;rintro _ _ ⟨_,⟨rfl,rfl⟩,rfl⟩;refine ⟨_,ae _,ae _,?_⟩;obtain ⟨h3,k,h⟩:=aa h;refine zD 3 J (aX (DK k) J (ax) Ac) ?_;rintro _ _ ⟨_,⟨rfl,rfl⟩,rfl⟩;refine ⟨_,ae _,ae _,?_⟩;obtain ⟨h4,k,h⟩:=aa h;refine I8 4 J O O (dt (sL k) J (bI [2] [0] [1,2] 3 J)) ?_;rintro _ _ ⟨_,⟨rfl,rfl⟩,rfl⟩;refine bz ?_;refine yY [5,6,7,8,9] ?_;refine aY O<|Y ?_;refine gR (aD (us:=[iV p13,iV a7,.string p15]) 1 J J agg28.out J) ?_;obtain ⟨h5,k,h⟩:=aa h;refine gV (aX (xl k) J (t5 (zB (i:=0) J) ax) zf)<|Y ?_;refine gR (aD (us:=[iV p13,iV a7,.string p15]) 1 J J agg28.out J) ?_;obtain ⟨h6,k,h⟩:=aa h;refine gV (dt (pp k) J (bI [2] [0] [1,2] 3 J))<|oS ?_;refine Y ?_;refine aB<|Y ?_
 refine JW 2 52 50 h (fun _ f4 h=> ?_) (fun _ f4 h=> ?_) fun h7 h=> ?_
 ·refine Y ?_;obtain rfl:=bJ h;exact bD sA (cS [0,1,2] 3)
 ·refine Y ?_;obtain rfl:=bJ h;exact bD sA (cS [0,1,2] 3)
 refine Y ?_
 refine JW 3 56 53 h (fun _ f6 h=> ?_) (fun _ f6 h=> ?_) fun h8 h=> ?_
 ·refine Y ?_;obtain rfl:=bJ h;exact bD sA (cS [0,1,2] 3)
 ·refine Y ?_;obtain rfl:=bJ h;exact bD sA (cS [0,1,2] 3)
 refine Y ?_
 refine JW 3 60 57 h (fun _ f9 h=> ?_) (fun _ f9 h=> ?_) fun h9 h=> ?_
 ·refine Y ?_;obtain rfl:=bJ h;exact bD sA (cS [0,1,2] 3)
 ·refine Y ?_;obtain rfl:=bJ h;exact bD sA (cS [0,1,2] 3)
 refine Y ?_
 refine JW 9 70 61 h (fun _ b9 h=> ?_) (fun _ b9 h=> ?_) fun i0 h=> ?_
 ·refine Y ?_;obtain rfl:=bJ h;exact bD sA (cS [0,1,2] 3)
 ·refine Y ?_;refine sv (aD (us:=[iV p13,iV a7,.string p15]) 1 J J agg28.out J) J (cG b9 J) J ?_;obtain ⟨i1,k,h⟩:=aa h;refine CU (aX (vO k) J (t5 (zB (i:=0) J) (t5 (cQ (i:=2) J J) ax)) xB) J (cG b9 J) J ?_;rintro _ _ ⟨_,⟨i2,i3,i4,rfl,rfl⟩,rfl⟩;obtain ⟨d4,k,h⟩:=aa h;refine gU (aX (pZ k) J (ax) nm) (cG b9 J) ?_;obtain ⟨d6,k,h⟩:=aa h;refine gU (aX (iW k) J (ax) o6) (cG b9 J)<|CU (aw (R:=gQ) (vss:=[[iV d4.Zh,iV d4.N,.string d4.S],[iV d6.Zh,iV d6.N,.string d6.S]]) (xs:=[d4,d6]) J (Qa _ _ _ _ _ _) J J (fun _ _ hr=> .cons J (.cons J All2.nil))) J (cG b9 J) J ?_;rintro _ _ ⟨i5,i6,i7,rfl,rfl⟩;obtain ⟨i8,k,h⟩:=aa h;refine gU (aX (yw k) J (t5 (ju (i:=1) J) (t5 (ju (i:=0) J) ax)) Ak) (cG b9 J)<|Y ?_;obtain rfl:=bJ h;exact bD sA (cS [2,3,4] 5)
 refine Y ?_;refine gH J h ?_ ?_<;>intro h
 ·refine Y ?_;obtain rfl:=bJ h;exact nI J J (cS [] 3) ⟨J,J⟩
 refine Y ?_;refine aB<|be O _ (ae _)<|yY [0,1] ?_;obtain ⟨i9,k,h⟩:=aa h;refine zD 2 J (aX (pZ k) J (ax) nm) ?_;rintro _ _ ⟨_,⟨rfl,rfl⟩,rfl⟩;refine ⟨_,ae _,ae _,?_⟩;obtain ⟨j0,k,h⟩:=aa h;refine zD 3 J (aX (DK k) J (ax) Ac) ?_;rintro _ _ ⟨_,⟨rfl,rfl⟩,rfl⟩;refine ⟨_,ae _,ae _,?_⟩;obtain ⟨j1,k,h⟩:=aa h;refine I8 4 J O O (dt (sL k) J (bI [2] [0] [1,2] 3 J)) ?_;rintro _ _ ⟨_,⟨rfl,rfl⟩,rfl⟩;refine bz ?_;refine yY [5,6,7,8,9] ?_;refine aY O<|Y ?_;refine fU 80 J (fun c9=> ?_) (fun c9=> ?_)
 ·replace h:=cZ c9 h;refine Y ?_;refine sv (aD (us:=[iV p13,iV a7,.string p15]) 1 J J agg28.out J) J (bW c9 J) J ?_;obtain ⟨j2,k,h⟩:=aa h;refine gU (dt (pp k) J (bI [2] [0] [1,2] 3 J)) (bW c9 J)<|oS ?_;refine Y ?_
  refine JW 5 91 86 h (fun _ e2 h=> ?_) (fun _ e2 h=> ?_) fun j3 h=> ?_
  ·refine Y ?_;refine sv (aD (us:=[iV p13,iV a7,.string p15]) 1 J J agg28.out J) J (bW e2 J) J ?_;obtain ⟨j4,k,h⟩:=aa h;refine gU (aX (xl k) J (t5 (zB (i:=0) J) ax) zf) (bW e2 J)<|Y ?_;obtain rfl:=bJ h;exact bD sA (cS [0,1,2] 3)
  ·refine Y ?_;obtain rfl:=bJ h;exact bD sA (cS [0,1,2] 3)
  refine Y ?_;obtain rfl:=bJ h;exact nI J J (cS [] 3) ⟨J,J⟩
 replace h:=db c9 h;refine Y ?_;obtain rfl:=bJ h;exact nI J J (cS [] 3) ⟨J,J⟩
theorem vy {r:Bool}: ∀v post,((fun (u:Value) (post:Xi)=>u=.bool r/\post=[])) v post-> ∀c∈post,iS c:=by
 rintro _ _ ⟨rfl,rfl⟩;exact ax
def gl (a0:WP)(a1:WZ):Option (Int×WP):=
 (gt N a0.Zv a1).bind fun y8=>some (y8.1,(⟨a0.ZI,a0.ZB,(),y8.2,a0.Zw,a0.ZF,a0.ZL,a0.ZM,a0.ZN,a0.ZG,a0.ZH⟩:WP))
theorem zW {N:Nat}{a1:WZ}{r:Int×WP}(h:gl N a0 a1=some r):Okc Xk 10 [pV B1 0,(aF a1)] ([ah B1 81 (At a0 B2 B3 A4 n4 c4 A5 n5 c5 A6 n6 c6),oDHeap B2 a0.Zv,oDTable B3 a0.Zw,pQ A4 n4 c4 a0.ZF,AV A5 n5 c5 a0.ZG,pQ A6 n6 c6 a0.ZH]) (fun u post=> ∃A0 n0 c0 A1 n1 c1 A2 n2 c2,u=iV r.1/\post=[ah B1 81 (At r.2 B2 B3 A0 n0 c0 A1 n1 c1 A2 n2 c2),oDHeap B2 r.2.Zv,oDTable B3 r.2.Zw,pQ A0 n0 c0 r.2.ZF,AV A1 n1 c1 r.2.ZG,pQ A2 n2 c2 r.2.ZH]):=by
 refine ce Tryz.func10 ?_;intro B7;refine sY ?_;refine fS (dO J WC) ?_;refine fY J<|ab ?_;refine aB<|be O ([ah B7 28 (bU a1),ah B1 81 (At a0 B2 B3 A4 n4 c4 A5 n5 c5 A6 n6 c6),oDTable B3 a0.Zw,pQ A4 n4 c4 a0.ZF,AV A5 n5 c5 a0.ZG,pQ A6 n6 c6 a0.ZH]) (cS [0,1,3,4,5,6] 7) ?_;refine ab ?_;obtain ⟨y8,k,h⟩:=aa h;refine zD 5 J (oC (dU k)) ?_;rintro _ _ ⟨_,⟨rfl,rfl⟩,rfl⟩;refine bL ?_;exact eY
theorem xI {N:Nat}{a1:WZ}{r:Int×WP}(h:gl N a0 a1=some r){B1 B2 B3:Nat}:Okc Xk 10 [pV B1 0,(aF a1)] ([oDWorld B1 B2 B3 a0]) (fun u post=>u=iV r.1/\post=[oDWorld B1 B2 B3 r.2]):=Mk 0 rfl (fun _=>zW h)
def zv (N:Nat)(a0:W8):Option W6:=
 aI (bm (([]:List WZ).length+a0.length)) (some (⟨true,false,([]:List WZ)++a0,[]⟩:W6))
theorem KP {N:Nat}{a0:W8}{r:W6}(h:zv N a0=some r):Okc Xk 11 [W A1 n1 c1] ([aQ A1 n1 c1 a0]) (fun u post=> ∃A0 n0 c0 A1 n1 c1,u=.agg #[.bool r.Ext,.bool r.Zz,W A0 n0 c0,W A1 n1 c1]/\post=[bj A0 n0 c0 r.Zs,bf ip 50 (W A1 n1 c1) r.Zt]):=by
 refine ce Tryz.func11 ?_;intro B2;refine ab ?_
 refine sI (aw (R:=ay) (vss:=[]) (xs:=[]) J (zb) J J (fun _ _ hr=>All2.nil)) fun A3 n3 c3=> ?_
 obtain ⟨q4,h⟩:=ac h
 refine sI (az 0 2 J J aE J J t9 sw J J q4) fun A5 n5 c5=> ?_
 obtain rfl:=bJ h;exact kL (rs:=[.cell 2 35]) (vs:=[.agg #[.bool true,.bool false,W A5 n5 c5,W none 0 0]]) J (.cons (dy 1 J J agg35.out) .nil) J ((bT ip 50 _).trans (cS [1,0] 4)) ⟨_,_,_,_,_,_,J,J⟩
theorem Is {r:W6}: ∀v post,((fun (u:Value) (post:Xi)=> ∃A0 n0 c0 A1 n1 c1,u=.agg #[.bool r.Ext,.bool r.Zz,W A0 n0 c0,W A1 n1 c1]/\post=[bj A0 n0 c0 r.Zs,bf ip 50 (W A1 n1 c1) r.Zt])) v post-> ∀c∈post,iS c:=by
 rintro _ _ ⟨_,_,_,_,_,_,rfl,rfl⟩;exact t5 qG (t5 qG (ax))
def ku (a0:W4):Option W8:=
 (aR N a0).bind fun y8=>bif y8 then (some []) else ((dz N a0.ZA).bind fun a6=>some a6)
theorem AX {N:Nat}{a0:W4}{r:W8}(h:ku N a0=some r):Okc Xk 40 [pV B1 0] ([aW B1 124 [W A2 n2 c2,W A3 n3 c3,W A4 n4 c4,W A5 n5 c5,pV B6 0],iE A2 n2 c2 a0.m_.Zp,iE A3 n3 c3 a0.m_.Zr,aQ A4 n4 c4 a0.ZA,aQ A5 n5 c5 a0.ZC,aW B6 213 [.map (some M7)],qU jJ rb M7 a0.ZD.at_]) (fun u post=> ∃A0 n0 c0,u=W A0 n0 c0/\post=[bj A0 n0 c0 r]):=by
 refine ce Tryz.func40 ?_;refine sZ ?_
 refine cR h (fun _ k=>dj k) fun y8 h=> ?_
 refine gH J h ?_ ?_<;>intro h
 ·refine ab ?_;obtain rfl:=bJ h;exact nI J J ((bT ay 28 _).trans (cS [0] 8)) ⟨_,_,_,J,J⟩
 refine LD h (fun _ k=>jT k) fun a6 a7 a8 b0 h=> ?_
 exact eN
theorem yK {N:Nat}{a0:W4}{r:W8}(h:ku N a0=some r):Okc Xk 40 [pV B1 0] ([pDHeap B1 a0]) (fun u post=> ∃A0 n0 c0,u=W A0 n0 c0/\post=[bj A0 n0 c0 r]):=NM 0 rfl (fun _=>AX h)
def eO (a0:WP):Option Int:=
 (ku N a0.Zv).bind fun y7=>some (y7.length:Int)
theorem zZ {N:Nat}{r:Int}(h:eO N a0=some r):Okc Xk 14 [pV B1 0] ([aW B1 81 (At a0 B2 B3 A4 n4 c4 A5 n5 c5 A6 n6 c6),pDHeap B2 a0.Zv,pDTable B3 a0.Zw,iy ta (W A4 n4 c4) a0.ZF,iy nP (W A5 n5 c5) a0.ZG,iy ta (W A6 n6 c6) a0.ZH]) (fun u post=>u=iV r/\post=[]):=by
 refine ce Tryz.func14 ?_;refine sZ ?_;refine fS (dO J WC) ?_
 refine fY J<|LD h (fun _ k=>yK k) fun y7 A8 n8 c8 h=> ?_
 exact eN
theorem ra {N:Nat}{r:Int}(h:eO N a0=some r){B1 B2 B3:Nat}:Okc Xk 14 [pV B1 0] ([pDWorld B1 B2 B3 a0]) (fun u post=>u=iV r/\post=[]):=NM 0 rfl (fun _=>zZ h)
def jd (a0:WP)(a1:Int):Option WZ:=
 (di N a0.Zv a1).bind fun y8=>some y8
theorem BD {N:Nat}{r:WZ}(h:jd N a0 a1=some r):Okc Xk 13 [pV B1 0,iV a1] ([aW B1 81 (At a0 B2 B3 A4 n4 c4 A5 n5 c5 A6 n6 c6),pDHeap B2 a0.Zv,pDTable B3 a0.Zw,iy ta (W A4 n4 c4) a0.ZF,iy nP (W A5 n5 c5) a0.ZG,iy ta (W A6 n6 c6) a0.ZH]) (fun u post=>u=(aF r)/\post=[]):=by
 refine ce Tryz.func13 ?_;intro B7;refine sY ?_;refine fS (dO J WC) ?_
 refine fY J<|cR h (fun _ k=>iG k) fun y8 h=> ?_
 exact eN
theorem sQ {N:Nat}{r:WZ}(h:jd N a0 a1=some r){B1 B2 B3:Nat}:Okc Xk 13 [pV B1 0,iV a1] ([pDWorld B1 B2 B3 a0]) (fun u post=>u=(aF r)/\post=[]):=NM 0 rfl (fun _=>BD h)
def oP (N:Nat)(a1 p13:Int):Option Int:=
 bif decide (a1<=p13) then (some (-1)) else (some p13)
def qr (a0 a1 p7:Int):Option Int:=
 (bif decide (65<=a0) then (some (decide (a0<=70))) else (some false)).bind fun a6=>bif a6 then (aI (in64 ((IntKind.i64.wrap a0) - 65)) (aI (in64 (((IntKind.i64.wrap a0) - 65)+10)) (oP N a1 (((IntKind.i64.wrap a0) - 65)+10)))) else (oP N a1 p7)
def qt (a0 a1 p2:Int):Option Int:=
 (bif decide (97<=a0) then (some (decide (a0<=102))) else (some false)).bind fun b8=>bif b8 then (aI (in64 ((IntKind.i64.wrap a0) - 97)) (aI (in64 (((IntKind.i64.wrap a0) - 97)+10)) (qr N a0 a1 (((IntKind.i64.wrap a0) - 97)+10)))) else (qr N a0 a1 p2)
def vc (a0 a1:Int):Option Int:=
 (bif decide (48<=a0) then (some (decide (a0<=57))) else (some false)).bind fun b3=>bif b3 then (aI (in64 ((IntKind.i64.wrap a0) - 48)) (qt N a0 a1 ((IntKind.i64.wrap a0) - 48))) else (qt N a0 a1 (-1))
theorem Iw {N:Nat}{a0 r:Int}(h:vc N a0 a1=some r):Okc Xk 187 [.int .u8 a0,iV a1] ([]) (fun u post=>u=iV r/\post=[]):=by
 refine ce Tryz.func187 ?_;refine ak (fun s L=> ∃p2,qt N a0 a1 p2=some r/\s=[(0,.int .u8 a0),(1,iV a1),(4,iV 0),(5,iV p2)]/\L=[]) ?_ ?_
 ·refine ab ?_;refine gS 3 11 8 h ?_;intro b3 h;refine dk h ?_ ?_<;>intro h
  ·refine ab ?_;refine gE (xx J J WB) ?_;obtain ⟨q5,h⟩:=ac h;exact jY
  exact jY
 rintro _ _ ⟨p2,h,rfl,rfl⟩;refine ak (fun s L=> ∃p7,qr N a0 a1 p7=some r/\s=[(0,.int .u8 a0),(1,iV a1),(4,iV 0),(5,iV p7)]/\L=[]) ?_ ?_
 ·refine ab ?_;refine gS 3 20 17 h ?_;intro b8 h;refine dk h ?_ ?_<;>intro h
  ·refine ab ?_;refine gE (xx J J WB) ?_;obtain ⟨a6,h⟩:=ac h;refine ab ?_;obtain ⟨a7,h⟩:=ac h;exact jY
  exact jY
 rintro _ _ ⟨p7,h,rfl,rfl⟩;refine ak (fun s L=> ∃p13,oP N a1 p13=some r/\s=[(1,iV a1),(4,iV 0),(5,iV p13)]/\L=[]) ?_ ?_
 ·refine ab ?_;refine gS 3 30 27 h ?_;intro a8 h;refine dk h ?_ ?_<;>intro h
  ·refine ab ?_;refine gE (xx J J WB) ?_;obtain ⟨b0,h⟩:=ac h;refine ab ?_;obtain ⟨b5,h⟩:=ac h;exact jY
  exact jY
 rintro _ _ ⟨p13,h,rfl,rfl⟩;refine sZ ?_;refine gH J h ?_ ?_<;>intro h
 ·exact eY
 exact eY
def wT (N:Nat)(a0:ByteArray)(p2:Int):Option (Int×Bool):=
 some (p2,!(a0.toList==(⟨#[]⟩:ByteArray).toList))
def tp (N:Nat)(a6:Int->Int->Option (Int×Bool))(a0:ByteArray)(a1 p5 p8:Int):Option (Int×Bool):=
 aI (in64 (p5+1)) (a6 p8 (p5+1))
def rR (a6:Int->Int->Option (Int×Bool))(a0:ByteArray)(a1 p5 p13:Int):Option (Int×Bool):=
 bif decide (9007199254740992<p13) then (tp N a6 a0 a1 p5 (-1)) else (tp N a6 a0 a1 p5 p13)
def mc (N:Nat)(a0:ByteArray)(a1:Int):Nat->Int->Int->Option (Int×Bool)
 |0,_,_=>none
 |m3+1,p4,p5=>bif decide (p5<(a0.size:Int)) then ((F5 a0 p5).bind fun x9=>(vc N x9 a1).bind fun a6=>bif decide (a6<0) then (some (0,false)) else (bif decide (0<=p4) then (aI (in64 (p4*a1)) (aI (in64 ((p4*a1)+a6)) (rR N (mc N a0 a1 m3) a0 a1 p5 ((p4*a1)+a6)))) else (rR N (mc N a0 a1 m3) a0 a1 p5 p4))) else (wT N a0 p4)
def yC (a0:ByteArray)(a1:Int):Option (Int×Bool):=
 mc N a0 a1 N 0 0
theorem Ix {N:Nat}{a0:ByteArray}{r:Int×Bool}(h:yC N a0 a1=some r):Okc Xk 152 [.string a0,iV a1] ([]) (fun u post=>u=.tuple #[iV r.1,.bool r.2]/\post=[]):=by
 refine ce Tryz.func152 ?_;refine ak (fun s L=> ∃p2,wT N a0 p2=some r/\s=[(0,.string a0),(4,iV 0),(5,.bool false),(6,iV p2)]/\L=[]) ?_ ?_
 ·refine ab ?_;refine lK (fun m s L=> ∃(p4:Int) (p5:Int),mc N a0 a1 m p4 p5=some r/\s=[(0,.string a0),(1,iV a1),(4,iV 0),(5,.bool false),(6,iV p4),(7,iV p5)]/\L=[]) N ?_;rintro m3 _ _ ⟨p4,p5,h,rfl,rfl⟩;rw [mc.eq_2] at h;refine sZ ?_;refine fS (qH J Wz) ?_;refine gH J h ?_ ?_<;>intro h
  ·refine ab ?_;refine ak (fun s L=> ∃p8,tp N (mc N a0 a1 m3) a0 a1 p5 p8=some r/\s=[(0,.string a0),(1,iV a1),(4,iV 0),(5,.bool false),(6,iV p8),(7,iV p5)]/\L=[]) ?_ ?_
   ·refine ab ?_;obtain ⟨x9,a7,h⟩:=aa h;refine fS (tO J J Wz a7) ?_
    refine cR h (fun _ k=>Iw k) fun a8 h=> ?_
    refine sZ ?_;refine gH J h ?_ ?_<;>intro h
    ·exact eY
    refine ab ?_;refine ak (fun s L=> ∃p13,rR N (mc N a0 a1 m3) a0 a1 p5 p13=some r/\s=[(0,.string a0),(1,iV a1),(4,iV 0),(5,.bool false),(6,iV p13),(7,iV p5)]/\L=[]) ?_ ?_
    ·refine dk h ?_ ?_<;>intro h
     ·refine ab ?_;obtain ⟨a6,h⟩:=ac h;refine fS (rD J J a6.1 a6.2) ?_;obtain ⟨b0,h⟩:=ac h;exact jY
     exact jY
    rintro _ _ ⟨p13,h,rfl,rfl⟩;refine dk h ?_ ?_<;>intro h
    ·exact jY
    exact jY
   rintro _ _ ⟨p8,h,rfl,rfl⟩;refine ab ?_;obtain ⟨b5,h⟩:=ac h;exact lY
  exact jY
 rintro _ _ ⟨p2,h,rfl,rfl⟩;refine ab ?_;refine fS (Gi J J) ?_;exact eN
end
section
variable {A1 A2 A5 A6:Option Addr}{B1 B2 B3 c1 c2 c5 c6 n1 n2 n5 n6:Nat}
open Go.RowKit Asn
set_option maxRecDepth 20000
def uY (a0:ByteArray):Option (Int×Bool):=
 (bif a0.toList==(⟨#[]⟩:ByteArray).toList then (some true) else (some (decide (10<(a0.size:Int))))).bind fun b1=>(bif b1 then (some true) else ((F5 a0 0).bind fun x3=>(bif decide (x3=48) then (some (decide (1<(a0.size:Int)))) else (some false)).bind fun b4=>some b4)).bind fun b2=>bif b2 then (some (0,false)) else ((yC N a0 10).bind fun y6=>(bif !y6.2 then (some true) else (some (decide (4294967294<y6.1)))).bind fun b7=>bif b7 then (some (0,false)) else (some (y6.1,true)))
theorem Iv {N:Nat}{a0:ByteArray}{r:Int×Bool}(h:uY N a0=some r):Okc Xk 109 [.string a0] ([]) (fun u post=>u=.tuple #[iV r.1,.bool r.2]/\post=[]):=by
 refine ce Tryz.func109 ?_;refine sZ ?_;refine fS (sq J J) ?_
 refine xv 4 12 8 h (fun _ g1 h=> ?_) fun b1 h=> ?_
 ·refine ab ?_;exact eP (qH J Wz) J (cG g1 J) J<|gY
 refine ab ?_
 refine xv 9 22 13 h (fun _ g2 h=> ?_) fun b2 h=> ?_
 ·refine ab ?_;obtain ⟨x3,a6,h⟩:=aa h;refine eP (tO J J Wz a6) J (cG g2 J) J<|ab ?_
  refine oz 4 21 17 h (fun _ g4 h=> ?_) fun b4 h=> ?_
  ·refine ab ?_;exact eP (qH J Wz) J (bW g4 J) J<|gY
  exact gY
 refine dk h ?_ ?_<;>intro h
 ·exact eY
 refine cR h (fun _ k=>Ix k) fun y6 h=> ?_
 refine sZ ?_;refine gS 3 33 30 h ?_;intro b7 h;refine dk h ?_ ?_<;>intro h
 ·exact eY
 exact eY
def pM (a0:WX):Option Bool:=
 bif decide (a0.Zh=0) then ((bif decide (0<=a0.N) then (some (decide (a0.N<=4294967294))) else (some false)).bind fun b3=>(bif b3 then (some (a0.S.toList==(⟨#[]⟩:ByteArray).toList)) else (some false)).bind fun b4=>some b4) else (bif decide (a0.Zh=1) then ((uY N a0.S).bind fun y6=>(bif decide (a0.N=0) then (some (!y6.2)) else (some false)).bind fun b7=>(bif b7 then (some (decide ((a0.S.size:Int)<=65536))) else (some false)).bind fun b8=>some b8) else (bif decide (a0.Zh=2) then ((bif decide (1<=a0.N) then (some (a0.S.toList==(⟨#[]⟩:ByteArray).toList)) else (some false)).bind fun a6=>some a6) else (some false)))
theorem BN {N:Nat}{a0:WX}{r:Bool}(h:pM N a0=some r):Okc Xk 69 [(eI a0)] ([]) (fun u post=>u=.bool r/\post=[]):=by
 refine ce Tryz.func69 ?_;intro B1;refine sY ?_;refine gH J h ?_ ?_<;>intro h
 ·refine ab ?_;refine gS 4 16 12 h ?_;intro b3 h;refine ab ?_
  refine oz 4 21 17 h (fun _ g4 h=> ?_) fun b4 h=> ?_
  ·refine ab ?_;exact eP (sq J J) J (bW g4 J) J<|gY
  exact eY
 refine dk h ?_ ?_<;>intro h
 ·refine cR h (fun _ k=>Iv k) fun y6 h=> ?_
  refine gS 3 36 33 h ?_;intro b7 h;refine ab ?_
  refine oz 5 42 37 h (fun _ g8 h=> ?_) fun b8 h=> ?_
  ·refine ab ?_;exact eP (qH J Wz) J (bW g8 J) J<|gY
  exact eY
 refine dk h ?_ ?_<;>intro h
 ·refine ab ?_
  refine oz 4 52 48 h (fun _ a6 h=> ?_) fun a7 h=> ?_
  ·refine ab ?_;exact eP (sq J J) J (bW a6 J) J<|gY
  exact eY
 exact eY
theorem yx {r:Bool}: ∀v post,((fun (u:Value) (post:Xi)=>u=.bool r/\post=[])) v post-> ∀c∈post,iS c:=by
 rintro _ _ ⟨rfl,rfl⟩;exact ax
def bP (N:Nat)(a0 a1:Int):Option Bool:=
 aI ((a1:Int)≠0/\in64 (a0.tdiv a1)) (some (decide ((a0.tdiv a1).tmod 2=1)))
theorem cW {N:Nat}{a0:Int}{r:Bool}(h:bP N a0 a1=some r):Okc Xk 112 [iV a0,iV a1] ([]) (fun u post=>u=.bool r/\post=[]):=by
 refine ce Tryz.func112 ?_;obtain ⟨q1,h⟩:=ac h;refine gE (Dt J J q1.1 q1.2.1 q1.2.2)<|fS (sJ J J (by decide)) ?_;exact eN
def bc (a0:WW)(a1:Int):Option Bool:=
 (bP N a0.Has a1).bind fun y2=>some y2
theorem bM {N:Nat}{a0:WW}{r:Bool}(h:bc N a0 a1=some r):Okc Xk 113 [(fT a0),iV a1] ([]) (fun u post=>u=.bool r/\post=[]):=by
 refine ce Tryz.func113 ?_;intro B1
 refine cR h (fun _ k=>cW k) fun y2 h=> ?_
 exact eN
def kE (a0:WW):Option Bool:=
 (bc N a0 1).bind fun y2=>(bif y2 then (some true) else ((bc N a0 2).bind fun y4=>some y4)).bind fun b3=>some b3
theorem yt {N:Nat}{a0:WW}{r:Bool}(h:kE N a0=some r):Okc Xk 110 [(fT a0)] ([]) (fun u post=>u=.bool r/\post=[]):=by
 refine ce Tryz.func110 ?_;intro B1
 refine cR h (fun _ k=>bM k) fun y2 h=> ?_
 refine xv 3 8 5 h (fun _ g3 h=> ?_) fun b3 h=> ?_
 ·refine cR h (fun _ k=>bM k) fun y4 h=> ?_
  exact gY
 exact eY
def dE (a0:WW):Option Bool:=
 (bc N a0 4).bind fun y2=>(bif y2 then (some true) else ((bc N a0 8).bind fun y4=>some y4)).bind fun b3=>some b3
theorem o7 {N:Nat}{a0:WW}{r:Bool}(h:dE N a0=some r):Okc Xk 111 [(fT a0)] ([]) (fun u post=>u=.bool r/\post=[]):=by
 refine ce Tryz.func111 ?_;intro B1
 refine cR h (fun _ k=>bM k) fun y2 h=> ?_
 refine xv 3 8 5 h (fun _ g3 h=> ?_) fun b3 h=> ?_
 ·refine cR h (fun _ k=>bM k) fun y4 h=> ?_
  exact gY
 exact eY
def rj (N:Nat)(a0:WZ)(a1:Bool):Option Bool:=
 bif !a1 then (some (decide (a0=(⟨0,0,⟨#[]⟩⟩:WZ)))) else ((bif decide (a0.Zh=0) then (some true) else (some (decide (a0.Zh=7)))).bind fun b3=>some b3)
theorem DU {N:Nat}{a0:WZ}{a1 r:Bool}(h:rj N a0 a1=some r):Okc Xk 114 [(aF a0),.bool a1] ([]) (fun u post=>u=.bool r/\post=[]):=by
 refine ce Tryz.func114 ?_;intro B1;refine sY ?_;refine gH J h ?_ ?_<;>intro h
 ·refine ab ?_;refine fS (wq (x:=a0) (y:=(⟨0,0,⟨#[]⟩⟩:WZ)) J J) ?_;exact eN
 refine ab ?_;refine gS 4 17 13 h ?_;intro b3 h;exact eY
def dZ (a0:WW):Option Bool:=
 (bif decide (a0.Has<0) then (some true) else (some (decide (63<a0.Has)))).bind fun b2=>(bif b2 then (some true) else (some (decide (a0.Zk<0)))).bind fun b3=>(bif b3 then (some true) else (some (decide (7<a0.Zk)))).bind fun b4=>(bif b4 then (some true) else ((kE N a0).bind fun y6=>(bif y6 then ((dE N a0).bind fun y8=>some y8) else (some false)).bind fun b7=>some b7)).bind fun b5=>bif b5 then (some false) else ((bP N a0.Zk 1).bind fun a6=>(bif a6 then ((bc N a0 2).bind fun a7=>some (!a7)) else (some false)).bind fun a8=>(bif a8 then (some true) else ((bP N a0.Zk 2).bind fun b0=>(bif b0 then ((bc N a0 16).bind fun b6=>some (!b6)) else (some false)).bind fun b9=>some b9)).bind fun c7=>(bif c7 then (some true) else ((bP N a0.Zk 4).bind fun c8=>(bif c8 then ((bc N a0 32).bind fun c9=>some (!c9)) else (some false)).bind fun d0=>some d0)).bind fun d1=>bif d1 then (some false) else ((bc N a0 1).bind fun d2=>(bif !d2 then (some (!decide (a0.Value=(⟨0,0,⟨#[]⟩⟩:WZ)))) else (some false)).bind fun d3=>(bif d3 then (some true) else (some (decide (a0.Value.Zh<0)))).bind fun d4=>(bif d4 then (some true) else (some (decide (7<a0.Value.Zh)))).bind fun d6=>bif d6 then (some false) else ((bc N a0 4).bind fun e0=>(rj N a0.Zx e0).bind fun e1=>(bif e1 then ((bc N a0 8).bind fun e2=>(rj N a0.Zy e2).bind fun e3=>some e3) else (some false)).bind fun e4=>some e4)))
theorem It {N:Nat}{a0:WW}{r:Bool}(h:dZ N a0=some r):Okc Xk 70 [(fT a0)] ([]) (fun u post=>u=.bool r/\post=[]):=by
 refine ce Tryz.func70 ?_;intro B1;refine sY ?_;refine gS 4 10 6 h ?_;intro b2 h;refine ab ?_;refine gS 4 15 11 h ?_;intro b3 h;refine ab ?_;refine gS 4 20 16 h ?_;intro b4 h;refine ab ?_;obtain ⟨b5,d6,h⟩:=aa h;refine ii 7 28 b5 ?_ ?_
 ·clear h;refine fU 21 J (fun g5=> ?_) (fun g5=> ?_)
  ·have h:=cZ g5 d6;exact gY
  have h:=db g5 d6;refine ab ?_;obtain ⟨y6,k,h⟩:=aa h;refine gU (oR (yt k)) (cG g5 J) ?_;refine ab ?_;obtain ⟨b7,e0,h⟩:=aa h;refine ii 3 27 b7 ?_ ?_
  ·clear h;refine fU 24 J (fun g7=> ?_) (fun g7=> ?_)
   ·have h:=cZ g7 e0;refine ab ?_;obtain ⟨y8,k,h⟩:=aa h;refine gU (oR (o7 k)) (bW g7 J) ?_;exact gY
   have h:=db g7 e0;exact gY
  exact gY
 refine dk h ?_ ?_<;>intro h
 ·exact eY
 refine sY ?_;obtain ⟨e8,k,h⟩:=aa h;refine Ej (oR (cW k)) ?_;obtain ⟨e1,a7,h⟩:=aa h;refine ii 4 36 e1 ?_ ?_
 ·clear h;refine fU 32 J (fun c9=> ?_) (fun c9=> ?_)
  ·have h:=cZ c9 a7;refine ab ?_;obtain ⟨e9,k,h⟩:=aa h;refine gU (oR (bM k)) (bW c9 J) ?_;exact gY
  have h:=db c9 a7;exact gY
 refine ab ?_;obtain ⟨e2,a8,h⟩:=aa h;refine ii 9 46 e2 ?_ ?_
 ·clear h;refine fU 37 J (fun d0=> ?_) (fun d0=> ?_)
  ·have h:=cZ d0 a8;exact gY
  have h:=db d0 a8;refine ab ?_;obtain ⟨f0,k,h⟩:=aa h;refine gU (oR (cW k)) (cG d0 J) ?_;refine ab ?_;obtain ⟨e3,b0,h⟩:=aa h;refine ii 4 45 e3 ?_ ?_
  ·clear h;refine fU 41 J (fun d1=> ?_) (fun d1=> ?_)
   ·have h:=cZ d1 b0;refine ab ?_;obtain ⟨f1,k,h⟩:=aa h;refine gU (oR (bM k)) (bW d1 J) ?_;exact gY
   have h:=db d1 b0;exact gY
  exact gY
 refine ab ?_;obtain ⟨e4,b6,h⟩:=aa h;refine ii 9 56 e4 ?_ ?_
 ·clear h;refine fU 47 J (fun d2=> ?_) (fun d2=> ?_)
  ·have h:=cZ d2 b6;exact gY
  have h:=db d2 b6;refine ab ?_;obtain ⟨f2,k,h⟩:=aa h;refine gU (oR (cW k)) (cG d2 J) ?_;refine ab ?_;obtain ⟨e5,b9,h⟩:=aa h;refine ii 4 55 e5 ?_ ?_
  ·clear h;refine fU 51 J (fun d3=> ?_) (fun d3=> ?_)
   ·have h:=cZ d3 b9;refine ab ?_;obtain ⟨f3,k,h⟩:=aa h;refine gU (oR (bM k)) (bW d3 J) ?_;exact gY
   have h:=db d3 b9;exact gY
  exact gY
 refine dk h ?_ ?_<;>intro h
 ·exact eY
 refine sY ?_;obtain ⟨f4,k,h⟩:=aa h;refine Ej (oR (bM k)) ?_;obtain ⟨e6,c7,h⟩:=aa h;refine ii 5 65 e6 ?_ ?_
 ·clear h;refine fU 60 J (fun d4=> ?_) (fun d4=> ?_)
  ·have h:=cZ d4 c7;refine ab ?_;exact eP (zI (x:=a0.Value) (y:=(⟨0,0,⟨#[]⟩⟩:WZ)) J J) J (bW d4 J) J<|gY
  have h:=db d4 c7;exact gY
 refine ab ?_;refine gS 5 71 66 h ?_;intro f6 h;refine ab ?_;refine gS 5 77 72 h ?_;intro f9 h;refine dk h ?_ ?_<;>intro h
 ·exact eY
 refine ab ?_;refine dY [0,1,2] ?_;obtain ⟨g0,k,h⟩:=aa h;refine zD 3 J (oR (bM k)) ?_;rintro _ _ ⟨_,⟨rfl,rfl⟩,rfl⟩;refine ⟨_,ae _,ae _,?_⟩;obtain ⟨g1,k,h⟩:=aa h;refine zD 4 J (oR (DU k)) ?_;rintro _ _ ⟨_,⟨rfl,rfl⟩,rfl⟩;refine ⟨_,ae _,ae _,?_⟩;refine zY [5] ?_;obtain ⟨e7,c8,h⟩:=aa h;refine uG (fun l=>((((((l.setIfInBounds 6 true).setIfInBounds 7 true).setIfInBounds 8 true).setIfInBounds 9 true).setIfInBounds 10 true).setIfInBounds 11 true)) 1 89 e7 (fun rest=> ?_) ?_
 ·clear h;refine xo 83 J (fun a6=> ?_) (fun a6=> ?_)
  ·have h:=cZ a6 c8;refine il 6 J O (kK J MD) (bW a6 J) J<|jK 7 J O (aD (us:=bU a0.Zy) 0 J J agg28.out J) (bW a6 J) J<|jK 8 J O (aD (us:=iv a0) 0 J J agg41.out J) (bW a6 J) J ?_;obtain ⟨g2,k,h⟩:=aa h;refine kI 9 J O (oR (bM k)) J (bW a6 J) J ?_;rintro _ _ ⟨_,⟨rfl,rfl⟩,rfl⟩;refine ⟨_,ae _,ae _,?_⟩;obtain ⟨g3,k,h⟩:=aa h;refine kI 10 J O (oR (DU k)) J (bW a6 J) J ?_;rintro _ _ ⟨_,⟨rfl,rfl⟩,rfl⟩;refine ⟨_,ae _,ae _,?_⟩;refine zE 11 J (gv a6 J J) ?_;obtain rfl:=bJ h;exact oF rest (jp J (au (au (au (au (au (au bK J) J) J) J) J) J)) (ae _) (ae _)
  have h:=db a6 c8;refine fc 6 J O (Bb a6 J) J<|fc 7 J O (Bb a6 J) J<|fc 8 J O (Bb a6 J) J<|fc 9 J O (Bb a6 J) J<|fc 10 J O (Bb a6 J) J<|zE 11 J (iw a6 J J) ?_;obtain rfl:=bJ h;exact oF rest (jp J (au (au (au (au (au (au bK J) J) J) J) J) J)) (ae _) (ae _)
 refine zX [12] ?_;exact eY
theorem Fl {r:Bool}: ∀v post,((fun (u:Value) (post:Xi)=>u=.bool r/\post=[])) v post-> ∀c∈post,iS c:=by
 rintro _ _ ⟨rfl,rfl⟩;exact ax
def BK (N:Nat):Option Int:=
 some (-1)
def qj (N:Nat)(a0:W6)(a1:WX):Nat->Int->Option Int
 |0,_=>none
 |m6+1,p7=>bif decide (p7<(a0.Zt.length:Int)) then ((aq a0.Zt p7).bind fun x9=>bif decide (x9.Zo=a1) then (some p7) else (aI (in64 (p7+1)) ((qj N a0 a1 m6) (p7+1)))) else (BK N)
def lE (a0:W6)(a1:WX):Option Int:=
 qj N a0 a1 N 0
theorem wK {N:Nat}{a0:W6}{a1:WX}{r:Int}(h:lE N a0 a1=some r):Okc Xk 73 [.agg #[.bool a0.Ext,.bool a0.Zz,W A1 n1 c1,W A2 n2 c2],(eI a1)] ([aQ A1 n1 c1 a0.Zs,qS A2 n2 c2 a0.Zt]) (fun u post=>u=iV r/\post=[]):=by
 refine ce Tryz.func73 ?_;intro B3
 refine cl fun B4=> ?_
 refine ak (fun s L=>BK N=some r/\s=[(4,iV 0)]/\L=[]) ?_ ?_
 ·refine ab ?_;refine lK (fun m s L=> ∃(p7:Int),qj N a0 a1 m p7=some r/\s=[(2,pV B3 0),(3,pV B4 0),(4,iV 0),(5,iV p7)]/\L=[aQ A1 n1 c1 a0.Zs,qS A2 n2 c2 a0.Zt,ah B3 35 (jX a0 A1 n1 c1 A2 n2 c2),ah B4 39 (jw a1)]) N ?_;rintro m6 _ _ ⟨p7,h,rfl,rfl⟩;rw [qj.eq_2] at h;refine sZ ?_;refine gH J h ?_ ?_<;>intro h
  ·refine sY ?_;refine dY [] ?_;refine ab ?_;obtain ⟨x9,a6,a7,a8,h⟩:=ba h;refine ab ?_;refine zR 4 J (nu 1 J aE J (toNat_lt a6 a7) EJ) ?_;refine ab ?_;refine zE 7 J (wp (x:=x9.Zo) (y:=a1) J J) ?_;refine dk h ?_ ?_<;>intro h
   ·exact eY
   refine ab ?_;obtain ⟨b0,h⟩:=ac h;exact lY
  exact jY
 rintro _ _ ⟨h,rfl,rfl⟩;exact eY
theorem Fk {r:Int}: ∀v post,((fun (u:Value) (post:Xi)=>u=iV r/\post=[])) v post-> ∀c∈post,iS c:=by
 rintro _ _ ⟨rfl,rfl⟩;exact ax
def wM (N:Nat)(a0:W6)(a1:WX)(a6:Int):Option (WS×Bool):=
 some ((⟨a1,a6,(⟨3,(a0.Zs.length:Int),⟨#[]⟩⟩:WZ),(⟨0,0,⟨#[]⟩⟩:WZ),(⟨0,0,⟨#[]⟩⟩:WZ)⟩:WS),true)
def ll (a0:W6)(a1:WX):Option (WS×Bool):=
 (cE N).bind fun y6=>bif decide (a1=y6) then (bif !a0.Zz then (wM N a0 a1 1) else (wM N a0 a1 0)) else ((bif decide (a1.Zh=0) then (some (a1.S.toList==(⟨#[]⟩:ByteArray).toList)) else (some false)).bind fun b12=>(bif b12 then (some (decide (0<=a1.N))) else (some false)).bind fun a7=>(bif a7 then (some (decide (a1.N<(a0.Zs.length:Int)))) else (some false)).bind fun a8=>(bif a8 then ((aq a0.Zs a1.N).bind fun b0=>some (!decide (b0.Zh=8))) else (some false)).bind fun b5=>bif b5 then ((aq a0.Zs a1.N).bind fun b6=>some ((⟨a1,7,b6,(⟨0,0,⟨#[]⟩⟩:WZ),(⟨0,0,⟨#[]⟩⟩:WZ)⟩:WS),true)) else ((lE N a0 a1).bind fun a6=>bif decide (a6<0) then (some ((⟨(⟨0,0,⟨#[]⟩⟩:WX),0,(⟨0,0,⟨#[]⟩⟩:WZ),(⟨0,0,⟨#[]⟩⟩:WZ),(⟨0,0,⟨#[]⟩⟩:WZ)⟩:WS),false)) else ((aq a0.Zt a6).bind fun b7=>some (b7,true))))
theorem um {N:Nat}{a0:W6}{a1:WX}{r:WS×Bool}(h:ll N a0 a1=some r):Okc Xk 56 [.agg #[.bool a0.Ext,.bool a0.Zz,W A1 n1 c1,W A2 n2 c2],(eI a1)] ([aQ A1 n1 c1 a0.Zs,qS A2 n2 c2 a0.Zt]) (fun u post=>u=.tuple #[(cm r.1),.bool r.2]/\post=[]):=by
 refine ce Tryz.func56 ?_;intro B3
 refine cl fun B4=> ?_
 intro B5;refine ab ?_;refine aB<|dY [] ?_;refine ab ?_;obtain ⟨y6,k,h⟩:=aa h;refine zD 1 J (oR (iW k)) ?_;rintro _ _ ⟨_,⟨rfl,rfl⟩,rfl⟩;refine ⟨_,ae _,ae _,?_⟩;refine zE 2 J (wp (x:=a1) (y:=y6) J J) ?_;refine dk h ?_ ?_<;>intro h
 ·refine cl fun B8=> ?_
  refine ak (fun s L=> ∃a7,wM N a0 a1 a7=some r/\s=[(2,pV B3 0),(3,pV B4 0),(4,pV B5 0),(5,.bool false),(6,pV B8 0)]/\L=[aQ A1 n1 c1 a0.Zs,qS A2 n2 c2 a0.Zt,ah B3 35 (jX a0 A1 n1 c1 A2 n2 c2),ah B4 39 (jw a1),ah B5 50 [iV 0,iV 0,.string (⟨#[]⟩),iV 0,iV 0,iV 0,.string (⟨#[]⟩),iV 0,iV 0,.string (⟨#[]⟩),iV 0,iV 0,.string (⟨#[]⟩)],ah B8 50 [iV a1.Zh,iV a1.N,.string a1.S,iV a7,iV 3,iV (a0.Zs.length:Int),.string (⟨#[]⟩),iV 0,iV 0,.string (⟨#[]⟩),iV 0,iV 0,.string (⟨#[]⟩)]]) ?_ ?_
  ·refine dk h ?_ ?_<;>intro h
   ·exact jY
   exact jY
  rintro _ _ ⟨a7,h,rfl,rfl⟩;exact eY
 refine sY ?_
 refine oz 4 29 25 h (fun _ b5 h=> ?_) fun b12 h=> ?_
 ·refine ab ?_;exact eP (sq J J) J (bW b5 J) J<|gY
 refine ab ?_;refine gS 4 34 30 h ?_;intro d2 h;refine ab ?_;refine gS 7 42 35 h ?_;intro d3 h;refine ab ?_
 refine oz 9 52 43 h (fun _ b6 h=> ?_) fun d4 h=> ?_
 ·refine ab ?_;obtain ⟨d6,a8,b0,b7,h⟩:=ba h;refine ab ?_;exact sv (nu 3 J aE J (toNat_lt a8 b0) rT) J (bW b6 J) J<|gY
 refine dk h ?_ ?_<;>intro h
 ·refine dY [] ?_;refine ab ?_;obtain ⟨a6,b9,c7,c8,h⟩:=ba h;refine ab ?_;refine gI 8 J O O (ao (us:=[iV a1.Zh,iV a1.N,.string a1.S,iV 7,iV a6.Zh,iV a6.N,.string a6.S,iV 0,iV 0,.string (⟨#[]⟩),iV 0,iV 0,.string (⟨#[]⟩)]) (cs':=[iV a1.Zh,iV a1.N,.string a1.S,iV 7,iV a6.Zh,iV a6.N,.string a6.S,iV 0,iV 0,.string (⟨#[]⟩),iV 0,iV 0,.string (⟨#[]⟩)]) 0 J J J J size50.out J J J) ?_;rintro _ _ rfl;exact eY
 refine cR h (fun _ k=>wK k) fun e0 h=> ?_
 refine sZ ?_;refine gH J h ?_ ?_<;>intro h
 ·exact eY
 refine ab ?_;obtain ⟨e1,c9,d0,d1,h⟩:=ba h;exact eY
theorem BL {r:WS×Bool}: ∀v post,((fun (u:Value) (post:Xi)=>u=.tuple #[(cm r.1),.bool r.2]/\post=[])) v post-> ∀c∈post,iS c:=by
 rintro _ _ ⟨rfl,rfl⟩;exact ax
def th (N:Nat)(a0:WW)(a1:WX)(a6:Int):Option WS:=
 some (⟨a1,a6,a0.Value,(⟨0,0,⟨#[]⟩⟩:WZ),(⟨0,0,⟨#[]⟩⟩:WZ)⟩:WS)
def tj (a0:WW)(a1:WX)(p13:Int):Option WS:=
 (dE N a0).bind fun a6=>bif a6 then (aI (in64 (p13+8)) (some (⟨a1,p13+8,(⟨0,0,⟨#[]⟩⟩:WZ),a0.Zx,a0.Zy⟩:WS))) else ((bc N a0 2).bind fun a7=>(bif a7 then ((bP N a0.Zk 1).bind fun a8=>some a8) else (some false)).bind fun b0=>bif b0 then (aI (in64 (p13+1)) (th N a0 a1 (p13+1))) else (th N a0 a1 p13))
def uW (a0:WW)(a1:WX)(p6:Int):Option WS:=
 (bc N a0 32).bind fun a6=>(bif a6 then ((bP N a0.Zk 4).bind fun a7=>some a7) else (some false)).bind fun a8=>bif a8 then (aI (in64 (p6+4)) (tj N a0 a1 (p6+4))) else (tj N a0 a1 p6)
def wP (a0:WW)(a1:WX):Option WS:=
 (bc N a0 16).bind fun y7=>(bif y7 then ((bP N a0.Zk 2).bind fun y9=>some y9) else (some false)).bind fun b8=>bif b8 then (aI (in64 (0+2)) (uW N a0 a1 (0+2))) else (uW N a0 a1 0)
theorem Jy {N:Nat}{a0:WW}{a1:WX}{r:WS}(h:wP N a0 a1=some r):Okc Xk 115 [(fT a0),(eI a1)] ([]) (fun u post=>u=(cm r)/\post=[]):=by
 refine ce Tryz.func115 ?_;intro B1
 refine cl fun B2=> ?_
 intro B3
 refine cl fun B4=> ?_
 refine ak (fun s L=> ∃p6,uW N a0 a1 p6=some r/\s=[(2,pV B1 0),(4,pV B3 0),(5,pV B4 0)]/\L=[ah B1 41 (iv a0),ah B3 50 [iV 0,iV 0,.string (⟨#[]⟩),iV 0,iV 0,iV 0,.string (⟨#[]⟩),iV 0,iV 0,.string (⟨#[]⟩),iV 0,iV 0,.string (⟨#[]⟩)],ah B4 50 [iV a1.Zh,iV a1.N,.string a1.S,iV p6,iV 0,iV 0,.string (⟨#[]⟩),iV 0,iV 0,.string (⟨#[]⟩),iV 0,iV 0,.string (⟨#[]⟩)]]) ?_ ?_
 ·refine cR h (fun _ k=>bM k) fun y7 h=> ?_
  refine oz 4 14 10 h (fun _ g8 h=> ?_) fun b8 h=> ?_
  ·refine cR h (fun _ k=>cW k) fun y9 h=> ?_
   exact gY
  refine dk h ?_ ?_<;>intro h
  ·refine ab ?_;obtain ⟨a7,h⟩:=ac h;exact jY
  exact jY
 rintro _ _ ⟨p6,h,rfl,rfl⟩;refine ak (fun s L=> ∃p13,tj N a0 a1 p13=some r/\s=[(2,pV B1 0),(4,pV B3 0),(5,pV B4 0)]/\L=[ah B1 41 (iv a0),ah B3 50 [iV 0,iV 0,.string (⟨#[]⟩),iV 0,iV 0,iV 0,.string (⟨#[]⟩),iV 0,iV 0,.string (⟨#[]⟩),iV 0,iV 0,.string (⟨#[]⟩)],ah B4 50 [iV a1.Zh,iV a1.N,.string a1.S,iV p13,iV 0,iV 0,.string (⟨#[]⟩),iV 0,iV 0,.string (⟨#[]⟩),iV 0,iV 0,.string (⟨#[]⟩)]]) ?_ ?_
 ·refine cR h (fun _ k=>bM k) fun a8 h=> ?_
  refine oz 4 25 21 h (fun _ b0 h=> ?_) fun b5 h=> ?_
  ·refine cR h (fun _ k=>cW k) fun b6 h=> ?_
   exact gY
  refine dk h ?_ ?_<;>intro h
  ·refine ab ?_;obtain ⟨b7,h⟩:=ac h;exact jY
  exact jY
 rintro _ _ ⟨p13,h,rfl,rfl⟩;refine sZ ?_
 refine cR h (fun _ k=>o7 k) fun b9 h=> ?_
 refine gH J h ?_ ?_<;>intro h
 ·refine ab ?_;obtain ⟨c7,h⟩:=ac h;exact eY
 refine ab ?_;refine ak (fun s L=> ∃a6,th N a0 a1 a6=some r/\s=[(2,pV B1 0),(4,pV B3 0),(5,pV B4 0)]/\L=[ah B1 41 (iv a0),ah B3 50 [iV 0,iV 0,.string (⟨#[]⟩),iV 0,iV 0,iV 0,.string (⟨#[]⟩),iV 0,iV 0,.string (⟨#[]⟩),iV 0,iV 0,.string (⟨#[]⟩)],ah B4 50 [iV a1.Zh,iV a1.N,.string a1.S,iV a6,iV 0,iV 0,.string (⟨#[]⟩),iV 0,iV 0,.string (⟨#[]⟩),iV 0,iV 0,.string (⟨#[]⟩)]]) ?_ ?_
 ·refine cR h (fun _ k=>bM k) fun c8 h=> ?_
  refine oz 4 49 45 h (fun _ c9 h=> ?_) fun d0 h=> ?_
  ·refine cR h (fun _ k=>cW k) fun d1 h=> ?_
   exact gY
  refine dk h ?_ ?_<;>intro h
  ·refine ab ?_;obtain ⟨d2,h⟩:=ac h;exact jY
  exact jY
 rintro _ _ ⟨a6,h,rfl,rfl⟩;exact eY
def pL (N:Nat)(a0 a1:WZ):Option Bool:=
 (bif decide (a0.Zh=a1.Zh) then (some (decide (a0.N=a1.N))) else (some false)).bind fun b3=>(bif b3 then (some (a0.S.toList==a1.S.toList)) else (some false)).bind fun b4=>some b4
theorem wQ {N:Nat}{a0 a1:WZ}{r:Bool}(h:pL N a0 a1=some r):Okc Xk 153 [(aF a0),(aF a1)] ([]) (fun u post=>u=.bool r/\post=[]):=by
 refine ce Tryz.func153 ?_;intro B1
 refine cl fun B2=> ?_
 refine gS 6 16 10 h ?_;intro b3 h;refine ab ?_
 refine oz 6 23 17 h (fun _ g4 h=> ?_) fun b4 h=> ?_
 ·refine ab ?_;exact eP (sq J J) J (bW g4 J) J<|gY
 exact eY
def pz (a0:WS)(a1:WW):Option Bool:=
 (bc N a1 32).bind fun y3=>(bif y3 then ((bP N a1.Zk 4).bind fun y5=>some y5) else (some false)).bind fun b4=>bif b4 then (some true) else ((bc N a1 16).bind fun y7=>(bif y7 then ((bP N a1.Zk 2).bind fun y9=>(bP N a0.Zk 2).bind fun a6=>some (!(y9==a6))) else (some false)).bind fun b8=>bif b8 then (some true) else ((bP N a0.Zk 8).bind fun a7=>bif a7 then ((kE N a1).bind fun a8=>(bif a8 then (some true) else ((bc N a1 4).bind fun b0=>(bif b0 then ((pL N a1.Zx a0.Zx).bind fun b5=>some (!b5)) else (some false)).bind fun b6=>some b6)).bind fun b7=>(bif b7 then (some true) else ((bc N a1 8).bind fun b9=>(bif b9 then ((pL N a1.Zy a0.Zy).bind fun c7=>some (!c7)) else (some false)).bind fun c8=>some c8)).bind fun c9=>some c9) else ((dE N a1).bind fun d0=>bif d0 then (some true) else ((bP N a0.Zk 1).bind fun d1=>bif d1 then (some false) else ((bc N a1 2).bind fun d2=>(bif d2 then ((bP N a1.Zk 1).bind fun d3=>some d3) else (some false)).bind fun d4=>(bif d4 then (some true) else ((bc N a1 1).bind fun d6=>(bif d6 then ((pL N a1.Value a0.Value).bind fun e0=>some (!e0)) else (some false)).bind fun b32=>some b32)).bind fun e1=>some e1)))))
theorem Jx {N:Nat}{a0:WS}{a1:WW}{r:Bool}(h:pz N a0 a1=some r):Okc Xk 116 [(cm a0),(fT a1)] ([]) (fun u post=>u=.bool r/\post=[]):=by
 refine ce Tryz.func116 ?_;intro B1
 refine cl fun B2=> ?_
 refine sZ ?_;obtain ⟨y3,k,h⟩:=aa h;refine Ej (oR (bM k)) ?_;obtain ⟨b4,d3,h⟩:=aa h;refine ii 4 11 b4 ?_ ?_
 ·clear h;refine fU 7 J (fun g4=> ?_) (fun g4=> ?_)
  ·have h:=cZ g4 d3;refine ab ?_;obtain ⟨y5,k,h⟩:=aa h;refine gU (oR (cW k)) (bW g4 J) ?_;exact gY
  have h:=db g4 d3;exact gY
 refine dk h ?_ ?_<;>intro h
 ·exact eY
 refine ab ?_;refine aB<|dY [0] ?_;obtain ⟨y7,k,h⟩:=aa h;refine zD 1 J (oR (bM k)) ?_;rintro _ _ ⟨_,⟨rfl,rfl⟩,rfl⟩;refine ⟨_,ae _,ae _,?_⟩;refine zY [2] ?_;obtain ⟨b8,d4,h⟩:=aa h;refine uG (fun l=>((((((((l.setIfInBounds 3 true).setIfInBounds 4 true).setIfInBounds 6 true).setIfInBounds 7 true).setIfInBounds 5 true).setIfInBounds 8 true).setIfInBounds 9 true).setIfInBounds 10 true)) 0 22 b8 (fun rest=> ?_) ?_
 ·clear h;refine xo 14 J (fun g8=> ?_) (fun g8=> ?_)
  ·have h:=cZ g8 d4;refine il 3 J O (kK J ME) (bW g8 J) J<|jK 4 J O (cD 0 J J wc J) (bW g8 J) J<|il 6 J O (kK J MB) (bW g8 J) J<|jK 7 J O (cD 1 J J wc J) (bW g8 J) J ?_;obtain ⟨y9,k,h⟩:=aa h;refine kI 5 J O (oR (cW k)) J (bW g8 J) J ?_;rintro _ _ ⟨_,⟨rfl,rfl⟩,rfl⟩;refine ⟨_,ae _,ae _,?_⟩;obtain ⟨e5,k,h⟩:=aa h;refine kI 8 J O (oR (cW k)) J (bW g8 J) J ?_;rintro _ _ ⟨_,⟨rfl,rfl⟩,rfl⟩;refine ⟨_,ae _,ae _,?_⟩;refine il 9 J O (PN J J WE) (bW g8 J) J<|zE 10 J (gv g8 J J) ?_;obtain rfl:=bJ h;exact oF rest (jp J (au (au (au (au (au (au (au (au bK J) J) J) J) J) J) J) J)) (ae _) (ae _)
  have h:=db g8 d4;refine fc 3 J O (Bb g8 J) J<|fc 4 J O (Bb g8 J) J<|fc 6 J O (Bb g8 J) J<|fc 7 J O (Bb g8 J) J<|fc 5 J O (Bb g8 J) J<|fc 8 J O (Bb g8 J) J<|fc 9 J O (Bb g8 J) J<|zE 10 J (iw g8 J J) ?_;obtain rfl:=bJ h;exact oF rest (jp J (au (au (au (au (au (au (au (au bK J) J) J) J) J) J) J) J)) (ae _) (ae _)
 refine aY O<|dk h (fun h=> ?_) (fun h=> ?_)
 ·exact eY
 refine sY ?_;obtain ⟨e6,k,h⟩:=aa h;refine Ej (oR (cW k)) ?_;refine gH J h ?_ ?_<;>intro h
 ·refine ab ?_;obtain ⟨e7,k,h⟩:=aa h;refine Ej (oR (yt k)) ?_;obtain ⟨d6,a6,h⟩:=aa h;refine ii 11 39 d6 ?_ ?_
  ·clear h;refine fU 28 J (fun b9=> ?_) (fun b9=> ?_)
   ·have h:=cZ b9 a6;exact gY
   have h:=db b9 a6;refine ab ?_;obtain ⟨e8,k,h⟩:=aa h;refine gU (oR (bM k)) (cG b9 J) ?_;refine ab ?_;obtain ⟨e0,a7,h⟩:=aa h;refine ii 7 38 e0 ?_ ?_
   ·clear h;refine fU 31 J (fun c7=> ?_) (fun c7=> ?_)
    ·have h:=cZ c7 a7;refine ab ?_;obtain ⟨e9,k,h⟩:=aa h;refine gU (oR (wQ k)) (bW c7 J) ?_;exact gY
    have h:=db c7 a7;exact gY
   exact gY
  refine ab ?_;obtain ⟨e1,a8,h⟩:=aa h;refine ii 11 51 e1 ?_ ?_
  ·clear h;refine fU 40 J (fun c8=> ?_) (fun c8=> ?_)
   ·have h:=cZ c8 a8;exact gY
   have h:=db c8 a8;refine ab ?_;obtain ⟨f0,k,h⟩:=aa h;refine gU (oR (bM k)) (cG c8 J) ?_;refine ab ?_;obtain ⟨e2,b0,h⟩:=aa h;refine ii 7 50 e2 ?_ ?_
   ·clear h;refine fU 43 J (fun c9=> ?_) (fun c9=> ?_)
    ·have h:=cZ c9 b0;refine ab ?_;obtain ⟨f1,k,h⟩:=aa h;refine gU (oR (wQ k)) (bW c9 J) ?_;exact gY
    have h:=db c9 b0;exact gY
   exact gY
  exact eY
 refine sY ?_;obtain ⟨f2,k,h⟩:=aa h;refine Ej (oR (o7 k)) ?_;refine gH J h ?_ ?_<;>intro h
 ·exact eY
 refine sY ?_;obtain ⟨f3,k,h⟩:=aa h;refine Ej (oR (cW k)) ?_;refine gH J h ?_ ?_<;>intro h
 ·exact eY
 refine ab ?_;obtain ⟨f4,k,h⟩:=aa h;refine Ej (oR (bM k)) ?_;obtain ⟨e3,b5,h⟩:=aa h;refine ii 4 63 e3 ?_ ?_
 ·clear h;refine fU 59 J (fun d0=> ?_) (fun d0=> ?_)
  ·have h:=cZ d0 b5;refine ab ?_;obtain ⟨f6,k,h⟩:=aa h;refine gU (oR (cW k)) (bW d0 J) ?_;exact gY
  have h:=db d0 b5;exact gY
 refine ab ?_;obtain ⟨e4,b6,h⟩:=aa h;refine ii 11 75 e4 ?_ ?_
 ·clear h;refine fU 64 J (fun d1=> ?_) (fun d1=> ?_)
  ·have h:=cZ d1 b6;exact gY
  have h:=db d1 b6;refine ab ?_;obtain ⟨f9,k,h⟩:=aa h;refine gU (oR (bM k)) (cG d1 J) ?_;refine ab ?_;obtain ⟨b32,b7,h⟩:=aa h;refine ii 7 74 b32 ?_ ?_
  ·clear h;refine fU 67 J (fun d2=> ?_) (fun d2=> ?_)
   ·have h:=cZ d2 b7;refine ab ?_;obtain ⟨g0,k,h⟩:=aa h;refine gU (oR (wQ k)) (bW d2 J) ?_;exact gY
   have h:=db d2 b7;exact gY
  exact gY
 exact eY
def uV (N:Nat)(a2:Int)(p3:Bool):Option Int:=
 bif p3 then (some a2) else (some 0)
def ma (a0:WW)(a1 a2:Int)(a3:Bool):Option Int:=
 (bc N a0 a1).bind fun y4=>bif y4 then ((bP N a0.Zk a2).bind fun y6=>uV N a2 y6) else (uV N a2 a3)
theorem yu {N:Nat}{a0:WW}{a2:Int}{a3:Bool}{r:Int}(h:ma N a0 a1 a2 a3=some r):Okc Xk 117 [(fT a0),iV a1,iV a2,.bool a3] ([]) (fun u post=>u=iV r/\post=[]):=by
 refine ce Tryz.func117 ?_;intro B1;refine ab ?_;refine ak (fun s L=> ∃p3,uV N a2 p3=some r/\s=[(2,iV a2),(8,iV 0),(9,.bool p3)]/\L=[]) ?_ ?_
 ·refine cR h (fun _ k=>bM k) fun y4 h=> ?_
  refine gH J h ?_ ?_<;>intro h
  ·refine cR h (fun _ k=>cW k) fun y6 h=> ?_
   exact jN
  exact jY
 rintro _ _ ⟨p3,h,rfl,rfl⟩;refine sZ ?_;refine gH J h ?_ ?_<;>intro h
 ·exact eY
 exact eY
def ny (N:Nat)(a0:Bool)(a1:WZ)(a2:Bool)(a3:WZ):Option WZ:=
 bif a0 then (some a1) else (bif a2 then (some a3) else (some (⟨0,0,⟨#[]⟩⟩:WZ)))
theorem yr {N:Nat}{a0:Bool}{a1:WZ}{a2:Bool}{a3 r:WZ}(h:ny N a0 a1 a2 a3=some r):Okc Xk 118 [.bool a0,(aF a1),.bool a2,(aF a3)] ([]) (fun u post=>u=(aF r)/\post=[]):=by
 refine ce Tryz.func118 ?_;intro B1
 refine cl fun B2=> ?_
 intro B3;refine sY ?_;refine gH J h ?_ ?_<;>intro h
 ·exact eY
 refine sY ?_;refine gH J h ?_ ?_<;>intro h
 ·exact eY
 exact eY
def lF (a0:WS)(a1 a2:Bool)(a3:WX)(a4:WW):Option (WS×Bool):=
 bif !a1 then (bif !a2 then (some ((⟨(⟨0,0,⟨#[]⟩⟩:WX),0,(⟨0,0,⟨#[]⟩⟩:WZ),(⟨0,0,⟨#[]⟩⟩:WZ),(⟨0,0,⟨#[]⟩⟩:WZ)⟩:WS),false)) else ((wP N a4 a3).bind fun y7=>some (y7,true))) else ((bP N a0.Zk 4).bind fun y8=>(bif !y8 then ((pz N a0 a4).bind fun b5=>some b5) else (some false)).bind fun b9=>bif b9 then (some ((⟨(⟨0,0,⟨#[]⟩⟩:WX),0,(⟨0,0,⟨#[]⟩⟩:WZ),(⟨0,0,⟨#[]⟩⟩:WZ),(⟨0,0,⟨#[]⟩⟩:WZ)⟩:WS),false)) else ((bP N a0.Zk 2).bind fun b6=>(ma N a4 16 2 b6).bind fun a6=>(bP N a0.Zk 4).bind fun b7=>(ma N a4 32 4 b7).bind fun a7=>aI (in64 (a6+a7)) ((bP N a0.Zk 8).bind fun a8=>(dE N a4).bind fun c7=>(bif c7 then (some true) else ((bif a8 then ((kE N a4).bind fun c8=>some (!c8)) else (some false)).bind fun c9=>some c9)).bind fun d0=>bif d0 then (aI (in64 ((a6+a7)+8)) ((bc N a4 4).bind fun d1=>(ny N d1 a4.Zx a8 a0.Zx).bind fun d2=>(bc N a4 8).bind fun d3=>(ny N d3 a4.Zy a8 a0.Zy).bind fun d4=>some ((⟨a3,(a6+a7)+8,(⟨0,0,⟨#[]⟩⟩:WZ),d2,d4⟩:WS),true))) else ((bif !a8 then ((bP N a0.Zk 1).bind fun d6=>some d6) else (some false)).bind fun e0=>(ma N a4 2 1 e0).bind fun b0=>aI (in64 ((a6+a7)+b0)) ((bc N a4 1).bind fun e1=>(ny N e1 a4.Value (!a8) a0.Value).bind fun e2=>some ((⟨a3,(a6+a7)+b0,e2,(⟨0,0,⟨#[]⟩⟩:WZ),(⟨0,0,⟨#[]⟩⟩:WZ)⟩:WS),true))))))
theorem BM {N:Nat}{a0:WS}{a1 a2:Bool}{a3:WX}{r:WS×Bool}(h:lF N a0 a1 a2 a3 a4=some r):Okc Xk 72 [(cm a0),.bool a1,.bool a2,(eI a3),(fT a4)] ([]) (fun u post=>u=.tuple #[(cm r.1),.bool r.2]/\post=[]):=by
 refine ce Tryz.func72 ?_;intro B1
 refine cl fun B2=> ?_
 intro B3
 refine cl fun B4=> ?_
 refine sZ ?_;refine gH J h ?_ ?_<;>intro h
 ·refine sZ ?_;refine gH J h ?_ ?_<;>intro h
  ·exact eY
  refine cR h (fun _ k=>Jy k) fun y7 h=> ?_
  exact eN
 refine sY ?_
 refine cR h (fun _ k=>cW k) fun y8 h=> ?_
 refine oz 4 30 26 h (fun _ g9 h=> ?_) fun b9 h=> ?_
 ·refine cR h (fun _ k=>Jx k) fun c9 h=> ?_
  exact gY
 refine dk h ?_ ?_<;>intro h
 ·exact eY
 refine cl fun d0=> ?_
 refine dY [0,1,2,5,6,7] ?_;obtain ⟨d1,k,h⟩:=aa h;refine zD 3 J (oR (cW k)) ?_;rintro _ _ ⟨_,⟨rfl,rfl⟩,rfl⟩;refine ⟨_,ae _,ae _,?_⟩;obtain ⟨a7,k,h⟩:=aa h;refine zD 4 J (oR (yu k)) ?_;rintro _ _ ⟨_,⟨rfl,rfl⟩,rfl⟩;refine ⟨_,ae _,ae _,?_⟩;obtain ⟨d2,k,h⟩:=aa h;refine zD 8 J (oR (cW k)) ?_;rintro _ _ ⟨_,⟨rfl,rfl⟩,rfl⟩;refine ⟨_,ae _,ae _,?_⟩;obtain ⟨a8,k,h⟩:=aa h;refine zD 9 J (oR (yu k)) ?_;rintro _ _ ⟨_,⟨rfl,rfl⟩,rfl⟩;refine ⟨_,ae _,ae _,?_⟩;obtain ⟨c7,h⟩:=ac h;refine zE 10 J (iO J J c7.1 c7.2) ?_;refine zY [11] ?_;refine gI 12 J O O (ao (us:=[iV (a7+a8)]) (cs':=[iV a3.Zh,iV a3.N,.string a3.S,iV (a7+a8),iV 0,iV 0,.string (⟨#[]⟩),iV 0,iV 0,.string (⟨#[]⟩),iV 0,iV 0,.string (⟨#[]⟩)]) 0 J J J J size3.out J J J) ?_;rintro _ _ rfl
 refine aY O<|cR h (fun _ k=>cW k) fun d3 h=> ?_
 refine sZ ?_
 refine cR h (fun _ k=>o7 k) fun d4 h=> ?_
 refine xv 7 58 51 h (fun _ d6 h=> ?_) fun e0 h=> ?_
 ·refine ab ?_
  refine oz 4 57 53 h (fun _ e1 h=> ?_) fun e2 h=> ?_
  ·refine cR h (fun _ k=>yt k) fun e3 h=> ?_
   exact gY
  exact gY
 refine dk h ?_ ?_<;>intro h
 ·refine ab ?_;obtain ⟨e4,h⟩:=ac h;refine ab ?_;refine dY [0,2,3,4,5,6] ?_;obtain ⟨e5,k,h⟩:=aa h;refine zD 1 J (oR (bM k)) ?_;rintro _ _ ⟨_,⟨rfl,rfl⟩,rfl⟩;refine ⟨_,ae _,ae _,?_⟩;obtain ⟨a6,k,h⟩:=aa h;refine zD 7 J (oR (yr k)) ?_;rintro _ _ ⟨_,⟨rfl,rfl⟩,rfl⟩;refine ⟨_,ae _,ae _,?_⟩;refine zY [8] ?_;refine gI 9 J O O (ao (us:=[iV a6.Zh,iV a6.N,.string a6.S]) (cs':=[iV a3.Zh,iV a3.N,.string a3.S,iV ((a7+a8)+8),iV 0,iV 0,.string (⟨#[]⟩),iV a6.Zh,iV a6.N,.string a6.S,iV 0,iV 0,.string (⟨#[]⟩)]) 0 J J J J size28.out J J J) ?_;rintro _ _ rfl;refine aY O<|ab ?_;refine dY [0,2,3,4,5,6] ?_;obtain ⟨e6,k,h⟩:=aa h;refine zD 1 J (oR (bM k)) ?_;rintro _ _ ⟨_,⟨rfl,rfl⟩,rfl⟩;refine ⟨_,ae _,ae _,?_⟩;obtain ⟨b0,k,h⟩:=aa h;refine zD 7 J (oR (yr k)) ?_;rintro _ _ ⟨_,⟨rfl,rfl⟩,rfl⟩;refine ⟨_,ae _,ae _,?_⟩;refine zY [8] ?_;refine gI 9 J O O (ao (us:=[iV b0.Zh,iV b0.N,.string b0.S]) (cs':=[iV a3.Zh,iV a3.N,.string a3.S,iV ((a7+a8)+8),iV 0,iV 0,.string (⟨#[]⟩),iV a6.Zh,iV a6.N,.string a6.S,iV b0.Zh,iV b0.N,.string b0.S]) 0 J J J J size28.out J J J) ?_;rintro _ _ rfl;exact aY O<|eY
 refine ab ?_;refine dY [0,1,2,3,4,5] ?_
 refine yJ [6,7,8,9] 4 87 91 h (fun _ b6 h rest=> ?_) (fun _ b6 h rest=> ?_) fun e7 h=> ?_
 ·refine yY [6,7] ?_;obtain ⟨e8,k,h⟩:=aa h;refine kI 8 J O (oR (cW k)) J (bW b6 J) J ?_;rintro _ _ ⟨_,⟨rfl,rfl⟩,rfl⟩;refine ⟨_,ae _,ae _,?_⟩;refine zE 9 J (gv b6 J J) ?_;exact yS rest h
 ·refine yY [6,7,8,9] ?_;exact yS rest h
 obtain ⟨b7,k,h⟩:=aa h;refine zD 10 J (oR (yu k)) ?_;rintro _ _ ⟨_,⟨rfl,rfl⟩,rfl⟩;refine ⟨_,ae _,ae _,?_⟩;obtain ⟨c8,h⟩:=ac h;refine zE 11 J (iO J J c8.1 c8.2) ?_;refine zY [12] ?_;refine gI 13 J O O (ao (us:=[iV ((a7+a8)+b7)]) (cs':=[iV a3.Zh,iV a3.N,.string a3.S,iV ((a7+a8)+b7),iV 0,iV 0,.string (⟨#[]⟩),iV 0,iV 0,.string (⟨#[]⟩),iV 0,iV 0,.string (⟨#[]⟩)]) 0 J J J J size3.out J J J) ?_;rintro _ _ rfl;refine aY O<|ab ?_;refine dY [0,2,3,4,5,6,7] ?_;obtain ⟨e9,k,h⟩:=aa h;refine zD 1 J (oR (bM k)) ?_;rintro _ _ ⟨_,⟨rfl,rfl⟩,rfl⟩;refine ⟨_,ae _,ae _,?_⟩;obtain ⟨b5,k,h⟩:=aa h;refine zD 8 J (oR (yr k)) ?_;rintro _ _ ⟨_,⟨rfl,rfl⟩,rfl⟩;refine ⟨_,ae _,ae _,?_⟩;refine zY [9] ?_;refine gI 10 J O O (ao (us:=[iV b5.Zh,iV b5.N,.string b5.S]) (cs':=[iV a3.Zh,iV a3.N,.string a3.S,iV ((a7+a8)+b7),iV b5.Zh,iV b5.N,.string b5.S,iV 0,iV 0,.string (⟨#[]⟩),iV 0,iV 0,.string (⟨#[]⟩)]) 0 J J J J size28.out J J J) ?_;rintro _ _ rfl;exact aY O<|eY
theorem Fm {r:WS×Bool}: ∀v post,((fun (u:Value) (post:Xi)=>u=.tuple #[(cm r.1),.bool r.2]/\post=[])) v post-> ∀c∈post,iS c:=by
 rintro _ _ ⟨rfl,rfl⟩;exact ax
def yp (N:Nat)(a0:W6)(p9:W8):Option W6:=
 some (⟨a0.Ext,a0.Zz,p9,a0.Zt⟩:W6)
def tc (N:Nat)(a1:Int)(a0:W6):Nat->W8->Option W6
 |0,_=>none
 |a8+1,a6=>bif decide ((a6.length:Int)<a1) then ((iq N).bind fun a7=>aI (bm (a6.length+([a7]:List WZ).length)) ((tc N a1 a0 a8) (a6++([a7]:List WZ)))) else (yp N a0 a6)
def nw (a0:W6)(a1:Int):Option W6:=
 aI (bm (([]:List WZ).length+a0.Zs.length)) (tc N a1 a0 N (([]:List WZ)++a0.Zs))
theorem yo {N:Nat}{a0 r:W6}(h:nw N a0 a1=some r):Okc Xk 75 [.agg #[.bool a0.Ext,.bool a0.Zz,W A1 n1 c1,W A2 n2 c2],iV a1] ([aQ A1 n1 c1 a0.Zs,qS A2 n2 c2 a0.Zt]) (fun u post=> ∃A0 n0 c0 A1 n1 c1,u=.agg #[.bool r.Ext,.bool r.Zz,W A0 n0 c0,W A1 n1 c1]/\post=[bj A0 n0 c0 r.Zs,qS A1 n1 c1 r.Zt]):=by
 refine ce Tryz.func75 ?_;intro B3
 refine cl fun B4=> ?_
 refine sI (aw (R:=ay) (vss:=[]) (xs:=[]) J (zb) J J (fun _ _ hr=>All2.nil)) fun A5 n5 c5=> ?_
 obtain ⟨q6,h⟩:=ac h
 refine sI (az 0 3 J J aE J J t9 sw J J q6) fun A7 n7 c7=> ?_
 refine ak (fun s L=> ∃p9 A9 n9 c9,yp N a0 p9=some r/\s=[(2,pV B3 0),(4,pV B4 0),(5,W A9 n9 c9)]/\L=[bj A9 n9 c9 p9,aQ A1 n1 c1 a0.Zs,qS A2 n2 c2 a0.Zt,ah B3 35 (jX a0 A1 n1 c1 A2 n2 c2),ah B4 35 [.bool false,.bool false,W none 0 0,W none 0 0]]) ?_ ?_
 ·refine ab ?_;refine lK (fun m s L=> ∃(a7:W8) (a8:Option Addr) (b0 b5:Nat),tc N a1 a0 m a7=some r/\s=[(1,iV a1),(2,pV B3 0),(4,pV B4 0),(5,W a8 b0 b5)]/\L=[bj a8 b0 b5 a7,aQ A1 n1 c1 a0.Zs,qS A2 n2 c2 a0.Zt,ah B3 35 (jX a0 A1 n1 c1 A2 n2 c2),ah B4 35 [.bool false,.bool false,W none 0 0,W none 0 0]]) N ?_;rintro b7 _ _ ⟨a7,a8,b0,b5,h,rfl,rfl⟩;rw [tc.eq_2] at h;refine sZ ?_;refine gH J h ?_ ?_<;>intro h
  ·refine ab ?_;obtain ⟨a6,k,h⟩:=aa h;refine gV (oR (pK k)) ?_;refine gD (aw (R:=ay) (vss:=[[iV a6.Zh,iV a6.N,.string a6.S]]) (xs:=[a6]) J (jy _ _ _) J J (fun _ _ hr=> .cons J All2.nil)) ?_;rintro _ _ ⟨b9,c8,d0,rfl,rfl⟩;obtain ⟨b6,h⟩:=ac h
   refine sI (az 1 0 J J aj J J t9 sw J J b6) fun d1 d2 d3=> ?_
   exact lN
  exact jY
 rintro _ _ ⟨p9,A9,n9,c9,h,rfl,rfl⟩;exact eY
def ul (N:Nat)(a0:W6)(p8:Xh):Option W6:=
 some (⟨a0.Ext,a0.Zz,a0.Zs,p8⟩:W6)
def o4 (N:Nat)(a7:Xh->Int->Option W6)(a6:Int)(a0:W6)(a1:WX)(a8:Xh):Option W6:=
 aI (in64 (a6+1)) (a7 a8 (a6+1))
def lj (N:Nat)(a0:W6)(a1:WX):Nat->Xh->Int->Option W6
 |0,_,_=>none
 |m9+1,a7,a6=>bif decide (a6<(a0.Zt.length:Int)) then ((aq a0.Zt a6).bind fun b0=>bif !decide (b0.Zo=a1) then ((aq a0.Zt a6).bind fun a8=>aI ((a7.length+([a8]:List WS).length)<=549755813888) (o4 N (lj N a0 a1 m9) a6 a0 a1 (a7++([a8]:List WS)))) else (o4 N (lj N a0 a1 m9) a6 a0 a1 a7)) else (ul N a0 a7)
def ej (a0:W6)(a1:WX):Option W6:=
 lj N a0 a1 N ([]:List WS) 0
theorem uk {N:Nat}{a0:W6}{a1:WX}{r:W6}(h:ej N a0 a1=some r):Okc Xk 76 [.agg #[.bool a0.Ext,.bool a0.Zz,W A1 n1 c1,W A2 n2 c2],(eI a1)] ([aQ A1 n1 c1 a0.Zs,qS A2 n2 c2 a0.Zt]) (fun u post=> ∃A0 n0 c0 A1 n1 c1,u=.agg #[.bool r.Ext,.bool r.Zz,W A0 n0 c0,W A1 n1 c1]/\post=[aQ A0 n0 c0 r.Zs,qS A1 n1 c1 r.Zt]):=by
 refine Ca Tryz.func76 J J ?_;simp only [qI];refine Y ?_
 refine gB (rt J J) fun B3=>gB (rt J J) fun B4=>gB (bF zero35.out J) fun B5=>Y ?_
 refine gD (aw (R:=ip) (vss:=[]) (xs:=[]) J (Ki) J J (fun _ _ hr=>All2.nil)) ?_;rintro _ _ ⟨A6,n6,c6,rfl,rfl⟩;refine Y ?_;refine ak (fun s L=> ∃p8 A8 n8 c8,ul N a0 p8=some r/\s=[(2,pV B3 0),(4,pV B5 0),(5,W A8 n8 c8)]/\L=[bf ip 50 (W A8 n8 c8) p8,aQ A1 n1 c1 a0.Zs,qS A2 n2 c2 a0.Zt,ah B3 35 (jX a0 A1 n1 c1 A2 n2 c2),ah B5 35 [.bool false,.bool false,W none 0 0,W none 0 0]]) ?_ ?_
 ·refine Y ?_;refine im (fun m s L=> ∃a7 a8 b0 b5 b6,lj N a0 a1 m a7 a8=some r/\s=[(2,pV B3 0),(3,pV B4 0),(4,pV B5 0),(5,W b0 b5 b6),(6,iV a8)]/\L=[bf ip 50 (W b0 b5 b6) a7,aQ A1 n1 c1 a0.Zs,qS A2 n2 c2 a0.Zt,ah B3 35 (jX a0 A1 n1 c1 A2 n2 c2),ah B4 39 (jw a1),ah B5 35 [.bool false,.bool false,W none 0 0,W none 0 0]]) N _ _ ⟨([]:List WS),0,A6,n6,c6,h,J,J⟩ sA (cS [0,4,5,3,2,1] 6) ?_;rintro (_|m9) _ _ ⟨a7,a8,b0,b5,b6,h,rfl,rfl⟩
  ·exact aL h
  rw [lj.eq_2] at h;refine aB<|Y ?_;refine gR (jO 2 J aE J Ex)<|Y ?_;refine gH J h ?_ ?_<;>intro h
  ·refine Y ?_;refine ak (fun s L=> ∃c9 d0 d1 d2,o4 N (lj N a0 a1 m9) a8 a0 a1 c9=some r/\s=[(2,pV B3 0),(3,pV B4 0),(4,pV B5 0),(5,W d0 d1 d2),(6,iV a8)]/\L=[bf ip 50 (W d0 d1 d2) c9,aQ A1 n1 c1 a0.Zs,qS A2 n2 c2 a0.Zt,ah B3 35 (jX a0 A1 n1 c1 A2 n2 c2),ah B4 39 (jw a1),ah B5 35 [.bool false,.bool false,W none 0 0,W none 0 0]]) ?_ ?_
   ·refine vv<|aB<|be O _ (ae _)<|yY [0,1,2] ?_;obtain ⟨e1,b7,h⟩:=aa h;obtain ⟨b9,c7,b7⟩:=fI b7;refine zR 3 J (bS 2 J aE J J Ex size50.out b9 c7) ?_;refine zR 4 J (nu 2 J aE J (toNat_lt b9 c7) EJ) ?_;refine yY [5,6] ?_;refine zE 7 J (HL (x:=e1.Zo) (y:=a1) J J) ?_;refine aY O<|qx<|gH J h (fun h=> ?_) (fun h=> ?_)
    ·refine Y ?_;obtain ⟨d3,a6,h⟩:=aa h;obtain ⟨d4,d6,a6⟩:=fI a6;refine gR (bS 2 J aE J J Ex size50.out d4 d6)<|gR (dr (us:=co d3) 2 J aE J a6 agg50.out (fun _ _ _ h=>by rw [show _=_ from h];rfl))<|gD (aw (R:=ip) (vss:=[(co d3)]) (xs:=[d3]) J (Gu _ _ _ _ _ _ _ _ _ _ _ _ _) J J (fun _ _ hr=> .cons J All2.nil)) ?_;rintro _ _ ⟨e6,e7,e8,rfl,rfl⟩;obtain ⟨e2,h⟩:=ac h;refine gD (uv 1 0 J J aj J J Ex Qy J J J e2) ?_;rintro _ _ ⟨e3,e4,e5,rfl,rfl⟩;refine Y ?_;exact ⟨_,_,⟨a7++([d3]:List WS),e3,e4,e5,h,J,J⟩,sA,cS [1,2,3,4,5,6] 7⟩
    refine Y ?_;exact ⟨_,_,⟨a7,b0,b5,b6,h,J,J⟩,sA,cS [0,1,2,3,4,5] 6⟩
   rintro _ _ ⟨c9,d0,d1,d2,h,rfl,rfl⟩;refine Y ?_;obtain ⟨e0,h⟩:=ac h;refine gE (iO J J e0.1 e0.2)<|Y ?_;exact ⟨m9,_,_,Xb _,⟨c9,a8+1,d0,d1,d2,h,J,J⟩,sA,cS [0,1,2,3,4,5] 6⟩
  refine Y ?_;exact ⟨_,_,⟨a7,b0,b5,b6,h,J,J⟩,sA,cS [0,1,2,3,5] 6⟩
 rintro _ _ ⟨p8,A8,n8,c8,h,rfl,rfl⟩;refine Y ?_;refine gW (ao (us:=[W A8 n8 c8]) (cs':=(jX a0 A1 n1 c1 A8 n8 c8)) 3 J J J J size33.out J J J)<|Y ?_;refine gR (aD (us:=(jX a0 A1 n1 c1 A8 n8 c8)) 3 J J agg35.out J)<|gW (ao (us:=(jX a0 A1 n1 c1 A8 n8 c8)) (cs':=(jX a0 A1 n1 c1 A8 n8 c8)) 4 J J J J size35.out J J J)<|oS ?_;refine Y ?_;obtain rfl:=bJ h;exact kL (rs:=[.cell 4 35]) (vs:=[.agg #[.bool a0.Ext,.bool a0.Zz,W A1 n1 c1,W A8 n8 c8]]) J (.cons (dy 4 J J agg35.out) .nil) J ((bn 0 J).trans (cS [1,0] 5)) ⟨_,_,_,_,_,_,J,J⟩
def AM (N:Nat)(p6 p7:Bool)(p8:W8)(p9:Xh):Option (W6×Bool):=
 some ((⟨p6,p7,p8,p9⟩:W6),true)
def pI (N:Nat)(a1:Int):Nat->Bool->Bool->W8->Xh->Option (W6×Bool)
 |0,_,_,_,_=>none
 |b6+1,a7,a8,p13,b0=>bif decide (a1<(p13.length:Int)) then (aI (in64 ((p13.length:Int) - 1)) ((ll N (⟨a7,a8,p13,b0⟩:W6) (⟨0,(p13.length:Int) - 1,⟨#[]⟩⟩:WX)).bind fun b5=>(bif b5.2 then (some (decide (ai .i64 b5.1.Zk 4=0))) else (some false)).bind fun b7=>bif b7 then (some ((⟨a7,a8,p13,b0⟩:W6),false)) else ((ej N (⟨a7,a8,p13,b0⟩:W6) (⟨0,(p13.length:Int) - 1,⟨#[]⟩⟩:WX)).bind fun a6=>aI ((0:Int)<=(p13.length:Int) - 1/\0<=((p13.length:Int) - 1).toNat/\((p13.length:Int) - 1).toNat<=a6.Zs.length) ((pI N a1 b6) a6.Ext a6.Zz ((a6.Zs.drop 0).take (((p13.length:Int) - 1).toNat - 0)) a6.Zt)))) else (AM N a7 a8 p13 b0)
def C8 (a0:W6)(a1:Int):Option (W6×Bool):=
 pI N a1 N a0.Ext a0.Zz a0.Zs a0.Zt
theorem KO {N:Nat}{a0:W6}{r:W6×Bool}(h:C8 N a0 a1=some r):Okc Xk 77 [.agg #[.bool a0.Ext,.bool a0.Zz,W A1 n1 c1,W A2 n2 c2],iV a1] ([aQ A1 n1 c1 a0.Zs,qS A2 n2 c2 a0.Zt]) (fun u post=> ∃A0 n0 c0 A1 n1 c1,u=.tuple #[.agg #[.bool r.1.Ext,.bool r.1.Zz,W A0 n0 c0,W A1 n1 c1],.bool r.2]/\post=[aQ A0 n0 c0 r.1.Zs,qS A1 n1 c1 r.1.Zt]):=by
 refine ce Tryz.func77 ?_;intro B3
 refine cl fun B4=> ?_
 refine ak (fun s L=> ∃p6 p7 p8 p9 A8 n8 c8 A9 n9 c9,AM N p6 p7 p8 p9=some r/\s=[(2,pV B3 0),(4,pV B4 0),(5,.bool false)]/\L=[aQ A8 n8 c8 p8,qS A9 n9 c9 p9,ah B3 35 [.bool p6,.bool p7,W A8 n8 c8,W A9 n9 c9],ah B4 35 [.bool false,.bool false,W none 0 0,W none 0 0]]) ?_ ?_
 ·refine ab ?_;refine im (fun m s L=> ∃a7 a8 p13 b0 b5 b6 b7 b9 c7 d0,pI N a1 m a7 a8 p13 b0=some r/\s=[(1,iV a1),(2,pV B3 0),(4,pV B4 0),(5,.bool false)]/\L=[aQ b5 b6 b7 p13,qS b9 c7 d0 b0,ah B3 35 [.bool a7,.bool a8,W b5 b6 b7,W b9 c7 d0],ah B4 35 [.bool false,.bool false,W none 0 0,W none 0 0]]) N _ _ ⟨a0.Ext,a0.Zz,a0.Zs,a0.Zt,A1,n1,c1,A2,n2,c2,h,J,J⟩ sA (cS [2,3,1,0] 4) ?_;rintro (_|d3) _ _ ⟨a7,a8,p13,b0,b5,b6,b7,b9,c7,d0,h,rfl,rfl⟩
  ·exact aL h
  rw [pI.eq_2] at h;refine sZ ?_;refine gH J h ?_ ?_<;>intro h
  ·refine ab ?_;obtain ⟨d4,h⟩:=ac h
   refine cl fun d6=> ?_
   obtain ⟨e0,k,h⟩:=aa h;refine Ej (oR (um k)) ?_;intro e1;refine sY ?_
   refine JW 5 31 26 h (fun _ d1 h=> ?_) (fun _ d1 h=> ?_) fun e2 h=> ?_
   ·refine ab ?_;exact eP (aP J J) J (bW d1 J) J<|gY
   ·exact gY
   refine dk h ?_ ?_<;>intro h
   ·exact eY
   refine ab ?_;obtain ⟨e3,k,h⟩:=aa h
   refine SC (oC (uk k)) fun e4 e5 e6 e7 e8 e9=> ?_
   obtain ⟨a6,h⟩:=ac h;refine Nd 0 J (l:=0) (h:=((p13.length:Int) - 1).toNat) a6.2.1 a6.2.2 ?_;rintro f0 f1 f2 d2;refine JX (KN 1 J d2 J t9 size28.out J J (by rw [Xz a6.1];rfl) a6.2.1 a6.2.2) ?_;exact lN
  exact jY
 rintro _ _ ⟨p6,p7,p8,p9,A8,n8,c8,A9,n9,c9,h,rfl,rfl⟩;exact eY
def lW (a0:W6)(a1:Int):Option (W6×Bool):=
 (bif decide (a1<0) then (some true) else (some (decide (4096<a1)))).bind fun b5=>(bif b5 then (some true) else ((bif a0.Zz then (some (!decide (a1=(a0.Zs.length:Int)))) else (some false)).bind fun b7=>some b7)).bind fun b6=>bif b6 then (some (a0,false)) else ((nw N a0 a1).bind fun y9=>(C8 N y9 a1).bind fun a6=>some (a6.1,a6.2))
theorem Aj {N:Nat}{a0:W6}{r:W6×Bool}(h:lW N a0 a1=some r):Okc Xk 33 [.agg #[.bool a0.Ext,.bool a0.Zz,W A1 n1 c1,W A2 n2 c2],iV a1] ([aQ A1 n1 c1 a0.Zs,qS A2 n2 c2 a0.Zt]) (fun u post=> ∃A0 n0 c0 A1 n1 c1,u=.tuple #[.agg #[.bool r.1.Ext,.bool r.1.Zz,W A0 n0 c0,W A1 n1 c1],.bool r.2]/\post=[aQ A0 n0 c0 r.1.Zs,qS A1 n1 c1 r.1.Zt]):=by
 refine ce Tryz.func33 ?_;intro B3
 refine cl fun B4=> ?_
 refine sZ ?_;refine gS 3 11 8 h ?_;intro b5 h;refine ab ?_
 refine xv 10 22 12 h (fun _ g6 h=> ?_) fun b6 h=> ?_
 ·refine ab ?_;refine gS 6 21 15 h ?_;intro b7 h;exact gY
 refine dk h ?_ ?_<;>intro h
 ·exact eY
 refine Ua h (fun _ k=>yo k) fun y9 a7 a8 b0 b9 c7 c8 h=> ?_
 obtain ⟨c9,a6,h⟩:=aa h;refine mP (bn 0 J)<|ab ?_
 refine SC (oC (KO a6)) fun d0 d1 d2 d3 d4 d6=> ?_
 exact eN
end
section
variable {A1 A2 A3 A4 A5 A6:Option Addr}{B1 B2 B3 B6 M3 M5 M6 c1 c2 c3 c4 c5 c6 n1 n2 n3 n4 n5 n6:Nat}
open Go.RowKit Asn
set_option maxRecDepth 20000
def kl (N:Nat)(a6:Bool)(a7:W8)(a8:Xh)(p21 b0:Bool):Option (W6×Bool×Bool):=
 some ((⟨p21,b0,a7,a8⟩:W6),a6,false)
def km (a1:WW)(a6 p21 b0:Bool)(a7:W8)(a8:Xh):Option (W6×Bool×Bool):=
 (bif !decide (ai .i64 a1.Has 2=0) then (some (decide (ai .i64 a1.Zk 1=0))) else (some false)).bind fun b5=>bif b5 then (kl N a6 a7 a8 p21 true) else (kl N a6 a7 a8 p21 b0)
def o5 (a0:W6)(a1:WW):Option (W6×Bool×Bool):=
 (bif !decide (ai .i64 a1.Has 1=0) then ((bif !decide (a1.Value.Zh=3) then (some true) else (some (decide (a1.Value.N<0)))).bind fun b7=>(bif b7 then (some true) else (some (decide (4096<a1.Value.N)))).bind fun b8=>some b8) else (some false)).bind fun b6=>bif b6 then (some (a0,false,true)) else ((cE N).bind fun a7=>(ll N a0 a7).bind fun a8=>(cE N).bind fun b0=>(lF N a8.1 true a0.Ext b0 a1).bind fun b5=>bif !b5.2 then (some (a0,false,false)) else (bif !decide (ai .i64 a1.Has 1=0) then ((lW N a0 a1.Value.N).bind fun a6=>km N a1 a6.2 a6.1.Ext a6.1.Zz a6.1.Zs a6.1.Zt) else (km N a1 true a0.Ext a0.Zz a0.Zs a0.Zt)))
theorem C7 {N:Nat}{a0:W6}{a1:WW}{r:W6×Bool×Bool}(h:o5 N a0 a1=some r):Okc Xk 71 [.agg #[.bool a0.Ext,.bool a0.Zz,W A1 n1 c1,W A2 n2 c2],(fT a1)] ([aQ A1 n1 c1 a0.Zs,qS A2 n2 c2 a0.Zt]) (fun u post=> ∃A0 n0 c0 A1 n1 c1,u=.tuple #[.agg #[.bool r.1.Ext,.bool r.1.Zz,W A0 n0 c0,W A1 n1 c1],.bool r.2.1,.bool r.2.2]/\post=[aQ A0 n0 c0 r.1.Zs,qS A1 n1 c1 r.1.Zt]):=by
 refine ce Tryz.func71 ?_;intro B3
 refine cl fun B4=> ?_
 intro B5;refine ab ?_;refine fS (aP J J) ?_;refine sZ ?_
 refine JW 17 35 18 h (fun _ g6 h=> ?_) (fun _ g6 h=> ?_) fun b6 h=> ?_
 ·refine ab ?_;refine gS 5 28 23 h ?_;intro b7 h;refine ab ?_;refine gS 5 34 29 h ?_;intro b8 h;exact gY
 ·exact gY
 refine dk h ?_ ?_<;>intro h
 ·exact eY
 refine ab ?_;refine aB ?_;obtain ⟨d4,d6,h⟩:=aa h;obtain ⟨a6,e0,h⟩:=aa h;refine gw (t:=[(2,pV B3 0),(3,pV B4 0),(4,pV B5 0),(5,.bool false),(6,.bool false),(7,.bool (!decide (ai .i64 a1.Has 1=0)))]) ?_ ml (ae _)
 refine iR O 7 [5] [4,5,6] [38,39,40,37,41,42,8] [[],[],[0,1],[2],[3],[3],[]] [aV (.agg #[.bool a0.Ext,.bool a0.Zz,W A1 n1 c1,W A2 n2 c2]),
aV (.agg #[iV d4.Zh,iV d4.N,.string d4.S]),
aV (.tuple #[(cm a6.1),.bool a6.2]),
aV (.tuple #[(cm a6.1),.bool a6.2]),
aV ((cm a6.1)),
aV (.bool a6.2),
aX1 (fun (a8:Nat)=>pV a8 0) (fun a8=> [ah a8 50 [iV 0,iV 0,.string (⟨#[]⟩),iV 0,iV 0,iV 0,.string (⟨#[]⟩),iV 0,iV 0,.string (⟨#[]⟩),iV 0,iV 0,.string (⟨#[]⟩)]])] [] (ae _) (fu rfl me) O rfl rfl ?_ ?_ ?_
 ·exact ft J (nK (dl J J) J (iI J (ae _)))<|md
 ·refine aG J ?_ ?_
  ·refine tH (bF zero50.out J) J ?_;rintro _ _ ⟨e7,rfl,rfl⟩;exact Oi e7 (ae _)
  refine qE (dl J J) ?_;refine qE (dl J J) ?_;refine qE (ap J) ?_;refine aG J ?_ ?_
  ·refine tH (oR (um e0)) J ?_;rintro _ _ ⟨_,⟨rfl,rfl⟩,rfl⟩;exact iI J (ae _)
  refine aG J ?_ ?_
  ·refine tH (oR (iW d6)) J ?_;rintro _ _ ⟨_,⟨rfl,rfl⟩,rfl⟩;exact iI J (ae _)
  refine qR (aD (us:=(jX a0 A1 n1 c1 A2 n2 c2)) 2 J J agg35.out J) ?_;exact dK
 intro a8;refine oq (t:=[(41,(cm a6.1)),(42,.bool a6.2),(8,pV a8 0),(2,pV B3 0),(3,pV B4 0),(4,pV B5 0),(5,.bool false),(6,.bool false),(7,.bool (!decide (ai .i64 a1.Has 1=0)))]) (L':=[ah a8 50 [iV 0,iV 0,.string (⟨#[]⟩),iV 0,iV 0,iV 0,.string (⟨#[]⟩),iV 0,iV 0,.string (⟨#[]⟩),iV 0,iV 0,.string (⟨#[]⟩)],ah B5 35 [.bool false,.bool false,W none 0 0,W none 0 0],ah B4 41 (iv a1),ah B3 35 (jX a0 A1 n1 c1 A2 n2 c2),aQ A1 n1 c1 a0.Zs,qS A2 n2 c2 a0.Zt]) ?_ ml (ae _);refine pU 7 J O (ao (us:=co a6.1) (cs':=co a6.1) 0 J J J J size50.out J J J) J J ?_;rintro _ _ rfl;refine CS 8 J O (ck J) J J J<|mj O<|ab ?_;refine aB<|aB ?_;obtain ⟨e1,e2,h⟩:=aa h;obtain ⟨a7,e3,h⟩:=aa h;refine gw (t:=[(2,pV B3 0),(3,pV B4 0),(4,pV B5 0),(5,.bool false),(6,.bool false),(7,.bool (!decide (ai .i64 a1.Has 1=0))),(8,pV a8 0)]) ?_ ml (ae _)
 refine iR O 10 [8] [7,8,9] [44,45,46,47,48,49,43,50,51,10] [[],[],[1],[],[],[0,2,3,4],[5],[6],[6],[]] [aV ((cm a6.1)),
aV (pV B3 0),
aV (.bool a0.Ext),
aV (.agg #[iV e1.Zh,iV e1.N,.string e1.S]),
aV ((fT a1)),
aV (.tuple #[(cm a7.1),.bool a7.2]),
aV (.tuple #[(cm a7.1),.bool a7.2]),
aV ((cm a7.1)),
aV (.bool a7.2),
aX1 (fun (b0:Nat)=>pV b0 0) (fun b0=> [ah b0 50 [iV 0,iV 0,.string (⟨#[]⟩),iV 0,iV 0,iV 0,.string (⟨#[]⟩),iV 0,iV 0,.string (⟨#[]⟩),iV 0,iV 0,.string (⟨#[]⟩)]])] [] (ae _) (fu rfl me) O rfl rfl ?_ ?_ ?_
 ·exact ft J (nK (dl J J) J (iI J (ae _)))<|md
 ·refine aG J ?_ ?_
  ·refine tH (bF zero50.out J) J ?_;rintro _ _ ⟨e8,rfl,rfl⟩;exact Oi e8 (ae _)
  refine qE (dl J J) ?_;refine qE (dl J J) ?_;refine qE (ap J) ?_;refine aG J ?_ ?_
  ·refine tH (oR (BM e3)) J ?_;rintro _ _ ⟨_,⟨rfl,rfl⟩,rfl⟩;exact iI J (ae _)
  refine qR (aD (us:=iv a1) 2 J J agg41.out J) ?_;refine aG J ?_ ?_
  ·refine tH (oR (iW e2)) J ?_;rintro _ _ ⟨_,⟨rfl,rfl⟩,rfl⟩;exact iI J (ae _)
  refine qR (cD 3 J J Ux J) ?_;refine qE (rE J MF) ?_;refine qR (aD (us:=co a6.1) 0 J J agg50.out J) ?_;exact dK
 intro b0;refine oq (t:=[(50,(cm a7.1)),(51,.bool a7.2),(10,pV b0 0),(2,pV B3 0),(3,pV B4 0),(4,pV B5 0),(5,.bool false),(6,.bool false),(7,.bool (!decide (ai .i64 a1.Has 1=0))),(8,pV a8 0)]) (L':=[ah b0 50 [iV 0,iV 0,.string (⟨#[]⟩),iV 0,iV 0,iV 0,.string (⟨#[]⟩),iV 0,iV 0,.string (⟨#[]⟩),iV 0,iV 0,.string (⟨#[]⟩)],ah a8 50 (co a6.1),ah B5 35 [.bool false,.bool false,W none 0 0,W none 0 0],ah B4 41 (iv a1),ah B3 35 (jX a0 A1 n1 c1 A2 n2 c2),aQ A1 n1 c1 a0.Zs,qS A2 n2 c2 a0.Zt]) ?_ ml (ae _);refine pU 10 J O (ao (us:=co a7.1) (cs':=co a7.1) 0 J J J J size50.out J J J) J J ?_;rintro _ _ rfl;refine Ar ?_;refine CS 11 J O (ck J) J J J<|mj O<|dk h (fun h=> ?_) (fun h=> ?_)
 ·exact eY
 refine ab ?_;refine ak (fun s L=> ∃b5 p21 e4 b9 c7 c8 c9 d0 d1 d2 d3,km N a1 b5 p21 e4 b9 c7=some r/\s=[(2,pV B3 0),(3,pV B4 0),(4,pV B5 0),(5,.bool false),(6,.bool false),(12,.bool b5)]/\L=[aQ c8 c9 d0 b9,qS d1 d2 d3 c7,ah B3 35 [.bool p21,.bool e4,W c8 c9 d0,W d1 d2 d3],ah B4 41 (iv a1),ah B5 35 [.bool false,.bool false,W none 0 0,W none 0 0]]) ?_ ?_
 ·refine dk h ?_ ?_<;>intro h
  ·refine ab ?_;obtain ⟨e9,k,h⟩:=aa h
   refine SC (oC (Aj k)) fun f0 f1 f2 f3 f4 f6=> ?_
   exact jN
  exact jY
 rintro _ _ ⟨b5,p21,e4,b9,c7,c8,c9,d0,d1,d2,d3,h,rfl,rfl⟩;refine ak (fun s L=> ∃e5,kl N b5 b9 c7 p21 e5=some r/\s=[(2,pV B3 0),(4,pV B5 0),(5,.bool false),(6,.bool false),(12,.bool b5)]/\L=[aQ c8 c9 d0 b9,qS d1 d2 d3 c7,ah B3 35 [.bool p21,.bool e5,W c8 c9 d0,W d1 d2 d3],ah B5 35 [.bool false,.bool false,W none 0 0,W none 0 0]]) ?_ ?_
 ·refine ab ?_;refine fS (aP J J) ?_
  refine JW 5 73 68 h (fun _ e6 h=> ?_) (fun _ e6 h=> ?_) fun f9 h=> ?_
  ·refine ab ?_;exact eP (aP J J) J (bW e6 J) J<|gY
  ·exact gY
  refine dk h ?_ ?_<;>intro h
  ·exact jY
  exact jY
 rintro _ _ ⟨e5,h,rfl,rfl⟩;exact eY
def wJ (N:Nat)(a0:W6)(a6:Xh):Option W6:=
 some (⟨a0.Ext,a0.Zz,a0.Zs,a6⟩:W6)
def nv (a0:W6)(a1:WS):Option W6:=
 (lE N a0 a1.Zo).bind fun y6=>aI ((([]:List WS).length+a0.Zt.length)<=549755813888) (bif decide (y6<0) then (aI (((([]:List WS)++a0.Zt).length+([a1]:List WS).length)<=549755813888) (wJ N a0 ((([]:List WS)++a0.Zt)++([a1]:List WS)))) else ((aq (([]:List WS)++a0.Zt) y6).bind fun a6=>wJ N a0 (List.set (([]:List WS)++a0.Zt) y6.toNat (⟨(⟨a1.Zo.Zh,a1.Zo.N,a1.Zo.S⟩:WX),a1.Zk,(⟨a1.Value.Zh,a1.Value.N,a1.Value.S⟩:WZ),(⟨a1.Zx.Zh,a1.Zx.N,a1.Zx.S⟩:WZ),(⟨a1.Zy.Zh,a1.Zy.N,a1.Zy.S⟩:WZ)⟩:WS))))
theorem DT {N:Nat}{a0:W6}{a1:WS}{r:W6}(h:nv N a0 a1=some r):Okc Xk 74 [.agg #[.bool a0.Ext,.bool a0.Zz,W A1 n1 c1,W A2 n2 c2],(cm a1)] ([aQ A1 n1 c1 a0.Zs,qS A2 n2 c2 a0.Zt]) (fun u post=> ∃A0 n0 c0 A1 n1 c1,u=.agg #[.bool r.Ext,.bool r.Zz,W A0 n0 c0,W A1 n1 c1]/\post=[aQ A0 n0 c0 r.Zs,qS A1 n1 c1 r.Zt]):=by
 refine ce Tryz.func74 ?_;intro B3
 refine cl fun B4=> ?_
 intro B5
 refine cR h (fun _ k=>wK k) fun y6 h=> ?_
 refine sI (aw (R:=ip) (vss:=[]) (xs:=[]) J (Ki) J J (fun _ _ hr=>All2.nil)) fun A7 n7 c7=> ?_
 obtain ⟨q8,h⟩:=ac h
 refine sI (uv 0 5 J J aE J J Ex Qy J J J q8) fun A9 n9 c9=> ?_
 refine ak (fun s L=> ∃b0 a6 a7 a8,wJ N a0 b0=some r/\s=[(2,pV B3 0),(4,pV B5 0),(6,W a6 a7 a8)]/\L=[bf ip 50 (W a6 a7 a8) b0,aQ A1 n1 c1 a0.Zs,qS A2 n2 c2 a0.Zt,ah B3 35 (jX a0 A1 n1 c1 A2 n2 c2),ah B5 35 [.bool false,.bool false,W none 0 0,W none 0 0]]) ?_ ?_
 ·refine dk h ?_ ?_<;>intro h
  ·refine ab ?_;refine gD (aw (R:=ip) (vss:=[(co a1)]) (xs:=[a1]) J (Gu _ _ _ _ _ _ _ _ _ _ _ _ _) J J (fun _ _ hr=> .cons J All2.nil)) ?_;rintro _ _ ⟨c8,d0,d1,rfl,rfl⟩;obtain ⟨b9,h⟩:=ac h
   refine sI (uv 1 0 J J aj J J Ex Qy J J J b9) fun d2 d3 d4=> ?_
   exact jN
  refine ab ?_;obtain ⟨d6,b5,b6,b7,h⟩:=ba h;refine ab ?_;refine GB (bZ (us:=co a1) (z:=(⟨(⟨a1.Zo.Zh,a1.Zo.N,a1.Zo.S⟩:WX),a1.Zk,(⟨a1.Value.Zh,a1.Value.N,a1.Value.S⟩:WZ),(⟨a1.Zx.Zh,a1.Zx.N,a1.Zx.S⟩:WZ),(⟨a1.Zy.Zh,a1.Zy.N,a1.Zy.S⟩:WZ)⟩:WS)) 0 J J J J size50.out J (toNat_lt b5 b6) J (fun S w vs xk hk hr ho=>by obtain rfl:=YX (hk.symm.trans b7);rw [show _=_ from hr];rfl)) ?_;exact ⟨_,_,⟨List.set (([]:List WS)++a0.Zt) y6.toNat (⟨(⟨a1.Zo.Zh,a1.Zo.N,a1.Zo.S⟩:WX),a1.Zk,(⟨a1.Value.Zh,a1.Value.N,a1.Value.S⟩:WZ),(⟨a1.Zx.Zh,a1.Zx.N,a1.Zx.S⟩:WZ),(⟨a1.Zy.Zh,a1.Zy.N,a1.Zy.S⟩:WZ)⟩:WS),A9,n9,c9,h,J,J⟩,sA,cS [0,4,5,3,1] 6⟩
 rintro _ _ ⟨b0,a6,a7,a8,h,rfl,rfl⟩;refine ab ?_;obtain rfl:=bJ h;exact kL (rs:=[.cell 4 35]) (vs:=[.agg #[.bool a0.Ext,.bool a0.Zz,W A1 n1 c1,W a6 a7 a8]]) J (.cons (dy 4 J J agg35.out) .nil) J ((bn 0 J).trans (cS [1,0] 5)) ⟨_,_,_,_,_,_,J,J⟩
def gC (a0:W6)(a1:WX)(a2:WW):Option (W6×Bool×Bool):=
 (pM N a1).bind fun y7=>(bif !y7 then (some true) else ((dZ N a2).bind fun y9=>some (!y9))).bind fun b8=>bif b8 then (some (a0,false,false)) else ((cE N).bind fun b7=>bif decide (a1=b7) then ((o5 N a0 a2).bind fun a8=>some (a8.1,a8.2.1,a8.2.2)) else ((ll N a0 a1).bind fun b5=>(lF N b5.1 b5.2 a0.Ext a1 a2).bind fun a7=>bif !a7.2 then (some (a0,false,false)) else ((lE N a0 a1).bind fun b9=>(bif decide (b9<0) then (some (decide (1024<=(a0.Zt.length:Int)))) else (some false)).bind fun b6=>bif !decide (a1.Zh=0) then (bif b6 then (some (a0,false,false)) else ((nv N a0 a7.1).bind fun c7=>some (c7,true,false))) else (bif decide (4096<=a1.N) then (some (a0,false,true)) else ((bif decide ((a0.Zs.length:Int)<=a1.N) then (some a0.Zz) else (some false)).bind fun c8=>bif c8 then (some (a0,false,false)) else ((bif b6 then (some (!decide (a7.1.Zk=7))) else (some false)).bind fun c9=>bif c9 then (some (a0,false,false)) else (aI (in64 (a1.N+1)) ((nw N a0 (a1.N+1)).bind fun a6=>bif decide (a7.1.Zk=7) then ((aq a6.Zs a1.N).bind fun d2=>(ej N (⟨a6.Ext,a6.Zz,List.set a6.Zs a1.N.toNat (⟨a7.1.Value.Zh,a7.1.Value.N,a7.1.Value.S⟩:WZ),a6.Zt⟩:W6) a1).bind fun d0=>some (d0,true,false)) else ((iq N).bind fun b0=>(aq a6.Zs a1.N).bind fun d3=>(nv N (⟨a6.Ext,a6.Zz,List.set a6.Zs a1.N.toNat (⟨b0.Zh,b0.N,b0.S⟩:WZ),a6.Zt⟩:W6) a7.1).bind fun d1=>some (d1,true,false))))))))))
theorem GL {N:Nat}{a0:W6}{a1:WX}{a2:WW}{r:W6×Bool×Bool}(h:gC N a0 a1 a2=some r):Okc Xk 30 [.agg #[.bool a0.Ext,.bool a0.Zz,W A1 n1 c1,W A2 n2 c2],(eI a1),(fT a2)] ([aQ A1 n1 c1 a0.Zs,qS A2 n2 c2 a0.Zt]) (fun u post=> ∃A0 n0 c0 A1 n1 c1,u=.tuple #[.agg #[.bool r.1.Ext,.bool r.1.Zz,W A0 n0 c0,W A1 n1 c1],.bool r.2.1,.bool r.2.2]/\post=[aQ A0 n0 c0 r.1.Zs,qS A1 n1 c1 r.1.Zt]):=by
 refine Ca Tryz.func30 J J ?_;simp only [qI];refine Y ?_
 refine gB (rt J J) fun B3=>gB (rt J J) fun B4=>gB (rt J J) fun B5=>gB (bF zero35.out J) fun B6=>Y ?_
 refine aB<|Y ?_;refine gR (aD (us:=jw a1) 2 J J agg39.out J) ?_;obtain ⟨y7,k,h⟩:=aa h;refine gV (aX (BN k) J (ax) yx)<|Y ?_;obtain ⟨b8,h7,h⟩:=aa h;refine ii 4 20 b8 ?_ ?_
 ·clear h;refine fU 16 J (fun g8=> ?_) (fun g8=> ?_)
  ·have h:=cZ g8 h7;refine Y ?_;obtain rfl:=bJ h;exact bD sA (cS [0,1,2,3,4,5] 6)
  have h:=db g8 h7;refine sv (aD (us:=iv a2) 1 J J agg41.out J) J (cG g8 J) J ?_;obtain ⟨y9,k,h⟩:=aa h;refine gU (aX (It k) J (ax) Fl) (cG g8 J)<|Y ?_;obtain rfl:=bJ h;exact bD sA (cS [0,1,2,3,4,5] 6)
 refine Y ?_;refine gH J h ?_ ?_<;>intro h
 ·refine Y ?_;refine gR (aD (us:=(jX a0 A1 n1 c1 A2 n2 c2)) 3 J J agg35.out J)<|gW (ao (us:=(jX a0 A1 n1 c1 A2 n2 c2)) (cs':=(jX a0 A1 n1 c1 A2 n2 c2)) 0 J J J J size35.out J J J)<|Y ?_;obtain rfl:=bJ h;exact kL (rs:=[.cell 6 35,.tmp 7,.tmp 8]) (vs:=[.agg #[.bool a0.Ext,.bool a0.Zz,W A1 n1 c1,W A2 n2 c2],.bool false,.bool false]) J (.cons (dy 0 J J agg35.out) (.cons (dR J) (.cons (dR J) .nil))) J (cS [4,5] 6) ⟨_,_,_,_,_,_,J,J⟩
 refine Y ?_;refine aB<|aB<|be O _ (ae _)<|zR 0 J (aD (us:=jw a1) 2 J J agg39.out J) ?_;obtain ⟨h9,k,h⟩:=aa h;refine zD 1 J (aX (iW k) J (ax) o6) ?_;rintro _ _ ⟨_,⟨rfl,rfl⟩,rfl⟩;refine ⟨_,ae _,ae _,?_⟩;refine zE 2 J (wp (x:=a1) (y:=h9) J J) ?_;refine aY O<|qx<|gH J h (fun h=> ?_) (fun h=> ?_)
 ·refine Y ?_;refine gR (aD (us:=(jX a0 A1 n1 c1 A2 n2 c2)) 3 J J agg35.out J)<|gR (aD (us:=iv a2) 1 J J agg41.out J) ?_;obtain ⟨b0,k,h⟩:=aa h;refine gD (dt (C7 k) J (bI [4,5] [] [0,1,2,3,4,5] 6 J)) ?_;rintro _ _ ⟨_,⟨e6,e7,e8,e9,f0,f1,rfl,rfl⟩,rfl⟩;refine Y ?_;refine gW (ao (us:=(jX b0.1 e6 e7 e8 e9 f0 f1)) (cs':=(jX b0.1 e6 e7 e8 e9 f0 f1)) 2 J J J J size35.out J J J)<|oS ?_;refine Y ?_;obtain rfl:=bJ h;exact kL (rs:=[.cell 6 35,.tmp 7,.tmp 8]) (vs:=[.agg #[.bool b0.1.Ext,.bool b0.1.Zz,W e6 e7 e8,W e9 f0 f1],.bool b0.2.1,.bool b0.2.2]) J (.cons (dy 2 J J agg35.out) (.cons (dR J) (.cons (dR J) .nil))) J (cS [0,1] 8) ⟨_,_,_,_,_,_,J,J⟩
 refine Y ?_;refine gR (aD (us:=(jX a0 A1 n1 c1 A2 n2 c2)) 3 J J agg35.out J)<|gR (aD (us:=jw a1) 2 J J agg39.out J) ?_;obtain ⟨f2,k,h⟩:=aa h;refine gV (aX (um k) J (t5 (cQ (i:=4) J J) (t5 (cQ (i:=5) J J) ax)) BL)<|Y ?_
 refine gB (bF zero50.out J) fun i3=>gW (ao (us:=co f2.1) (cs':=co f2.1) 0 J J J J size50.out J J J)<|Y ?_
 refine gR (aD (us:=co f2.1) 0 J J agg50.out J)<|Y ?_;refine gR (aD (us:=jw a1) 3 J J agg39.out J)<|gR (aD (us:=iv a2) 2 J J agg41.out J) ?_;obtain ⟨a6,k,h⟩:=aa h;refine gV (aX (BM k) J (ax) Fm)<|Y ?_;refine gW (ao (us:=co a6.1) (cs':=co a6.1) 0 J J J J size50.out J J J)<|Y ?_;refine aB<|Y ?_;refine gH J h ?_ ?_<;>intro h
 ·refine Y ?_;refine gR (aD (us:=(jX a0 A1 n1 c1 A2 n2 c2)) 4 J J agg35.out J)<|gW (ao (us:=(jX a0 A1 n1 c1 A2 n2 c2)) (cs':=(jX a0 A1 n1 c1 A2 n2 c2)) 1 J J J J size35.out J J J)<|oS ?_;refine Y ?_;obtain rfl:=bJ h;exact kL (rs:=[.cell 6 35,.tmp 7,.tmp 8]) (vs:=[.agg #[.bool a0.Ext,.bool a0.Zz,W A1 n1 c1,W A2 n2 c2],.bool false,.bool false]) J (.cons (dy 1 J J agg35.out) (.cons (dR J) (.cons (dR J) .nil))) J (cS [5,6] 7) ⟨_,_,_,_,_,_,J,J⟩
 refine Y ?_;refine gR (aD (us:=(jX a0 A1 n1 c1 A2 n2 c2)) 4 J J agg35.out J)<|gR (aD (us:=jw a1) 3 J J agg39.out J) ?_;obtain ⟨i4,k,h⟩:=aa h;refine gV (aX (wK k) J (t5 (cQ (i:=5) J J) (t5 (cQ (i:=6) J J) ax)) Fk)<|Y ?_;obtain ⟨i0,b6,h⟩:=aa h;refine ii 5 59 i0 ?_ ?_
 ·clear h;refine fU 54 J (fun d1=> ?_) (fun d1=> ?_)
  ·have h:=cZ d1 b6;refine Y ?_;refine sv (jO 6 J aE J Ex) J (bW d1 J) J<|Y ?_;obtain rfl:=bJ h;exact bD sA (cS [0,1,2,3,4,5,6] 7)
  have h:=db d1 b6;refine Y ?_;obtain rfl:=bJ h;exact bD sA (cS [0,1,2,3,4,5,6] 7)
 refine Y ?_;refine aB<|Y ?_;refine gH J h ?_ ?_<;>intro h
 ·refine aB<|Y ?_;refine gH J h ?_ ?_<;>intro h
  ·refine Y ?_;refine gR (aD (us:=(jX a0 A1 n1 c1 A2 n2 c2)) 4 J J agg35.out J)<|gW (ao (us:=(jX a0 A1 n1 c1 A2 n2 c2)) (cs':=(jX a0 A1 n1 c1 A2 n2 c2)) 1 J J J J size35.out J J J)<|Y ?_;obtain rfl:=bJ h;exact kL (rs:=[.cell 6 35,.tmp 7,.tmp 8]) (vs:=[.agg #[.bool a0.Ext,.bool a0.Zz,W A1 n1 c1,W A2 n2 c2],.bool false,.bool false]) J (.cons (dy 1 J J agg35.out) (.cons (dR J) (.cons (dR J) .nil))) J (cS [5,6] 7) ⟨_,_,_,_,_,_,J,J⟩
  refine Y ?_;refine gR (aD (us:=(jX a0 A1 n1 c1 A2 n2 c2)) 4 J J agg35.out J)<|gR (aD (us:=co a6.1) 0 J J agg50.out J) ?_;obtain ⟨d2,k,h⟩:=aa h;refine gD (dt (DT k) J (bI [5,6] [] [0,1,2,3,4,5,6] 7 J)) ?_;rintro _ _ ⟨_,⟨f3,f4,f6,f9,g0,g1,rfl,rfl⟩,rfl⟩;refine gW (ao (us:=(jX d2 f3 f4 f6 f9 g0 g1)) (cs':=(jX d2 f3 f4 f6 f9 g0 g1)) 3 J J J J size35.out J J J)<|oS ?_;refine Y ?_;obtain rfl:=bJ h;exact kL (rs:=[.cell 6 35,.tmp 7,.tmp 8]) (vs:=[.agg #[.bool d2.Ext,.bool d2.Zz,W f3 f4 f6,W f9 g0 g1],.bool true,.bool false]) J (.cons (dy 3 J J agg35.out) (.cons (dR J) (.cons (dR J) .nil))) J (cS [0,1] 9) ⟨_,_,_,_,_,_,J,J⟩
 refine Y ?_;refine aB<|Y ?_;refine gH J h ?_ ?_<;>intro h
 ·refine Y ?_;refine gR (aD (us:=(jX a0 A1 n1 c1 A2 n2 c2)) 4 J J agg35.out J)<|gW (ao (us:=(jX a0 A1 n1 c1 A2 n2 c2)) (cs':=(jX a0 A1 n1 c1 A2 n2 c2)) 1 J J J J size35.out J J J)<|Y ?_;obtain rfl:=bJ h;exact kL (rs:=[.cell 6 35,.tmp 7,.tmp 8]) (vs:=[.agg #[.bool a0.Ext,.bool a0.Zz,W A1 n1 c1,W A2 n2 c2],.bool false,.bool true]) J (.cons (dy 1 J J agg35.out) (.cons (dR J) (.cons (dR J) .nil))) J (cS [5,6] 7) ⟨_,_,_,_,_,_,J,J⟩
 refine Y ?_;refine aB<|Y ?_;refine gR (jO 5 J aE J t9)<|Y ?_;obtain ⟨i1,b7,h⟩:=aa h;refine ii 3 81 i1 ?_ ?_
 ·clear h;refine fU 78 J (fun g2=> ?_) (fun g2=> ?_)
  ·have h:=cZ g2 b7;refine Y ?_;obtain rfl:=bJ h;exact bD sA (cS [0,1,2,3,4,5,6] 7)
  have h:=db g2 b7;refine Y ?_;obtain rfl:=bJ h;exact bD sA (cS [0,1,2,3,4,5,6] 7)
 refine Y ?_;refine gH J h ?_ ?_<;>intro h
 ·refine Y ?_;refine gR (aD (us:=(jX a0 A1 n1 c1 A2 n2 c2)) 4 J J agg35.out J)<|gW (ao (us:=(jX a0 A1 n1 c1 A2 n2 c2)) (cs':=(jX a0 A1 n1 c1 A2 n2 c2)) 1 J J J J size35.out J J J)<|Y ?_;obtain rfl:=bJ h;exact kL (rs:=[.cell 6 35,.tmp 7,.tmp 8]) (vs:=[.agg #[.bool a0.Ext,.bool a0.Zz,W A1 n1 c1,W A2 n2 c2],.bool false,.bool false]) J (.cons (dy 1 J J agg35.out) (.cons (dR J) (.cons (dR J) .nil))) J (cS [5,6] 7) ⟨_,_,_,_,_,_,J,J⟩
 refine Y ?_;refine aB<|Y ?_;obtain ⟨i2,b9,h⟩:=aa h;refine ii 4 88 i2 ?_ ?_
 ·clear h;refine fU 84 J (fun g3=> ?_) (fun g3=> ?_)
  ·have h:=cZ g3 b9;refine Y ?_;obtain rfl:=bJ h;exact bD sA (cS [0,1,2,3,4,5,6] 7)
  have h:=db g3 b9;refine Y ?_;obtain rfl:=bJ h;exact bD sA (cS [0,1,2,3,4,5,6] 7)
 refine Y ?_;refine gH J h ?_ ?_<;>intro h
 ·refine Y ?_;refine gR (aD (us:=(jX a0 A1 n1 c1 A2 n2 c2)) 4 J J agg35.out J)<|gW (ao (us:=(jX a0 A1 n1 c1 A2 n2 c2)) (cs':=(jX a0 A1 n1 c1 A2 n2 c2)) 1 J J J J size35.out J J J)<|oS ?_;refine Y ?_;obtain rfl:=bJ h;exact kL (rs:=[.cell 6 35,.tmp 7,.tmp 8]) (vs:=[.agg #[.bool a0.Ext,.bool a0.Zz,W A1 n1 c1,W A2 n2 c2],.bool false,.bool false]) J (.cons (dy 1 J J agg35.out) (.cons (dR J) (.cons (dR J) .nil))) J (cS [5,6] 7) ⟨_,_,_,_,_,_,J,J⟩
 refine Y ?_;refine gR (aD (us:=(jX a0 A1 n1 c1 A2 n2 c2)) 4 J J agg35.out J)<|Y ?_;obtain ⟨h8,h⟩:=ac h;refine gE (iO J J h8.1 h8.2) ?_;obtain ⟨d3,k,h⟩:=aa h;refine gD (dt (yo k) J (bI [5,6] [] [0,1,2,3,4,5,6] 7 J)) ?_;rintro _ _ ⟨_,⟨d4,d6,e0,e1,e2,e3,rfl,rfl⟩,rfl⟩;refine gW (ao (us:=(jX d3 d4 d6 e0 e1 e2 e3)) (cs':=(jX d3 d4 d6 e0 e1 e2 e3)) 6 J J J J size35.out J J J)<|Y ?_;refine aB<|Y ?_;refine gH J h ?_ ?_<;>intro h
 ·refine Y ?_;refine gR (aD (us:=bU a6.1.Value) 2 J J agg28.out J) ?_;obtain ⟨i5,a7,h⟩:=aa h;obtain ⟨c7,c8,a7⟩:=fI a7;refine gR (bS 0 J aj J J t9 size28.out c7 c8)<|gW (bZ (us:=bU a6.1.Value) (z:=(⟨a6.1.Value.Zh,a6.1.Value.N,a6.1.Value.S⟩:WZ)) 0 J J J J size28.out J (toNat_lt c7 c8) J (fun S w vs xk hk hr ho=>by obtain rfl:=YX (hk.symm.trans a7);rw [show _=_ from hr];rfl))<|oS ?_;refine Y ?_;refine gR (aD (us:=(jX d3 d4 d6 e0 e1 e2 e3)) 6 J J agg35.out J)<|gR (aD (us:=jw a1) 5 J J agg39.out J) ?_;obtain ⟨e4,k,h⟩:=aa h;refine mP (bn 0 J)<|gD (dt (uk k) J (bI [0,1] [] [0,1,2,3,4,5,6,7,8] 9 J)) ?_;rintro _ _ ⟨_,⟨g4,g5,g6,g7,g9,h0,rfl,rfl⟩,rfl⟩;refine gW (ao (us:=(jX e4 g4 g5 g6 g7 g9 h0)) (cs':=(jX e4 g4 g5 g6 g7 g9 h0)) 5 J J J J size35.out J J J)<|oS ?_;refine Y ?_;obtain rfl:=bJ h;exact kL (rs:=[.cell 6 35,.tmp 7,.tmp 8]) (vs:=[.agg #[.bool e4.Ext,.bool e4.Zz,W g4 g5 g6,W g7 g9 h0],.bool true,.bool false]) J (.cons (dy 5 J J agg35.out) (.cons (dR J) (.cons (dR J) .nil))) J (cS [0,1] 11) ⟨_,_,_,_,_,_,J,J⟩
 refine Y ?_;refine aB<|be O _ (ae _)<|zE 0 J (kK J EL) ?_;refine zR 1 J (cD 6 J J sj J) ?_;refine zE 2 J (kK J xd) ?_;refine zR 3 J (cD 5 J J wc J) ?_;obtain ⟨b5,k,h⟩:=aa h;refine zD 4 J (aX (pK k) J (ax) rO) ?_;rintro _ _ ⟨_,⟨rfl,rfl⟩,rfl⟩;refine ⟨_,ae _,ae _,?_⟩;obtain ⟨i6,a8,h⟩:=aa h;obtain ⟨c9,d0,a8⟩:=fI a8;refine zR 5 J (bS 0 J aj J J t9 size28.out c9 d0) ?_;refine gI 6 J O O (bZ (us:=[iV b5.Zh,iV b5.N,.string b5.S]) (z:=(⟨b5.Zh,b5.N,b5.S⟩:WZ)) 0 J J J J size28.out J (toNat_lt c9 d0) J (fun S w vs xk hk hr ho=>by obtain rfl:=YX (hk.symm.trans a8);rw [show _=_ from hr];rfl)) ?_;rintro _ _ rfl;refine aY O<|Y ?_;refine gR (aD (us:=(jX d3 d4 d6 e0 e1 e2 e3)) 6 J J agg35.out J)<|gR (aD (us:=co a6.1) 2 J J agg50.out J) ?_;obtain ⟨e5,k,h⟩:=aa h;refine mP (bn 0 J)<|gD (dt (DT k) J (bI [0,1] [] [0,1,2,3,4,5,6,7,8] 9 J)) ?_;rintro _ _ ⟨_,⟨h1,h2,h3,h4,h5,h6,rfl,rfl⟩,rfl⟩;refine gW (ao (us:=(jX e5 h1 h2 h3 h4 h5 h6)) (cs':=(jX e5 h1 h2 h3 h4 h5 h6)) 5 J J J J size35.out J J J)<|oS ?_;refine Y ?_;obtain rfl:=bJ h
 exact kL (rs:=[.cell 6 35,.tmp 7,.tmp 8]) (vs:=[.agg #[.bool e5.Ext,.bool e5.Zz,W h1 h2 h3,W h4 h5 h6],.bool true,.bool false]) J (.cons (dy 5 J J agg35.out) (.cons (dR J) (.cons (dR J) .nil))) J (cS [0,1] 11) ⟨_,_,_,_,_,_,J,J⟩
def ql (a1:WX)(a6 a7:Bool)(p13:W8)(a8:Xh):Option (W6×Bool):=
 (ej N (⟨a6,a7,p13,a8⟩:W6) a1).bind fun b0=>some (b0,true)
def tg (a0:W6)(a1:WX):Option (W6×Bool):=
 (ll N a0 a1).bind fun y6=>bif !y6.2 then (some (a0,true)) else (bif decide (ai .i64 y6.1.Zk 4=0) then (some (a0,false)) else ((bif decide (a1.Zh=0) then (some (decide (a1.N<(a0.Zs.length:Int)))) else (some false)).bind fun a8=>bif a8 then ((nw N a0 0).bind fun a6=>(iq N).bind fun a7=>(aq a6.Zs a1.N).bind fun b0=>ql N a1 a6.Ext a6.Zz (List.set a6.Zs a1.N.toNat (⟨a7.Zh,a7.N,a7.S⟩:WZ)) a6.Zt) else (ql N a1 a0.Ext a0.Zz a0.Zs a0.Zt)))
theorem GK {N:Nat}{a0:W6}{a1:WX}{r:W6×Bool}(h:tg N a0 a1=some r):Okc Xk 31 [.agg #[.bool a0.Ext,.bool a0.Zz,W A1 n1 c1,W A2 n2 c2],(eI a1)] ([aQ A1 n1 c1 a0.Zs,qS A2 n2 c2 a0.Zt]) (fun u post=> ∃A0 n0 c0 A1 n1 c1,u=.tuple #[.agg #[.bool r.1.Ext,.bool r.1.Zz,W A0 n0 c0,W A1 n1 c1],.bool r.2]/\post=[aQ A0 n0 c0 r.1.Zs,qS A1 n1 c1 r.1.Zt]):=by
 refine Ca Tryz.func31 J J ?_;simp only [qI];refine Y ?_
 refine gB (rt J J) fun B3=>gB (rt J J) fun B4=>gB (bF zero35.out J) fun B5=>Y ?_
 refine gR (aD (us:=(jX a0 A1 n1 c1 A2 n2 c2)) 2 J J agg35.out J)<|gR (aD (us:=jw a1) 1 J J agg39.out J) ?_;obtain ⟨y6,k,h⟩:=aa h;refine gV (aX (um k) J (t5 (cQ (i:=3) J J) (t5 (cQ (i:=4) J J) ax)) BL)<|Y ?_
 refine gB (bF zero50.out J) fun B7=>gW (ao (us:=co y6.1) (cs':=co y6.1) 0 J J J J size50.out J J J)<|Y ?_
 refine aB<|Y ?_;refine gH J h ?_ ?_<;>intro h
 ·refine Y ?_;refine gR (aD (us:=(jX a0 A1 n1 c1 A2 n2 c2)) 3 J J agg35.out J)<|gW (ao (us:=(jX a0 A1 n1 c1 A2 n2 c2)) (cs':=(jX a0 A1 n1 c1 A2 n2 c2)) 1 J J J J size35.out J J J)<|Y ?_;obtain rfl:=bJ h;exact kL (rs:=[.cell 4 35,.tmp 5]) (vs:=[.agg #[.bool a0.Ext,.bool a0.Zz,W A1 n1 c1,W A2 n2 c2],.bool true]) J (.cons (dy 1 J J agg35.out) (.cons (dR J) .nil)) J (cS [4,5] 6) ⟨_,_,_,_,_,_,J,J⟩
 refine Y ?_;refine aB<|Y ?_;refine gE (aP J J)<|Y ?_;refine gH J h ?_ ?_<;>intro h
 ·refine Y ?_;refine gR (aD (us:=(jX a0 A1 n1 c1 A2 n2 c2)) 3 J J agg35.out J)<|gW (ao (us:=(jX a0 A1 n1 c1 A2 n2 c2)) (cs':=(jX a0 A1 n1 c1 A2 n2 c2)) 1 J J J J size35.out J J J)<|oS ?_;refine Y ?_;obtain rfl:=bJ h;exact kL (rs:=[.cell 4 35,.tmp 5]) (vs:=[.agg #[.bool a0.Ext,.bool a0.Zz,W A1 n1 c1,W A2 n2 c2],.bool false]) J (.cons (dy 1 J J agg35.out) (.cons (dR J) .nil)) J (cS [4,5] 6) ⟨_,_,_,_,_,_,J,J⟩
 refine Y ?_;refine ak (fun s L=> ∃b7 b9 p13 d6 c7 c8 c9 d0 d1 d2,ql N a1 b7 b9 p13 d6=some r/\s=[(2,pV B3 0),(3,pV B4 0),(4,pV B5 0),(5,.bool false)]/\L=[aQ c7 c8 c9 p13,qS d0 d1 d2 d6,ah B3 35 [.bool b7,.bool b9,W c7 c8 c9,W d0 d1 d2],ah B4 39 (jw a1),ah B5 35 [.bool false,.bool false,W none 0 0,W none 0 0]]) ?_ ?_
 ·refine Y ?_;obtain ⟨f2,b0,h⟩:=aa h;refine ii 7 32 f2 ?_ ?_
  ·clear h;refine fU 25 J (fun d3=> ?_) (fun d3=> ?_)
   ·have h:=cZ d3 b0;refine Y ?_;refine sv (jO 4 J aE J t9) J (bW d3 J) J<|Y ?_;obtain rfl:=bJ h;exact bD sA (cS [0,1,2,3,4,5] 6)
   have h:=db d3 b0;refine Y ?_;obtain rfl:=bJ h;exact bD sA (cS [0,1,2,3,4,5] 6)
  refine Y ?_;refine gH J h ?_ ?_<;>intro h
  ·refine Y ?_;refine gR (aD (us:=(jX a0 A1 n1 c1 A2 n2 c2)) 3 J J agg35.out J) ?_;obtain ⟨a8,k,h⟩:=aa h;refine gD (dt (yo k) J (bI [4,5] [] [0,1,2,3,4,5] 6 J)) ?_;rintro _ _ ⟨_,⟨e0,e1,e2,e3,e4,e5,rfl,rfl⟩,rfl⟩;refine gW (ao (us:=(jX a8 e0 e1 e2 e3 e4 e5)) (cs':=(jX a8 e0 e1 e2 e3 e4 e5)) 5 J J J J size35.out J J J)<|Y ?_;refine be O _ (ae _)<|zE 0 J (kK J EL) ?_;refine zR 1 J (cD 5 J J sj J) ?_;refine zE 2 J (kK J xd) ?_;refine zR 3 J (cD 4 J J wc J) ?_;obtain ⟨a6,k,h⟩:=aa h;refine zD 4 J (aX (pK k) J (ax) rO) ?_;rintro _ _ ⟨_,⟨rfl,rfl⟩,rfl⟩;refine ⟨_,ae _,ae _,?_⟩;obtain ⟨f3,a7,h⟩:=aa h;obtain ⟨b5,b6,a7⟩:=fI a7;refine zR 5 J (bS 0 J aj J J t9 size28.out b5 b6) ?_;refine gI 6 J O O (bZ (us:=[iV a6.Zh,iV a6.N,.string a6.S]) (z:=(⟨a6.Zh,a6.N,a6.S⟩:WZ)) 0 J J J J size28.out J (toNat_lt b5 b6) J (fun S w vs xk hk hr ho=>by obtain rfl:=YX (hk.symm.trans a7);rw [show _=_ from hr];rfl)) ?_;rintro _ _ rfl;exact aY O<|qx<|⟨_,_,⟨a8.Ext,a8.Zz,List.set a8.Zs a1.N.toNat (⟨a6.Zh,a6.N,a6.S⟩:WZ),a8.Zt,e0,e1,e2,e3,e4,e5,h,J,J⟩,sA,(bn 0 J).trans (cS [0,1,5,4,3] 8)⟩
  refine Y ?_;exact ⟨_,_,⟨a0.Ext,a0.Zz,a0.Zs,a0.Zt,A1,n1,c1,A2,n2,c2,h,J,J⟩,sA,cS [4,5,3,2,1] 6⟩
 rintro _ _ ⟨b7,b9,p13,d6,c7,c8,c9,d0,d1,d2,h,rfl,rfl⟩;refine Y ?_;refine gR (aD (us:=[.bool b7,.bool b9,W c7 c8 c9,W d0 d1 d2]) 2 J J agg35.out J)<|gR (aD (us:=jw a1) 3 J J agg39.out J) ?_;obtain ⟨d4,k,h⟩:=aa h;refine gD (dt (uk k) J (bI [0,1] [] [0,1,2,3,4] 5 J)) ?_;rintro _ _ ⟨_,⟨e6,e7,e8,e9,f0,f1,rfl,rfl⟩,rfl⟩;refine oS ?_;refine gW (ao (us:=(jX d4 e6 e7 e8 e9 f0 f1)) (cs':=(jX d4 e6 e7 e8 e9 f0 f1)) 6 J J J J size35.out J J J)<|Y ?_;obtain rfl:=bJ h;exact kL (rs:=[.cell 4 35,.tmp 5]) (vs:=[.agg #[.bool d4.Ext,.bool d4.Zz,W e6 e7 e8,W e9 f0 f1],.bool true]) J (.cons (dy 6 J J agg35.out) (.cons (dR J) .nil)) J (cS [0,1] 7) ⟨_,_,_,_,_,_,J,J⟩
def qO (a0:WP)(a1:WZ)(a2:WX):Option (Bool×WP):=
 (ca N a0 a1).bind fun y6=>bif !y6.2 then (some (false,a0)) else ((lI N a0 a1 a2).bind fun a6=>bif !a6.2 then (some (true,a0)) else (bif decide (ai .i64 a6.1.Zk 4=0) then (some (false,a0)) else ((bif decide (a2.Zh=0) then ((eu N y6.1 a2.N).bind fun a8=>some a8) else (some false)).bind fun b0=>bif b0 then ((aq y6.1.Zi a2.N).bind fun b6=>(aA N a0 a1 (⟨y6.1.Zh,y6.1.Zq,y6.1.Zm,y6.1.Zn,y6.1.Zj,List.set y6.1.Zi a2.N.toNat (⟨8,0,(⟨#[]⟩:ByteArray)⟩:WZ)⟩:W3)).bind fun b5=>some (true,b5)) else ((fM N a0 a1 a2).bind fun a7=>some (a7.1,a7.2)))))
theorem Eo {N:Nat}{a1:WZ}{r:Bool×WP}(h:qO N a0 a1 a2=some r){B1 B2 B3:Nat}:Okc Xk 32 [pV B1 0,(aF a1),(eI a2)] ([sG,oDWorld B1 B2 B3 a0]) (fun u post=>u=.bool r.1/\post=[oDWorld B1 B2 B3 r.2]):=by
 refine ce Tryz.func32 ?_;intro B4
 refine cl fun B5=> ?_
 refine G0 h (fun _ k=>dH k) fun y6 A7 n7 c7 A8 n8 c8 h=> ?_
 intro B9;refine sY ?_;refine gH J h ?_ ?_<;>intro h
 ·exact eY
 refine cR h (fun _ k=>xj k) fun b0 h=> ?_
 intro b5;refine sY ?_;refine gH J h ?_ ?_<;>intro h
 ·exact eY
 refine ab ?_;refine fS (aP J J) ?_;refine gH J h ?_ ?_<;>intro h
 ·exact eY
 refine ab ?_
 refine oz 5 43 38 h (fun _ b6 h=> ?_) fun b7 h=> ?_
 ·refine cR h (fun _ k=>zd k) fun b9 h=> ?_
  exact gY
 refine dk h ?_ ?_<;>intro h
 ·refine ab ?_;obtain ⟨c9,a6,a7,a8,h⟩:=ba h;refine ab ?_;refine GB (bZ (us:=UD) (z:=(⟨8,0,(⟨#[]⟩:ByteArray)⟩:WZ)) 3 J J J J size28.out J (toNat_lt a6 a7) J (fun S w vs xk hk hr ho=>by obtain rfl:=YX (hk.symm.trans a8);rw [show _=_ from hr];rfl)) ?_
  refine mP (bn 2 J)<|mP (bn 3 J)<|cC h (fun _ k=>dC k) fun d0 h=> ?_
  exact eN
 refine cC h (fun _ k=>ru k) fun d1 h=> ?_
 exact eN
def yq (N:Nat)(a0:W6)(a6:W8):Option (W6×Bool):=
 some ((⟨a0.Ext,a0.Zz,a6,a0.Zt⟩:W6),true)
def wL (a0:W6)(a1:WZ):Option (W6×Bool):=
 (bif !a0.Ext then (some true) else (some a0.Zz)).bind fun b6=>(bif b6 then (some true) else (some (decide (4096<=(a0.Zs.length:Int))))).bind fun b7=>bif b7 then (some (a0,false)) else (aI (bm (([]:List WZ).length+a0.Zs.length)) (aI (bm ((([]:List WZ)++a0.Zs).length+([a1]:List WZ).length)) (yq N a0 ((([]:List WZ)++a0.Zs)++([a1]:List WZ)))))
theorem Jv {N:Nat}{a0:W6}{a1:WZ}{r:W6×Bool}(h:wL N a0 a1=some r):Okc Xk 34 [.agg #[.bool a0.Ext,.bool a0.Zz,W A1 n1 c1,W A2 n2 c2],(aF a1)] ([aQ A1 n1 c1 a0.Zs,qS A2 n2 c2 a0.Zt]) (fun u post=> ∃A0 n0 c0 A1 n1 c1,u=.tuple #[.agg #[.bool r.1.Ext,.bool r.1.Zz,W A0 n0 c0,W A1 n1 c1],.bool r.2]/\post=[aQ A0 n0 c0 r.1.Zs,qS A1 n1 c1 r.1.Zt]):=by
 refine ce Tryz.func34 ?_;intro B3
 refine cl fun B4=> ?_
 intro B5;refine sY ?_;refine gS 3 12 9 h ?_;intro b6 h;refine ab ?_;refine gS 5 18 13 h ?_;intro b7 h;refine dk h ?_ ?_<;>intro h
 ·exact eY
 refine ab ?_;refine ak (fun s L=> ∃c8 b5 b9 c7,yq N a0 c8=some r/\s=[(2,pV B3 0),(4,pV B5 0),(5,.bool false)]/\L=[bj b5 b9 c7 c8,qS A2 n2 c2 a0.Zt,ah B3 35 (jX a0 b5 b9 c7 A2 n2 c2),ah B5 35 [.bool false,.bool false,W none 0 0,W none 0 0]]) ?_ ?_
 ·refine be O _ (ae _)<|zY [1,2,4] ?_;refine mO 0 5 O ?_ ?_
  ·refine bB J (aw (R:=ay) (vss:=[]) (xs:=[]) J (zb) J J (fun _ _ hr=>All2.nil)) J J J ?_;rintro _ _ ⟨d3,d4,d6,rfl,rfl⟩;refine bL ?_;refine mO 3 5 O ?_ ?_
   ·obtain ⟨e0,h⟩:=ac h;refine bB J (az 0 4 J J aE J J t9 sw J J e0) J J J ?_;rintro _ _ ⟨e4,e5,e6,rfl,rfl⟩;refine bL ?_
    refine zk 5 J (aw (R:=ay) (vss:=[(bU a1)]) (xs:=[a1]) J (jy _ _ _) J J (fun _ _ hr=> .cons J All2.nil)) fun d0 d1 d2=> ?_
    obtain ⟨b0,h⟩:=ac h
    refine zk 6 J (az 1 0 J J aj J J t9 sw J J b0) fun a6 a7 a8=> ?_
    refine zY [7] ?_;refine gI 8 J O O (ao (us:=[W a6 a7 a8]) (cs':=(jX a0 a6 a7 a8 A2 n2 c2)) 4 J J J J size22.out J J J) ?_;rintro _ _ rfl;exact aY O<|jY
   refine bB J (aw (R:=ay) (vss:=[(bU a1)]) (xs:=[a1]) J (jy _ _ _) J J (fun _ _ hr=> .cons J All2.nil)) J J J ?_;rintro _ _ ⟨e1,e2,e3,rfl,rfl⟩;refine bL ?_;obtain ⟨c9,h⟩:=ac h
   refine zk 3 J (az 1 5 J J aE J J t9 sw J J c9) fun d0 d1 d2=> ?_
   obtain ⟨b0,h⟩:=ac h
   refine zk 6 J (az 1 0 J J aj J J t9 sw J J b0) fun a6 a7 a8=> ?_
   refine zY [7] ?_;refine gI 8 J O O (ao (us:=[W a6 a7 a8]) (cs':=(jX a0 a6 a7 a8 A2 n2 c2)) 4 J J J J size22.out J J J) ?_;rintro _ _ rfl;exact aY O<|jY
  refine bB J (aw (R:=ay) (vss:=[(bU a1)]) (xs:=[a1]) J (jy _ _ _) J J (fun _ _ hr=> .cons J All2.nil)) J J J ?_;rintro _ _ ⟨d3,d4,d6,rfl,rfl⟩;refine bL ?_
  refine zk 0 J (aw (R:=ay) (vss:=[]) (xs:=[]) J (zb) J J (fun _ _ hr=>All2.nil)) fun e1 e2 e3=> ?_
  obtain ⟨c9,h⟩:=ac h
  refine zk 3 J (az 0 5 J J aE J J t9 sw J J c9) fun d0 d1 d2=> ?_
  obtain ⟨b0,h⟩:=ac h
  refine zk 6 J (az 0 1 J J aj J J t9 sw J J b0) fun a6 a7 a8=> ?_
  refine zY [7] ?_;refine gI 8 J O O (ao (us:=[W a6 a7 a8]) (cs':=(jX a0 a6 a7 a8 A2 n2 c2)) 4 J J J J size22.out J J J) ?_;rintro _ _ rfl;exact aY O<|jY
 rintro _ _ ⟨c8,b5,b9,c7,h,rfl,rfl⟩;refine ab ?_;obtain rfl:=bJ h;exact kL (rs:=[.cell 4 35,.tmp 5]) (vs:=[.agg #[.bool a0.Ext,.bool a0.Zz,W b5 b9 c7,W A2 n2 c2],.bool true]) J (.cons (dy 3 J J agg35.out) (.cons (dR J) .nil)) J ((bn 0 J).trans (cS [0,1] 4)) ⟨_,_,_,_,_,_,J,J⟩
def tD (a0:WP)(a1 a2:WZ):Option (Bool×WP):=
 (ca N a0 a1).bind fun y6=>(bif !y6.2 then (some true) else (some (decide (ai .i64 y6.1.Zm 1=0)))).bind fun a6=>(bif a6 then (some true) else (some (!decide (ai .i64 y6.1.Zm 32=0)))).bind fun a7=>(bif a7 then (some true) else (some (decide (4096<=(y6.1.Zi.length:Int))))).bind fun b12=>bif b12 then (some (false,a0)) else (aI (bm (y6.1.Zi.length+([a2]:List WZ).length)) ((aA N a0 a1 (⟨y6.1.Zh,y6.1.Zq,y6.1.Zm,y6.1.Zn,y6.1.Zj,y6.1.Zi++([a2]:List WZ)⟩:W3)).bind fun a8=>some (true,a8)))
theorem G2 {N:Nat}{a1 a2:WZ}{r:Bool×WP}(h:tD N a0 a1 a2=some r){B1 B2 B3:Nat}:Okc Xk 35 [pV B1 0,(aF a1),(aF a2)] ([oDWorld B1 B2 B3 a0]) (fun u post=>u=.bool r.1/\post=[oDWorld B1 B2 B3 r.2]):=by
 refine ce Tryz.func35 ?_;intro B4
 refine cl fun B5=> ?_
 refine G0 h (fun _ k=>dH k) fun y6 A7 n7 c7 A8 n8 c8 h=> ?_
 intro B9;refine sY ?_
 refine xv 5 22 17 h (fun _ a6 h=> ?_) fun b0 h=> ?_
 ·refine ab ?_;exact eP (aP J J) J (cG a6 J) J<|gY
 refine ab ?_
 refine xv 5 28 23 h (fun _ a7 h=> ?_) fun b5 h=> ?_
 ·refine ab ?_;exact eP (aP J J) J (cG a7 J) J<|gY
 refine ab ?_;refine gS 5 34 29 h ?_;intro b12 h;refine dk h ?_ ?_<;>intro h
 ·exact eY
 refine ab ?_;refine gD (aw (R:=ay) (vss:=[(bU a2)]) (xs:=[a2]) J (jy _ _ _) J J (fun _ _ hr=> .cons J All2.nil)) ?_;rintro _ _ ⟨b6,b7,b9,rfl,rfl⟩;obtain ⟨a8,h⟩:=ac h
 refine sI (az 3 0 J J aj J J t9 sw J J a8) fun c9 d0 d1=> ?_
 refine mP (bn 2 J)<|mP (bn 3 J)<|cC h (fun _ k=>dC k) fun d2 h=> ?_
 exact eN
def qw (a0:WP)(a1:WZ):Option WP:=
 (gF N a0 a1).bind fun y5=>Er y5 (fun y5_0=>some a0) (fun y5_1=>(bN N (⟨(⟨y5_1.Zu.Zh,y5_1.Zu.Zq,bi .i64 y5_1.Zu.Zm 1,y5_1.Zu.Zn,y5_1.Zu.Zj,y5_1.Zu.Zi⟩:W3),a0,y5_1.at_⟩:WV) false).bind fun a6=>some a6.w_)
theorem Eh {N:Nat}{a1:WZ}{r:WP}(h:qw N a0 a1=some r){B1 B2 B3:Nat}:Okc Xk 36 [pV B1 0,(aF a1)] ([oDWorld B1 B2 B3 a0]) (fun u post=>u=.tuple #[]/\post=[oDWorld B1 B2 B3 r]):=by
 refine ce Tryz.func36 ?_;intro B4;refine ab ?_;obtain ⟨y5,a6,h⟩:=aa h;rcases y5 with y5_0|y5_1
 ·replace h:=G9 h;refine gD (oR (dc a6)) ?_;rintro _ _ ⟨_,⟨rfl,rfl⟩,rfl⟩;refine ab ?_;exact fY J<|eY
 replace h:=G8 h;refine gD (oR (dc a6)) ?_;rintro _ _ ⟨_,⟨B6,A7,n7,c7,A8,n8,c8,rfl,rfl⟩,rfl⟩;refine ab ?_;refine jE J<|ab ?_;refine fS (rV J J) ?_
 refine Ua h (fun _ k=>jH k) fun a7 a8 b0 b5 b6 b7 b9 h=> ?_
 exact eN
def lT (N:Nat)(a0:WP):Option Unit:=
 some ()
theorem z7 {N:Nat}{r:Unit}(h:lT N a0=some r):Okc Xk 37 [pV B1 0] ([aW B1 81 (At a0 B2 B3 A4 n4 c4 A5 n5 c5 A6 n6 c6),pDHeap B2 a0.Zv,pDTable B3 a0.Zw,iy ta (W A4 n4 c4) a0.ZF,iy nP (W A5 n5 c5) a0.ZG,iy ta (W A6 n6 c6) a0.ZH]) (fun u post=>u=pV B2 0/\post=[]):=by
 refine ce Tryz.func37 ?_;refine sZ ?_;refine fS (dO J WC) ?_;exact fY J<|eY
theorem xL {N:Nat}{r:Unit}(h:lT N a0=some r){B1 B2 B3:Nat}:Okc Xk 37 [pV B1 0] ([pDWorld B1 B2 B3 a0]) (fun u post=>u=pV B2 0/\post=[]):=NM 0 rfl (fun _=>z7 h)
def jg (a0:Int)(a1:WY):Option Bool:=
 (pH N a1 a0).bind fun y4=>some (!y4)
theorem Cf {N:Nat}{a0:Int}{a1:WY}{r:Bool}(h:jg N a0 a1=some r):Okc Xk 159 [iV a0,pV B1 0] ([aW B1 121 [W A2 n2 c2,W A3 n3 c3],iE A2 n2 c2 a1.Zp,iE A3 n3 c3 a1.Zr]) (fun u post=>u=.bool r/\post=[]):=by
 refine ce Tryz.func159 ?_
 refine cR h (fun _ k=>sX k) fun y4 h=> ?_
 exact eN
def sC (a0:WY)(a6:Xf):Option Int:=
 (cI N a6 (fun x=>jg N x a0)).bind fun a7=>bif a7 then (some 50) else (some 0)
def pc (N:Nat)(a6:Xf->Int->Option Int)(a1:W8)(a7:Int)(a0:WY)(a8:Xf):Option Int:=
 aI (in64 (a7+1)) (a6 a8 (a7+1))
def fN (N:Nat)(a1:W8)(a0:WY):Nat->Xf->Int->Option Int
 |0,_,_=>none
 |b0+1,a6,a7=>bif decide (a7<(a1.length:Int)) then ((aq a1 a7).bind fun a8=>(bif decide (a8.Zh=7) then (some true) else (some (decide (a8.Zh=9)))).bind fun b5=>bif b5 then (aI (bm (a6.length+([a8.N]:List Int).length)) (pc N (fN N a1 a0 b0) a1 a7 a0 (a6++([a8.N]:List Int)))) else (pc N (fN N a1 a0 b0) a1 a7 a0 a6)) else (sC N a0 a6)
def qB (a1:W8)(a0:WY)(p6:Xf):Option Int:=
 fN N a1 a0 N p6 0
def sD (N:Nat)(a7:Xf->Int->Option Int)(a0:WY)(a6:Int)(a1:W8)(a8:Xf):Option Int:=
 aI (in64 (a6+1)) (a7 a8 (a6+1))
def mu (N:Nat)(b6:Xf->Int->Option Int)(a0:WY)(b7:Int)(a8:Xg)(a1:W8):Nat->Xf->Int->Option Int
 |0,_,_=>none
 |c7+1,a6,a7=>bif decide (a7<(a8.length:Int)) then ((aq a8 a7).bind fun b0=>(gG N b0).bind fun c8=>bif !c8 then (some 51) else ((nY N b0).bind fun b5=>aI (bm (a6.length+b5.length)) ((oX N b0).bind fun b9=>aI (bm ((a6++b5).length+b9.length)) (aI (in64 (a7+1)) ((mu N b6 a0 b7 a8 a1 c7) ((a6++b5)++b9) (a7+1)))))) else (sD N b6 a0 b7 a1 a6)
def nB (N:Nat)(a0:WY)(a1:W8):Nat->Xf->Int->Option Int
 |0,_,_=>none
 |m8+1,p9,a6=>bif decide (a6<(([a0.Zp,a0.Zr]:List Xg).length:Int)) then ((aq ([a0.Zp,a0.Zr]:List Xg) a6).bind fun a7=>mu N (nB N a0 a1 m8) a0 a6 a7 a1 N p9 0) else (qB N a1 a0 p9)
def mI (a0:WY)(a1:W8):Option Int:=
 nB N a0 a1 N [] 0
theorem FP {N:Nat}{a0:WY}{a1:W8}{r:Int}(h:mI N a0 a1=some r):Okc Xk 122 [.agg #[W A1 n1 c1,W A2 n2 c2],W A3 n3 c3] ([iE A1 n1 c1 a0.Zp,iE A2 n2 c2 a0.Zr,aQ A3 n3 c3 a1]) (fun u post=>u=iV r/\post=[]):=by
 refine ce Tryz.func122 ?_;intro B4;refine ab ?_;refine ak (fun s L=> ∃p6 A6 n6 c6,qB N a1 a0 p6=some r/\s=[(1,W A3 n3 c3),(2,pV B4 0),(4,iV 0),(5,W A6 n6 c6)]/\L=[aQ A3 n3 c3 a1,uL A6 n6 c6 p6,iE A1 n1 c1 a0.Zp,iE A2 n2 c2 a0.Zr,ah B4 121 [W A1 n1 c1,W A2 n2 c2]]) ?_ ?_
 ·refine ab ?_
  refine sI (aw (R:=(Rep.sl jP)) (vss:=[[W A1 n1 c1],[W A2 n2 c2]]) (xs:=[a0.Zp,a0.Zr]) J (On _ _ _ _ _ _) J J (fun _ _ hr=> .cons (⟨_,J,hr 1 _ J J⟩) (.cons (⟨_,J,hr 2 _ J J⟩) All2.nil))) fun A7 n7 c7=> ?_
  refine im (fun m s L=> ∃p9 a6 A9 n9 c9,nB N a0 a1 m p9 a6=some r/\s=[(1,W A3 n3 c3),(2,pV B4 0),(4,iV 0),(5,W A9 n9 c9),(16,W A7 n7 c7),(17,iV (([a0.Zp,a0.Zr]:List Xg).length:Int)),(18,iV a6)]/\L=[aQ A3 n3 c3 a1,uL A9 n9 c9 p9,bf (Rep.sl jP) 119 (W A7 n7 c7) ([a0.Zp,a0.Zr]:List Xg),iE A1 n1 c1 a0.Zp,iE A2 n2 c2 a0.Zr,ah B4 121 [W A1 n1 c1,W A2 n2 c2]]) N _ _ ⟨[],0,none,0,0,h,J,J⟩ sA ((bT (nO .i64) 3 _).trans (cS [5,0,1,3,4,2] 6)) ?_;rintro (_|m8) _ _ ⟨p9,a6,A9,n9,c9,h,rfl,rfl⟩
  ·exact aL h
  rw [nB.eq_2] at h;refine ab ?_;refine aB<|gH J h (fun h=> ?_) (fun h=> ?_)
  ·refine ab ?_;refine ak (fun s L=> ∃d6 e0 e1 e2,sD N (nB N a0 a1 m8) a0 a6 a1 d6=some r/\s=[(1,W A3 n3 c3),(2,pV B4 0),(4,iV 0),(5,W e0 e1 e2),(16,W A7 n7 c7),(17,iV (([a0.Zp,a0.Zr]:List Xg).length:Int)),(18,iV a6)]/\L=[aQ A3 n3 c3 a1,uL e0 e1 e2 d6,bf (Rep.sl jP) 119 (W A7 n7 c7) ([a0.Zp,a0.Zr]:List Xg),iE A1 n1 c1 a0.Zp,iE A2 n2 c2 a0.Zr,ah B4 121 [W A1 n1 c1,W A2 n2 c2]]) ?_ ?_
   ·refine ab ?_;obtain ⟨a8,g5,g6,e3,h⟩:=ba h;refine ab ?_
    refine sI (O8 (R':=jP) (ys:=a8) 2 J aj J e3 K8 (fun _ _ _ h=>by obtain ⟨u,e,k⟩:=h;exact ⟨u,by rw [e];rfl,k⟩)) fun b5 b6 b7=> ?_
    refine im (fun m s L=> ∃e4 b9 e5 e6 e7,mu N (nB N a0 a1 m8) a0 a6 a8 a1 m e4 b9=some r/\s=[(1,W A3 n3 c3),(2,pV B4 0),(4,iV 0),(5,W e5 e6 e7),(16,W A7 n7 c7),(17,iV (([a0.Zp,a0.Zr]:List Xg).length:Int)),(18,iV a6),(22,W b5 b6 b7),(23,iV (a8.length:Int)),(24,iV b9)]/\L=[aQ A3 n3 c3 a1,uL e5 e6 e7 e4,bf (Rep.sl jP) 119 (W A7 n7 c7) ([a0.Zp,a0.Zr]:List Xg),iE b5 b6 b7 a8,iE A1 n1 c1 a0.Zp,iE A2 n2 c2 a0.Zr,ah B4 121 [W A1 n1 c1,W A2 n2 c2]]) N _ _ ⟨p9,0,A9,n9,c9,h,J,J⟩ sA (cS [1,2,3,0,4,5,6] 7) ?_;rintro (_|h7) _ _ ⟨e4,b9,e5,e6,e7,h,rfl,rfl⟩
    ·exact aL h
    rw [mu.eq_2] at h;refine ab ?_;refine aB<|gH J h (fun h=> ?_) (fun h=> ?_)
    ·refine sY ?_;obtain ⟨a7,g7,g8,e8,h⟩:=ba h;refine ab ?_;refine Ks 3 J e8 (uu a7) ?_;rintro _ _ ⟨c8,d0,d1,d2,d3,d4,rfl,rfl⟩;refine JX (BH (us:=(iM a7 c8 d0 d1 d2 d3 d4)) 0 J J agg94.out J) ?_;intro g9;refine sY ?_;obtain ⟨h8,k,h⟩:=aa h;refine Ej (oR (mJ k)) ?_;refine gH J h ?_ ?_<;>intro h
     ·exact eY
     refine ab ?_;refine be O ([ah g9 94 (iM a7 c8 d0 d1 d2 d3 d4),OS (dG (W b5 b6 b7) b9.toNat 6 0) (iM a7 c8 d0 d1 d2 d3 d4),aQ c8 d0 d1 a7.Zj,aQ d2 d3 d4 a7.Zi,aQ A3 n3 c3 a1,bf (Rep.sl jP) 119 (W A7 n7 c7) ([a0.Zp,a0.Zr]:List Xg),iE b5 b6 b7 a8,iE A1 n1 c1 a0.Zp,iE A2 n2 c2 a0.Zr,ah B4 121 [W A1 n1 c1,W A2 n2 c2]]) (cS [0,1,2,3,4,6,7,8,9,10] 11) ?_;refine yY [0,1,4] ?_;obtain ⟨h9,k,h⟩:=aa h;refine zD 2 J (oR (vN k)) ?_;rintro _ _ ⟨_,⟨i0,i1,i2,rfl,rfl⟩,rfl⟩;refine ng (cS [1,2,3,4,5,7,8,9,10,11] 12) ?_;obtain ⟨h0,h⟩:=ac h;refine zD 3 J (az 6 0 J J aj J J Wx Sn J J h0) ?_;rintro _ _ ⟨i3,i4,i5,rfl,rfl⟩;refine ng (cS [1,2,3,4,5,7,8,9,10,11] 12) ?_;obtain ⟨i6,k,h⟩:=aa h;refine zD 5 J (oR (za k)) ?_;rintro _ _ ⟨_,⟨i7,i8,i9,rfl,rfl⟩,rfl⟩;refine ng (cS [2,3,4,5,6,8,9,10,11,12] 13) ?_;obtain ⟨h1,h⟩:=ac h;refine zD 6 J (az 7 0 J J aj J J Wx Sn J J h1) ?_;rintro _ _ ⟨j0,j1,j2,rfl,rfl⟩;refine ng (cS [2,3,4,5,6,8,9,10,11,12] 13) ?_;refine zE 7 J (ck J) ?_;refine aY O<|ab ?_;obtain ⟨j3,h⟩:=ac h;exact lY
    exact jY
   rintro _ _ ⟨d6,e0,e1,e2,h,rfl,rfl⟩;refine ab ?_;obtain ⟨j4,h⟩:=ac h;exact lY
  exact jY
 rintro _ _ ⟨p6,A6,n6,c6,h,rfl,rfl⟩;refine ak (fun s L=> ∃e9 f0 f1 f2,sC N a0 e9=some r/\s=[(2,pV B4 0),(4,iV 0),(5,W f0 f1 f2)]/\L=[uL f0 f1 f2 e9,iE A1 n1 c1 a0.Zp,iE A2 n2 c2 a0.Zr,ah B4 121 [W A1 n1 c1,W A2 n2 c2]]) ?_ ?_
 ·refine ab ?_;refine im (fun m s L=> ∃f3 b0 f4 f6 f9,fN N a1 a0 m f3 b0=some r/\s=[(2,pV B4 0),(4,iV 0),(5,W f4 f6 f9),(40,W A3 n3 c3),(41,iV (a1.length:Int)),(42,iV b0)]/\L=[uL f4 f6 f9 f3,aQ A3 n3 c3 a1,iE A1 n1 c1 a0.Zp,iE A2 n2 c2 a0.Zr,ah B4 121 [W A1 n1 c1,W A2 n2 c2]]) N _ _ ⟨p6,0,A6,n6,c6,h,J,J⟩ sA (cS [1,0,2,3,4] 5) ?_;rintro (_|h2) _ _ ⟨f3,b0,f4,f6,f9,h,rfl,rfl⟩
  ·exact aL h
  rw [fN.eq_2] at h;refine ab ?_;refine aB<|gH J h (fun h=> ?_) (fun h=> ?_)
  ·refine ab ?_;refine ak (fun s L=> ∃g0 g1 g2 g3,pc N (fN N a1 a0 h2) a1 b0 a0 g0=some r/\s=[(2,pV B4 0),(4,iV 0),(5,W g1 g2 g3),(40,W A3 n3 c3),(41,iV (a1.length:Int)),(42,iV b0)]/\L=[uL g1 g2 g3 g0,aQ A3 n3 c3 a1,iE A1 n1 c1 a0.Zp,iE A2 n2 c2 a0.Zr,ah B4 121 [W A1 n1 c1,W A2 n2 c2]]) ?_ ?_
   ·refine ab ?_;obtain ⟨g4,h3,h4,h5,h⟩:=ba h
    refine cl fun j5=> ?_
    refine gS 4 53 49 h ?_;intro j6 h;refine dk h ?_ ?_<;>intro h
    ·refine ab ?_;refine gD (aw (R:=(nO .i64)) (vss:=[[iV g4.N]]) (xs:=[g4.N]) J (rI _) J J (fun _ _ hr=> .cons J All2.nil)) ?_;rintro _ _ ⟨j7,j8,j9,rfl,rfl⟩;obtain ⟨h6,h⟩:=ac h
     refine sI (az 2 0 J J aj J J Wx Sn J J h6) fun k0 k1 k2=> ?_
     exact jN
    exact jY
   rintro _ _ ⟨g0,g1,g2,g3,h,rfl,rfl⟩;refine ab ?_;obtain ⟨k3,h⟩:=ac h;exact lY
  exact jY
 rintro _ _ ⟨e9,f0,f1,f2,h,rfl,rfl⟩;refine sZ ?_;refine gE (ja J) ?_;obtain ⟨k4,k,h⟩:=aa h;refine Ej (oR (lL k ⟨t5 J (t5 J (t5 J ax)),159, #[], #[pV B4 0],J,call159.out,fun _ _ hh=>Cf hh⟩)) ?_;refine gH J h ?_ ?_<;>intro h
 ·exact eY
 exact eY
def o3 (N:Nat)(a0:WZ):Option (Int×Bool):=
 (bif decide (a0.Zh=7) then (some true) else (some (decide (a0.Zh=9)))).bind fun b2=>some (a0.N,b2)
theorem C5 {N:Nat}{a0:WZ}{r:Int×Bool}(h:o3 N a0=some r):Okc Xk 207 [(aF a0)] ([]) (fun u post=>u=.tuple #[iV r.1,.bool r.2]/\post=[]):=by
 refine ce Tryz.func207 ?_;intro B1;refine ab ?_;refine dY [0,1,2,3,4,5,10] ?_
 refine yJ [6,7,8,9] 1 9 13 h (fun _ g2 h rest=> ?_) (fun _ g2 h rest=> ?_) fun b2 h=> ?_
 ·refine yY [6,7,8,9] ?_;exact yS rest h
 ·refine yY [6,7,8,9] ?_;exact yS rest h
 refine zX [11] ?_;exact eY
def kk (N:Nat)(a6:Int->Xf->(List (Int×Unit))->Option WT)(a1:Xf)(p8:Int)(a0:WT)(p13:Xf)(a7:(List (Int×Unit))):Option WT:=
 aI (in64 (p8+1)) (a6 (p8+1) p13 a7)
def df (N:Nat)(a1:Xf)(a0:WT):Nat->Int->Xf->(List (Int×Unit))->Option WT
 |0,_,_,_=>none
 |m7+1,p8,p9,a7=>bif decide (p8<(a1.length:Int)) then ((aq a1 p8).bind fun a6=>(bif !((lk a7 a6).isSome) then ((pH N a0.m_ a6).bind fun a8=>some a8) else (some false)).bind fun b0=>bif b0 then (aI (bm (p9.length+([a6]:List Int).length)) (kk N (df N a1 a0 m7) a1 p8 a0 (p9++([a6]:List Int)) (Bq a7 a6 ()))) else (kk N (df N a1 a0 m7) a1 p8 a0 p9 a7)) else (some (⟨a0.m_,p9,a7,a0.ZO⟩:WT))
def eG (a0:WT)(a1:Xf):Option WT:=
 df N a1 a0 N 0 a0.ZE a0.ZQ
theorem vW {N:Nat}{a0:WT}{a1:Xf}{r:WT}(h:eG N a0 a1=some r):Okc Xk 208 [pV B1 0,W A6 n6 c6] ([iE A2 n2 c2 a0.m_.Zp,iE A3 n3 c3 a0.m_.Zr,xQ A6 n6 c6 a1,ah B1 249 [W A2 n2 c2,W A3 n3 c3,W A4 n4 c4,.map (some M5),iV a0.ZO],uL A4 n4 c4 a0.ZE,bE jJ D1 M5 a0.ZQ]) (fun u post=> ∃A0 n0 c0 A1 n1 c1 A2 n2 c2 M3,u=.tuple #[]/\post=[ah B1 249 [W A0 n0 c0,W A1 n1 c1,W A2 n2 c2,.map (some M3),iV r.ZO],iE A0 n0 c0 r.m_.Zp,iE A1 n1 c1 r.m_.Zr,uL A2 n2 c2 r.ZE,bE jJ D1 M3 r.ZQ]):=by
 refine ce Tryz.func208 ?_;refine lK (fun m s L=> ∃(p8:Int) (p9:Xf) (a7:(List (Int×Unit))) (A9:Option Addr) (n9 c9:Nat),df N a1 a0 m p8 p9 a7=some r/\s=[(0,pV B1 0),(8,W A6 n6 c6),(9,iV (a1.length:Int)),(10,iV p8)]/\L=[xQ A6 n6 c6 a1,iE A2 n2 c2 a0.m_.Zp,iE A3 n3 c3 a0.m_.Zr,uL A9 n9 c9 p9,bE jJ D1 M5 a7,ah B1 249 [W A2 n2 c2,W A3 n3 c3,W A9 n9 c9,.map (some M5),iV a0.ZO]]) N ?_;rintro m7 _ _ ⟨p8,p9,a7,A9,n9,c9,h,rfl,rfl⟩;rw [df.eq_2] at h;refine ab ?_;refine aB<|gH J h (fun h=> ?_) (fun h=> ?_)
 ·refine ab ?_;refine ak (fun s L=> ∃p13 a8 b0 b5 b6,kk N (df N a1 a0 m7) a1 p8 a0 p13 a8=some r/\s=[(0,pV B1 0),(8,W A6 n6 c6),(9,iV (a1.length:Int)),(10,iV p8)]/\L=[xQ A6 n6 c6 a1,iE A2 n2 c2 a0.m_.Zp,iE A3 n3 c3 a0.m_.Zr,uL b0 b5 b6 p13,bE jJ D1 M5 a8,ah B1 249 [W A2 n2 c2,W A3 n3 c3,W b0 b5 b6,.map (some M5),iV a0.ZO]]) ?_ ?_
  ·refine ab ?_;obtain ⟨a6,b7,b9,c7,h⟩:=ba h;refine ab ?_;refine JX (BJ (a:=a6) (z:=()) 4 J FO J J WG (lq WB) zero278.out) ?_;intro d0;refine ab ?_
   refine oz 7 32 25 h (fun _ d1 h=> ?_) fun d2 h=> ?_
   ·refine cR h (fun _ k=>sX k) fun d3 h=> ?_
    exact gY
   refine dk h ?_ ?_<;>intro h
   ·refine ab ?_;refine GB (nS (a:=a6) (b:=()) 5 J J J J WG (lq WB)) ?_;refine gD (aw (R:=(nO .i64)) (vss:=[[iV a6]]) (xs:=[a6]) J (rI _) J J (fun _ _ hr=> .cons J All2.nil)) ?_;rintro _ _ ⟨d4,d6,e0,rfl,rfl⟩;obtain ⟨c8,h⟩:=ac h
    refine sI (az 5 0 J J aj J J Wx Sn J J c8) fun e1 e2 e3=> ?_
    exact jN
   exact jY
  rintro _ _ ⟨p13,a8,b0,b5,b6,h,rfl,rfl⟩;refine ab ?_;obtain ⟨e4,h⟩:=ac h;exact lY
 exact eY
theorem AJ {N:Nat}{V:Value}{K:Nat}{a0:WT}{a1:Xf}{r:WT}(h:eG N a0 a1=some r):Okc Xk 208 [pV B1 0,W A6 n6 c6] ([iE A2 n2 c2 a0.m_.Zp,iE A3 n3 c3 a0.m_.Zr,xQ A6 n6 c6 a1,ah B1 249 [W A2 n2 c2,W A3 n3 c3,W A4 n4 c4,.map (some M5),iV a0.ZO],nF (nO .i64) 3 (W A4 n4 c4) a0.ZE V K,bE jJ D1 M5 a0.ZQ]) (fun u post=> ∃A0 n0 c0 A1 n1 c1 A2 n2 c2 M3,u=.tuple #[]/\post=[ah B1 249 [W A0 n0 c0,W A1 n1 c1,W A2 n2 c2,.map (some M3),iV r.ZO],iE A0 n0 c0 r.m_.Zp,iE A1 n1 c1 r.m_.Zr,nF (nO .i64) 3 (W A2 n2 c2) r.ZE V K,bE jJ D1 M3 r.ZQ]):=by
 refine ce Tryz.func208 ?_;refine lK (fun m s L=> ∃(p8:Int) (p9:Xf) (a7:(List (Int×Unit))) (A9:Option Addr) (n9 c9:Nat),df N a1 a0 m p8 p9 a7=some r/\s=[(0,pV B1 0),(8,W A6 n6 c6),(9,iV (a1.length:Int)),(10,iV p8)]/\L=[xQ A6 n6 c6 a1,iE A2 n2 c2 a0.m_.Zp,iE A3 n3 c3 a0.m_.Zr,nF (nO .i64) 3 (W A9 n9 c9) p9 V K,bE jJ D1 M5 a7,ah B1 249 [W A2 n2 c2,W A3 n3 c3,W A9 n9 c9,.map (some M5),iV a0.ZO]]) N ?_;rintro m7 _ _ ⟨p8,p9,a7,A9,n9,c9,h,rfl,rfl⟩;rw [df.eq_2] at h;refine ab ?_;refine aB<|gH J h (fun h=> ?_) (fun h=> ?_)
 ·refine ab ?_;refine ak (fun s L=> ∃p13 a8 b0 b5 b6,kk N (df N a1 a0 m7) a1 p8 a0 p13 a8=some r/\s=[(0,pV B1 0),(8,W A6 n6 c6),(9,iV (a1.length:Int)),(10,iV p8)]/\L=[xQ A6 n6 c6 a1,iE A2 n2 c2 a0.m_.Zp,iE A3 n3 c3 a0.m_.Zr,nF (nO .i64) 3 (W b0 b5 b6) p13 V K,bE jJ D1 M5 a8,ah B1 249 [W A2 n2 c2,W A3 n3 c3,W b0 b5 b6,.map (some M5),iV a0.ZO]]) ?_ ?_
  ·refine ab ?_;obtain ⟨a6,b7,b9,c7,h⟩:=ba h;refine ab ?_;refine JX (BJ (a:=a6) (z:=()) 4 J FO J J WG (lq WB) zero278.out) ?_;intro d0;refine ab ?_
   refine oz 7 32 25 h (fun _ d1 h=> ?_) fun d2 h=> ?_
   ·refine cR h (fun _ k=>sX k) fun d3 h=> ?_
    exact gY
   refine dk h ?_ ?_<;>intro h
   ·refine ab ?_;refine GB (nS (a:=a6) (b:=()) 5 J J J J WG (lq WB)) ?_;refine gD (aw (R:=(nO .i64)) (vss:=[[iV a6]]) (xs:=[a6]) J (rI _) J J (fun _ _ hr=> .cons J All2.nil)) ?_;rintro _ _ ⟨d4,d6,e0,rfl,rfl⟩;obtain ⟨c8,h⟩:=ac h
    refine sI (K4 5 0 J J aj J J Wx Sn J J c8) fun e1 e2 e3=> ?_
    exact jN
   exact jY
  rintro _ _ ⟨p13,a8,b0,b5,b6,h,rfl,rfl⟩;refine ab ?_;obtain ⟨e4,h⟩:=ac h;exact lY
 exact eY
def ri (a0:WZ)(a1:WT):Option WT:=
 (o3 N a0).bind fun y8=>bif y8.2 then ((eG N a1 ([y8.1]:List Int)).bind fun a6=>some a6) else (some a1)
theorem BG {N:Nat}{a0:WZ}{a1 r:WT}(h:ri N a0 a1=some r):Okc Xk 206 [(aF a0),pV B1 0] ([iE A3 n3 c3 a1.m_.Zp,iE A4 n4 c4 a1.m_.Zr,ah B1 245 [pV B2 0],ah B2 249 [W A3 n3 c3,W A4 n4 c4,W A5 n5 c5,.map (some M6),iV a1.ZO],uL A5 n5 c5 a1.ZE,bE jJ D1 M6 a1.ZQ]) (fun u post=> ∃A0 n0 c0 A1 n1 c1 A2 n2 c2 M3,u=.tuple #[]/\post=[ah B2 249 [W A0 n0 c0,W A1 n1 c1,W A2 n2 c2,.map (some M3),iV r.ZO],iE A0 n0 c0 r.m_.Zp,iE A1 n1 c1 r.m_.Zr,uL A2 n2 c2 r.ZE,bE jJ D1 M3 r.ZQ,ah B1 245 [pV B2 0]]):=by
 refine ce Tryz.func206 ?_;intro B7
 refine cR h (fun _ k=>C5 k) fun y8 h=> ?_
 refine gH J h ?_ ?_<;>intro h
 ·refine ab ?_;refine gD (aw (R:=(nO .i64)) (vss:=[[iV y8.1]]) (xs:=[y8.1]) J (rI _) J J (fun _ _ hr=> .cons J All2.nil)) ?_;rintro _ _ ⟨a6,a7,a8,rfl,rfl⟩;refine mP (bn 0 J) ?_;obtain ⟨b0,k,h⟩:=aa h;refine gD (oC (vW k)) ?_;rintro _ _ ⟨_,⟨b5,b6,b7,b9,c7,c8,c9,d0,d1,d2,rfl,rfl⟩,rfl⟩;exact eY
 exact eY
def lV (a0:WY)(a1:Int):Option W3:=
 (oL N a0 a1).bind fun y5=>bif !y5.2.2 then (some (⟨0,0,0,0,[],[]⟩:W3)) else ((aq y5.1 y5.2.1).bind fun a6=>(fO N a6).bind fun a7=>some a7)
theorem ym {N:Nat}{a0:WY}{r:W3}(h:lV N a0 a1=some r):Okc Xk 125 [.agg #[W A1 n1 c1,W A2 n2 c2],iV a1] ([iE A1 n1 c1 a0.Zp,iE A2 n2 c2 a0.Zr]) (fun u post=> ∃A0 n0 c0 A1 n1 c1,u=.agg #[iV r.Zh,iV r.Zq,iV r.Zm,iV r.Zn,W A0 n0 c0,W A1 n1 c1]/\post=[bj A0 n0 c0 r.Zj,bj A1 n1 c1 r.Zi]):=by
 refine ce Tryz.func125 ?_;intro B3
 refine cl fun B4=> ?_
 refine VX h (fun _ k=>yl k) fun y5 A6 n6 c6 h=> ?_
 refine sZ ?_;refine gH J h ?_ ?_<;>intro h
 ·refine ab ?_;obtain rfl:=bJ h;exact kL (rs:=[.cell 4 94]) (vs:=[.agg #[iV 0,iV 0,iV 0,iV 0,W none 0 0,W none 0 0]]) J (.cons (dy 1 J J agg94.out) .nil) J ((bT ay 28 _).trans ((bT ay 28 _).trans (cS [1,0] 7))) ⟨_,_,_,_,_,_,J,J⟩
 refine ab ?_;obtain ⟨a7,a8,b0,a6,h⟩:=ba h;refine ab ?_;refine Ks 0 J a6 (uu a7) ?_;rintro _ _ ⟨b5,b6,b7,b9,c7,c8,rfl,rfl⟩
 refine gR (BH (us:=(iM a7 b5 b6 b7 b9 c7 c8)) 0 J J agg94.out J)<|G0 h (fun _ k=>iP k) fun c9 d0 d1 d2 d3 d4 d6 h=> ?_
 exact eN
def gP (N:Nat):Nat->Xg->Xg->Xf->(List (Int×Unit))->Int->Option WT
 |0,_,_,_,_,_=>none
 |m6+1,p7,p8,p9,a8,a7=>bif decide (a7<(p9.length:Int)) then ((aq p9 a7).bind fun b0=>(lV N (⟨p7,p8⟩:WY) b0).bind fun b5=>(nY N b5).bind fun b6=>(eG N (⟨(⟨p7,p8⟩:WY),p9,a8,a7⟩:WT) b6).bind fun a6=>aI (in64 (a6.ZO+1)) ((gP N m6) a6.m_.Zp a6.m_.Zr a6.ZE a6.ZQ (a6.ZO+1))) else (some (⟨(⟨p7,p8⟩:WY),p9,a8,a7⟩:WT))
def iB (a0:WT):Option WT:=
 gP N N a0.m_.Zp a0.m_.Zr a0.ZE a0.ZQ a0.ZO
theorem sf {N:Nat}{a0 r:WT}(h:iB N a0=some r):Okc Xk 192 [pV B1 0] ([iE A2 n2 c2 a0.m_.Zp,iE A3 n3 c3 a0.m_.Zr,ah B1 249 [W A2 n2 c2,W A3 n3 c3,W A4 n4 c4,.map (some M5),iV a0.ZO],uL A4 n4 c4 a0.ZE,bE jJ D1 M5 a0.ZQ]) (fun u post=> ∃A0 n0 c0 A1 n1 c1 A2 n2 c2 M3,u=.tuple #[]/\post=[ah B1 249 [W A0 n0 c0,W A1 n1 c1,W A2 n2 c2,.map (some M3),iV r.ZO],iE A0 n0 c0 r.m_.Zp,iE A1 n1 c1 r.m_.Zr,uL A2 n2 c2 r.ZE,bE jJ D1 M3 r.ZQ]):=by
 refine ce Tryz.func192 ?_;refine lK (fun m s L=> ∃(p7:Xg) (p8:Xg) (p9:Xf) (a8:(List (Int×Unit))) (a6:Int) (A7:Option Addr) (n7 c7:Nat) (A8:Option Addr) (n8 c8:Nat) (A9:Option Addr) (n9 c9:Nat) (a7:Nat),gP N m p7 p8 p9 a8 a6=some r/\s=[(0,pV B1 0)]/\L=[iE A7 n7 c7 p7,iE A8 n8 c8 p8,uL A9 n9 c9 p9,bE jJ D1 a7 a8,ah B1 249 [W A7 n7 c7,W A8 n8 c8,W A9 n9 c9,.map (some a7),iV a6]]) N ?_;intro m6
 refine fun s L=>aJ fun p7=>aJ fun p8=>aJ fun p9=>aJ fun a8=>aJ fun a6=>aJ fun A7=>aJ fun n7=>aJ fun c7=>aJ fun A8=>aJ fun n8=>aJ fun c8=>aJ fun A9=>aJ fun n9=>aJ fun c9=>aJ fun a7=>J6 fun h=> ?_
 rw [gP.eq_2] at h;refine aB<|dY [] ?_;refine dk h ?_ ?_<;>intro h
 ·refine sY ?_;obtain ⟨b0,b5,b6,b7,h⟩:=ba h;refine gw (t:=[(0,pV B1 0)]) ?_ ml (ae _)
  refine iR O 15 [0] [0,4,14] [19,20,21,22,23,24,25,26,27,28,29,30,31,32,33] [[],[],[1],[2],[3],[],[5],[6],[7],[],[9],[10],[11],[8,12],[13]] [aV (pV B1 0),
 aV (pV B1 0),
 aV (pV B1 0),
 aV (pV B1 0),
 aV (.agg #[W A7 n7 c7,W A8 n8 c8]),
 aV (pV B1 0),
 aV (pV B1 0),
 aV (pV B1 2),
 aV (W A9 n9 c9),
 aV (pV B1 0),
 aV (pV B1 0),
 aV (pV B1 4),
 aV (iV a6),
 aV (dG (W A9 n9 c9) a6.toNat 1 0),
 aV (iV b0)] [] (ae _) (fu rfl me) O rfl rfl ?_ ?_ ?_
  ·exact ft J (nK (ap J) J (iI J (ae _)))<|md
  ·refine aG J (zh (li (u:=iV b0) 2 J aj J b7 wc (fun _ _ _ h=>by rw [show _=_ from h];rfl)) J (iI J (ae _)))<|qR (bS 2 J aj J J Wx size3.out b5 b6) ?_;refine qR (cD 4 J J wc J) ?_;refine qE (kK J J2) ?_;refine qE (dF J) ?_;refine qE (ap J) ?_;refine qR (cD 4 J J K7 J) ?_;refine qE (kK J Ga) ?_;refine qE (dF J) ?_;refine qE (ap J) ?_;refine qR (aD (us:=[W A7 n7 c7,W A8 n8 c8]) 4 J J agg121.out J) ?_;refine qE (rE J J3) ?_;refine qE (dF J) ?_;refine qE (ap J) ?_;refine qE (ap J) ?_;exact dK
  refine oq (t:=[(19,pV B1 0),(23,.agg #[W A7 n7 c7,W A8 n8 c8]),(33,iV b0),(0,pV B1 0)]) (L':=[iE A7 n7 c7 p7,iE A8 n8 c8 p8,uL A9 n9 c9 p9,bE jJ D1 a7 a8,ah B1 249 [W A7 n7 c7,W A8 n8 c8,W A9 n9 c9,.map (some a7),iV a6]]) ?_ ml (ae _);obtain ⟨b9,k,h⟩:=aa h;refine uH 15 J O (oR (ym k)) J J J ?_;rintro _ _ ⟨_,⟨d0,d1,d2,d3,d4,d6,rfl,rfl⟩,rfl⟩;obtain ⟨e0,k,h⟩:=aa h;refine uH 16 J O (oR (vN k)) J J J ?_;rintro _ _ ⟨_,⟨e1,e2,e3,rfl,rfl⟩,rfl⟩;refine oq ?_ bK (bn 0 J);obtain ⟨e4,k,h⟩:=aa h;refine uH 17 J O (oC (vW k)) J J J ?_;rintro _ _ ⟨_,⟨e5,e6,e7,e8,e9,f0,f1,f2,f3,f4,rfl,rfl⟩,rfl⟩;refine mj O<|ab ?_;obtain ⟨f6,h⟩:=ac h;exact lY
 exact eY
end
end Go.Proofs.YtmcifcmlojonnaaGreatDoor