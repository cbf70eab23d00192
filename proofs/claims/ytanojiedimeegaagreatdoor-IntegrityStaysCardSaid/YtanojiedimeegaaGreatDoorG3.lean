/- Merged texts: part 3. No conditions of their own. -/
import Derived.Test.YtanojiedimeegaaGreatDoorG2
import Derived.Test.YtanojiedimeegaaGreatDoorChecked
import Derived.ProofKit
namespace Go.Proofs.YtanojiedimeegaaGreatDoor
theorem hJ:type_of% Tryz.underlying3:=Tryz.underlying3
theorem hH:type_of% Tryz.underlying9:=Tryz.underlying9
variable {A1 A2 A3 A4 A5:Option Addr} {B1 B3 B6 M7 c1 c2 c3 c4 c5 n1 n2 n3 n4 n5:Nat}
open Go.RowKit Asn
set_option maxRecDepth 20000
structure MO where
 Way:Int
 Steps:Int
 Calls:Int
 Made:Int
 Young:Int
 Full:Int
 Sites:Int
 deriving DecidableEq,Inhabited
def K5:Rep MO:=.flat 7 (fun x=> [iV x.Way,iV x.Steps,iV x.Calls,iV x.Made,iV x.Young,iV x.Full,iV x.Sites]) (fun _=>rfl) (fun _=>rfl)
structure MW where
 at_:(List (Int×Bool))
 deriving DecidableEq,Inhabited
structure MQ where
 Kind:Int
 N:Int
 S:ByteArray
 deriving DecidableEq,Inhabited
def cc:Rep MQ:=.flat 3 (fun x=> [iV x.Kind,iV x.N,.string x.S]) (fun _=>rfl) (fun _=>rfl)
structure MY where
 Kind:Int
 Shape:Int
 Flags:Int
 Age:Int
 Slots:(List MQ)
 More:(List MQ)
 deriving DecidableEq,Inhabited
def ri:Rep MY where
 sz:=6
 rel S w vs x:= ∃A4 n4 c4 A5 n5 c5,vs=[iV x.Kind,iV x.Shape,iV x.Flags,iV x.Age,I A4 n4 c4,I A5 n5 c5]∧SlR cc S w (I A4 n4 c4) x.Slots∧SlR cc S w (I A5 n5 c5) x.More
 loc:=fun h ⟨_,_,_,_,_,_,e,h4,h5⟩=>⟨_,_,_,_,_,_,e,h4.loc h,h5.loc h⟩
 mono:=fun h ⟨_,_,_,_,_,_,e,h4,h5⟩=>⟨_,_,_,_,_,_,e,h4.mono h,h5.mono h⟩
 len:=fun ⟨_,_,_,_,_,_,e,_⟩=>by rw [e];rfl
 one:=fun ⟨_,_,_,_,_,_,e,_⟩=>by rw [e];rfl
theorem xe (x:MY):G4 ri x fun vs cs=> ∃A4 n4 c4 A5 n5 c5,vs=[iV x.Kind,iV x.Shape,iV x.Flags,iV x.Age,I A4 n4 c4,I A5 n5 c5]∧cs=[lB cc (I A4 n4 c4) x.Slots,lB cc (I A5 n5 c5) x.More]:=fun S w vs ⟨_,_,_,_,_,_,e,h4,h5⟩=>⟨_,⟨_,_,_,_,_,_,e,rfl⟩,hD h4 (hD h5 (aj))⟩
structure MK where
 Young:(List MY)
 Old:(List MY)
 deriving DecidableEq,Inhabited
def K4:Rep MK where
 sz:=2
 rel S w vs x:= ∃A0 n0 c0 A1 n1 c1,vs=[I A0 n0 c0,I A1 n1 c1]∧SlR ri S w (I A0 n0 c0) x.Young∧SlR ri S w (I A1 n1 c1) x.Old
 loc:=fun h ⟨_,_,_,_,_,_,e,h0,h1⟩=>⟨_,_,_,_,_,_,e,h0.loc h,h1.loc h⟩
 mono:=fun h ⟨_,_,_,_,_,_,e,h0,h1⟩=>⟨_,_,_,_,_,_,e,h0.mono h,h1.mono h⟩
 len:=fun ⟨_,_,_,_,_,_,e,_⟩=>by rw [e];rfl
 one:=fun ⟨_,_,_,_,_,_,e,_⟩=>by rw [e];rfl
structure Nb where
 m_:MK
 roots_:(List MQ)
 pending_:(List MQ)
 set_:MW
 deriving DecidableEq,Inhabited
structure MM where
 Kind:Int
 N:Int
 S:ByteArray
 deriving DecidableEq,Inhabited
def nJ:Rep MM:=.flat 3 (fun x=> [iV x.Kind,iV x.N,.string x.S]) (fun _=>rfl) (fun _=>rfl)
structure MZ where
 Up:Int
 Key:MM
 Attrs:Int
 Len:Int
 deriving DecidableEq,Inhabited
def rY:Rep MZ:=.flat 6 (fun x=> [iV x.Up,iV x.Key.Kind,iV x.Key.N,.string x.Key.S,iV x.Attrs,iV x.Len]) (fun _=>rfl) (fun _=>rfl)
structure MN where
 up_:Int
 key_:MM
 attrs_:Int
 deriving DecidableEq,Inhabited
def Lt:Rep MN:=.flat 5 (fun x=> [iV x.up_,iV x.key_.Kind,iV x.key_.N,.string x.key_.S,iV x.attrs_]) (fun _=>rfl) (fun _=>rfl)
structure MU where
 shapes_:(List MZ)
 next_:(List (MN×Int))
 deriving DecidableEq,Inhabited
structure MR where
 steps_:Int
 made_:Int
 calls_:Int
 deriving DecidableEq,Inhabited
def Lq:Rep MR:=.flat 3 (fun x=> [iV x.steps_,iV x.made_,iV x.calls_]) (fun _=>rfl) (fun _=>rfl)
structure MV where
 Kind:Int
 Key:MM
 S:ByteArray
 deriving DecidableEq,Inhabited
def Dc:Rep MV:=.flat 5 (fun x=> [iV x.Kind,iV x.Key.Kind,iV x.Key.N,.string x.Key.S,.string x.S]) (fun _=>rfl) (fun _=>rfl)
structure MT where
 spent_:MR
 config_:MO
 host_:Unit
 heap_:Nb
 shapes_:MU
 symbols_:(List ByteArray)
 epoch_:Int
 serial_:Int
 sleepers_:Int
 events_:(List MV)
 out_:(List ByteArray)
 deriving DecidableEq,Inhabited
structure MX where
 Key:MM
 Attrs:Int
 Value:MQ
 Get:MQ
 Set:MQ
 deriving DecidableEq,Inhabited
def dx:Rep MX:=.flat 13 (fun x=> [iV x.Key.Kind,iV x.Key.N,.string x.Key.S,iV x.Attrs,iV x.Value.Kind,iV x.Value.N,.string x.Value.S,iV x.Get.Kind,iV x.Get.N,.string x.Get.S,iV x.Set.Kind,iV x.Set.N,.string x.Set.S]) (fun _=>rfl) (fun _=>rfl)
structure ML where
 Array:Bool
 Elements:Int
 Props:(List MX)
 Shut:Bool
 deriving DecidableEq,Inhabited
def Hv:Rep ML where
 sz:=4
 rel S w vs x:= ∃A2 n2 c2,vs=[.bool x.Array,iV x.Elements,I A2 n2 c2,.bool x.Shut]∧SlR dx S w (I A2 n2 c2) x.Props
 loc:=fun h ⟨_,_,_,e,h2⟩=>⟨_,_,_,e,h2.loc h⟩
 mono:=fun h ⟨_,_,_,e,h2⟩=>⟨_,_,_,e,h2.mono h⟩
 len:=fun ⟨_,_,_,e,_⟩=>by rw [e];rfl
 one:=fun ⟨_,_,_,e,_⟩=>by rw [e];rfl
structure Na where
 Has:Int
 Attrs:Int
 Value:MQ
 Get:MQ
 Set:MQ
 deriving DecidableEq,Inhabited
def Lu:Rep Na:=.flat 11 (fun x=> [iV x.Has,iV x.Attrs,iV x.Value.Kind,iV x.Value.N,.string x.Value.S,iV x.Get.Kind,iV x.Get.N,.string x.Get.S,iV x.Set.Kind,iV x.Set.N,.string x.Set.S]) (fun _=>rfl) (fun _=>rfl)
structure MP where
 Cell:MY
 w_:MT
 at_:MQ
 deriving DecidableEq,Inhabited
abbrev aX (A:Option Addr)(n c:Nat):=dr cc 30 (.slice A n c)
abbrev bm (A:Option Addr)(n c:Nat):=lB Hu (.slice A n c)
abbrev bw (A:Option Addr)(n c:Nat):=dr ri 138 (.slice A n c)
abbrev cH (A:Option Addr)(n c:Nat):=lB Dc (.slice A n c)
abbrev cL (A:Option Addr)(n c:Nat):=dr rY 201 (.slice A n c)
abbrev dV (A:Option Addr)(n c:Nat):=lB cc (.slice A n c)
abbrev ju (A:Option Addr)(n c:Nat):=dr nJ 24 (.slice A n c)
abbrev qB (A:Option Addr)(n c:Nat):=lB ri (.slice A n c)
abbrev ut (A:Option Addr)(n c:Nat):=lB rY (.slice A n c)
abbrev BH (x:MO):Value:=.agg #[iV x.Way,iV x.Steps,iV x.Calls,iV x.Made,iV x.Young,iV x.Full,iV x.Sites]
abbrev fm (x:Na):Value:=.agg #[iV x.Has,iV x.Attrs,iV x.Value.Kind,iV x.Value.N,.string x.Value.S,iV x.Get.Kind,iV x.Get.N,.string x.Get.S,iV x.Set.Kind,iV x.Set.N,.string x.Set.S]
abbrev fT (x:MM):Value:=.agg #[iV x.Kind,iV x.N,.string x.S]
abbrev bJ (x:MX):Value:=.agg #[iV x.Key.Kind,iV x.Key.N,.string x.Key.S,iV x.Attrs,iV x.Value.Kind,iV x.Value.N,.string x.Value.S,iV x.Get.Kind,iV x.Get.N,.string x.Get.S,iV x.Set.Kind,iV x.Set.N,.string x.Set.S]
abbrev Ae (x:MZ):Value:=.agg #[iV x.Up,iV x.Key.Kind,iV x.Key.N,.string x.Key.S,iV x.Attrs,iV x.Len]
abbrev F3 (x:MN):Value:=.agg #[iV x.up_,iV x.key_.Kind,iV x.key_.N,.string x.key_.S,iV x.attrs_]
abbrev bz (x:MQ):Value:=.agg #[iV x.Kind,iV x.N,.string x.S]
abbrev BD (x:MO):List Value:=[iV x.Way,iV x.Steps,iV x.Calls,iV x.Made,iV x.Young,iV x.Full,iV x.Sites]
abbrev ca (x:Na):List Value:=[iV x.Has,iV x.Attrs,iV x.Value.Kind,iV x.Value.N,.string x.Value.S,iV x.Get.Kind,iV x.Get.N,.string x.Get.S,iV x.Set.Kind,iV x.Set.N,.string x.Set.S]
abbrev bS (x:MM):List Value:=[iV x.Kind,iV x.N,.string x.S]
abbrev aR (x:MX):List Value:=[iV x.Key.Kind,iV x.Key.N,.string x.Key.S,iV x.Attrs,iV x.Value.Kind,iV x.Value.N,.string x.Value.S,iV x.Get.Kind,iV x.Get.N,.string x.Get.S,iV x.Set.Kind,iV x.Set.N,.string x.Set.S]
abbrev fj (x:MZ):List Value:=[iV x.Up,iV x.Key.Kind,iV x.Key.N,.string x.Key.S,iV x.Attrs,iV x.Len]
abbrev au (x:MQ):List Value:=[iV x.Kind,iV x.N,.string x.S]
abbrev dm (x:MT)(b d:Nat)(A:Option Addr)(n c:Nat)(A2:Option Addr)(n2 c2:Nat)(A3:Option Addr)(n3 c3:Nat):List Value:=[iV x.spent_.steps_,iV x.spent_.made_,iV x.spent_.calls_,iV x.config_.Way,iV x.config_.Steps,iV x.config_.Calls,iV x.config_.Made,iV x.config_.Young,iV x.config_.Full,iV x.config_.Sites,.nilIface,pV b 0,pV d 0,.slice A n c,iV x.epoch_,iV x.serial_,iV x.sleepers_,I A2 n2 c2,I A3 n3 c3]
theorem GJ:aw Tryz.prog 16:=⟨Tryz.f16,Tryz.func16,rfl,rfl⟩
theorem AG:aw Tryz.prog 18:=⟨Tryz.f18,Tryz.func18,rfl,rfl⟩
theorem CU:aw Tryz.prog 19:=⟨Tryz.f19,Tryz.func19,rfl,rfl⟩
theorem Ky:aw Tryz.prog 20:=⟨Tryz.f20,Tryz.func20,rfl,rfl⟩
theorem GI:aw Tryz.prog 21:=⟨Tryz.f21,Tryz.func21,rfl,rfl⟩
theorem Kx:aw Tryz.prog 24:=⟨Tryz.f24,Tryz.func24,rfl,rfl⟩
theorem xY:aw Tryz.prog 25:=⟨Tryz.f25,Tryz.func25,rfl,rfl⟩
theorem Kw:aw Tryz.prog 26:=⟨Tryz.f26,Tryz.func26,rfl,rfl⟩
theorem xX:aw Tryz.prog 27:=⟨Tryz.f27,Tryz.func27,rfl,rfl⟩
theorem GH:aw Tryz.prog 28:=⟨Tryz.f28,Tryz.func28,rfl,rfl⟩
theorem Kv:aw Tryz.prog 30:=⟨Tryz.f30,Tryz.func30,rfl,rfl⟩
theorem Ku:aw Tryz.prog 31:=⟨Tryz.f31,Tryz.func31,rfl,rfl⟩
theorem Kt:aw Tryz.prog 32:=⟨Tryz.f32,Tryz.func32,rfl,rfl⟩
theorem Ks:aw Tryz.prog 33:=⟨Tryz.f33,Tryz.func33,rfl,rfl⟩
theorem Kr:aw Tryz.prog 35:=⟨Tryz.f35,Tryz.func35,rfl,rfl⟩
theorem Az:aw Tryz.prog 38:=⟨Tryz.f38,Tryz.func38,rfl,rfl⟩
theorem CT:aw Tryz.prog 39:=⟨Tryz.f39,Tryz.func39,rfl,rfl⟩
theorem Ay:aw Tryz.prog 40:=⟨Tryz.f40,Tryz.func40,rfl,rfl⟩
theorem Kq:aw Tryz.prog 41:=⟨Tryz.f41,Tryz.func41,rfl,rfl⟩
theorem GG:aw Tryz.prog 42:=⟨Tryz.f42,Tryz.func42,rfl,rfl⟩
theorem CS:aw Tryz.prog 43:=⟨Tryz.f43,Tryz.func43,rfl,rfl⟩
theorem Kp:aw Tryz.prog 44:=⟨Tryz.f44,Tryz.func44,rfl,rfl⟩
theorem CR:aw Tryz.prog 45:=⟨Tryz.f45,Tryz.func45,rfl,rfl⟩
theorem Ko:aw Tryz.prog 46:=⟨Tryz.f46,Tryz.func46,rfl,rfl⟩
theorem GF:aw Tryz.prog 47:=⟨Tryz.f47,Tryz.func47,rfl,rfl⟩
theorem GE:aw Tryz.prog 48:=⟨Tryz.f48,Tryz.func48,rfl,rfl⟩
theorem Kn:aw Tryz.prog 49:=⟨Tryz.f49,Tryz.func49,rfl,rfl⟩
theorem Km:aw Tryz.prog 50:=⟨Tryz.f50,Tryz.func50,rfl,rfl⟩
theorem GD:aw Tryz.prog 51:=⟨Tryz.f51,Tryz.func51,rfl,rfl⟩
theorem Kl:aw Tryz.prog 52:=⟨Tryz.f52,Tryz.func52,rfl,rfl⟩
theorem rG:aw Tryz.prog 54:=⟨Tryz.f54,Tryz.func54,rfl,rfl⟩
theorem th:aw Tryz.prog 55:=⟨Tryz.f55,Tryz.func55,rfl,rfl⟩
theorem xW:aw Tryz.prog 56:=⟨Tryz.f56,Tryz.func56,rfl,rfl⟩
theorem GC:aw Tryz.prog 66:=⟨Tryz.f66,Tryz.func66,rfl,rfl⟩
theorem Kk:aw Tryz.prog 77:=⟨Tryz.f77,Tryz.func77,rfl,rfl⟩
theorem Kj:aw Tryz.prog 78:=⟨Tryz.f78,Tryz.func78,rfl,rfl⟩
theorem Ki:aw Tryz.prog 79:=⟨Tryz.f79,Tryz.func79,rfl,rfl⟩
theorem GB:aw Tryz.prog 80:=⟨Tryz.f80,Tryz.func80,rfl,rfl⟩
theorem GA:aw Tryz.prog 81:=⟨Tryz.f81,Tryz.func81,rfl,rfl⟩
theorem Ax:aw Tryz.prog 82:=⟨Tryz.f82,Tryz.func82,rfl,rfl⟩
theorem Kh:aw Tryz.prog 83:=⟨Tryz.f83,Tryz.func83,rfl,rfl⟩
theorem ir:aw Tryz.prog 84:=⟨Tryz.f84,Tryz.func84,rfl,rfl⟩
theorem Kg:aw Tryz.prog 85:=⟨Tryz.f85,Tryz.func85,rfl,rfl⟩
theorem Kf:aw Tryz.prog 86:=⟨Tryz.f86,Tryz.func86,rfl,rfl⟩
theorem Ke:aw Tryz.prog 87:=⟨Tryz.f87,Tryz.func87,rfl,rfl⟩
theorem uW:aw Tryz.prog 88:=⟨Tryz.f88,Tryz.func88,rfl,rfl⟩
theorem Gz:aw Tryz.prog 89:=⟨Tryz.f89,Tryz.func89,rfl,rfl⟩
theorem xV:aw Tryz.prog 90:=⟨Tryz.f90,Tryz.func90,rfl,rfl⟩
theorem Aw:aw Tryz.prog 95:=⟨Tryz.f95,Tryz.func95,rfl,rfl⟩
theorem oK:aw Tryz.prog 96:=⟨Tryz.f96,Tryz.func96,rfl,rfl⟩
theorem xU:aw Tryz.prog 97:=⟨Tryz.f97,Tryz.func97,rfl,rfl⟩
theorem Gy:aw Tryz.prog 98:=⟨Tryz.f98,Tryz.func98,rfl,rfl⟩
theorem uV:aw Tryz.prog 99:=⟨Tryz.f99,Tryz.func99,rfl,rfl⟩
theorem D3:aw Tryz.prog 100:=⟨Tryz.f100,Tryz.func100,rfl,rfl⟩
theorem IY:aw Tryz.prog 101:=⟨Tryz.f101,Tryz.func101,rfl,rfl⟩
theorem IX:aw Tryz.prog 102:=⟨Tryz.f102,Tryz.func102,rfl,rfl⟩
theorem IW:aw Tryz.prog 103:=⟨Tryz.f103,Tryz.func103,rfl,rfl⟩
theorem IV:aw Tryz.prog 104:=⟨Tryz.f104,Tryz.func104,rfl,rfl⟩
theorem ue:aw Tryz.prog 105:=⟨Tryz.f105,Tryz.func105,rfl,rfl⟩
theorem D2:aw Tryz.prog 106:=⟨Tryz.f106,Tryz.func106,rfl,rfl⟩
theorem mS:aw Tryz.prog 107:=⟨Tryz.f107,Tryz.func107,rfl,rfl⟩
theorem IU:aw Tryz.prog 108:=⟨Tryz.f108,Tryz.func108,rfl,rfl⟩
theorem IT:aw Tryz.prog 109:=⟨Tryz.f109,Tryz.func109,rfl,rfl⟩
theorem D1:aw Tryz.prog 110:=⟨Tryz.f110,Tryz.func110,rfl,rfl⟩
theorem IS:aw Tryz.prog 111:=⟨Tryz.f111,Tryz.func111,rfl,rfl⟩
theorem AN:aw Tryz.prog 114:=⟨Tryz.f114,Tryz.func114,rfl,rfl⟩
theorem D0:aw Tryz.prog 116:=⟨Tryz.f116,Tryz.func116,rfl,rfl⟩
theorem wz:aw Tryz.prog 117:=⟨Tryz.f117,Tryz.func117,rfl,rfl⟩
theorem sg:aw Tryz.prog 118:=⟨Tryz.f118,Tryz.func118,rfl,rfl⟩
theorem IR:aw Tryz.prog 119:=⟨Tryz.f119,Tryz.func119,rfl,rfl⟩
theorem IQ:aw Tryz.prog 120:=⟨Tryz.f120,Tryz.func120,rfl,rfl⟩
theorem wy:aw Tryz.prog 121:=⟨Tryz.f121,Tryz.func121,rfl,rfl⟩
theorem ud:aw Tryz.prog 122:=⟨Tryz.f122,Tryz.func122,rfl,rfl⟩
theorem DZ:aw Tryz.prog 123:=⟨Tryz.f123,Tryz.func123,rfl,rfl⟩
theorem DY:aw Tryz.prog 124:=⟨Tryz.f124,Tryz.func124,rfl,rfl⟩
theorem DX:aw Tryz.prog 125:=⟨Tryz.f125,Tryz.func125,rfl,rfl⟩
theorem IP:aw Tryz.prog 126:=⟨Tryz.f126,Tryz.func126,rfl,rfl⟩
theorem IN:aw Tryz.prog 127:=⟨Tryz.f127,Tryz.func127,rfl,rfl⟩
theorem DW:aw Tryz.prog 128:=⟨Tryz.f128,Tryz.func128,rfl,rfl⟩
theorem DV:aw Tryz.prog 129:=⟨Tryz.f129,Tryz.func129,rfl,rfl⟩
theorem IM:aw Tryz.prog 130:=⟨Tryz.f130,Tryz.func130,rfl,rfl⟩
theorem IL:aw Tryz.prog 131:=⟨Tryz.f131,Tryz.func131,rfl,rfl⟩
theorem IK:aw Tryz.prog 132:=⟨Tryz.f132,Tryz.func132,rfl,rfl⟩
theorem IJ:aw Tryz.prog 133:=⟨Tryz.f133,Tryz.func133,rfl,rfl⟩
theorem II:aw Tryz.prog 135:=⟨Tryz.f135,Tryz.func135,rfl,rfl⟩
theorem IH:aw Tryz.prog 144:=⟨Tryz.f144,Tryz.func144,rfl,rfl⟩
theorem IG:aw Tryz.prog 145:=⟨Tryz.f145,Tryz.func145,rfl,rfl⟩
theorem wx:aw Tryz.prog 146:=⟨Tryz.f146,Tryz.func146,rfl,rfl⟩
theorem qq:aw Tryz.prog 147:=⟨Tryz.f147,Tryz.func147,rfl,rfl⟩
theorem IF:aw Tryz.prog 148:=⟨Tryz.f148,Tryz.func148,rfl,rfl⟩
theorem sf:aw Tryz.prog 149:=⟨Tryz.f149,Tryz.func149,rfl,rfl⟩
theorem AM:aw Tryz.prog 150:=⟨Tryz.f150,Tryz.func150,rfl,rfl⟩
theorem IE:aw Tryz.prog 151:=⟨Tryz.f151,Tryz.func151,rfl,rfl⟩
theorem fY:aw Tryz.prog 152:=⟨Tryz.f152,Tryz.func152,rfl,rfl⟩
theorem DU:aw Tryz.prog 153:=⟨Tryz.f153,Tryz.func153,rfl,rfl⟩
theorem DT:aw Tryz.prog 154:=⟨Tryz.f154,Tryz.func154,rfl,rfl⟩
theorem DS:aw Tryz.prog 155:=⟨Tryz.f155,Tryz.func155,rfl,rfl⟩
theorem DR:aw Tryz.prog 156:=⟨Tryz.f156,Tryz.func156,rfl,rfl⟩
theorem ID:aw Tryz.prog 157:=⟨Tryz.f157,Tryz.func157,rfl,rfl⟩
theorem IC:aw Tryz.prog 158:=⟨Tryz.f158,Tryz.func158,rfl,rfl⟩
theorem DQ:aw Tryz.prog 159:=⟨Tryz.f159,Tryz.func159,rfl,rfl⟩
theorem IB:aw Tryz.prog 160:=⟨Tryz.f160,Tryz.func160,rfl,rfl⟩
theorem ww:aw Tryz.prog 161:=⟨Tryz.f161,Tryz.func161,rfl,rfl⟩
theorem AL:aw Tryz.prog 162:=⟨Tryz.f162,Tryz.func162,rfl,rfl⟩
theorem DP:aw Tryz.prog 163:=⟨Tryz.f163,Tryz.func163,rfl,rfl⟩
theorem wv:aw Tryz.prog 164:=⟨Tryz.f164,Tryz.func164,rfl,rfl⟩
theorem AK:aw Tryz.prog 165:=⟨Tryz.f165,Tryz.func165,rfl,rfl⟩
theorem AJ:aw Tryz.prog 166:=⟨Tryz.f166,Tryz.func166,rfl,rfl⟩
theorem DO:aw Tryz.prog 167:=⟨Tryz.f167,Tryz.func167,rfl,rfl⟩
theorem wu:aw Tryz.prog 168:=⟨Tryz.f168,Tryz.func168,rfl,rfl⟩
theorem IA:aw Tryz.prog 169:=⟨Tryz.f169,Tryz.func169,rfl,rfl⟩
theorem Iz:aw Tryz.prog 170:=⟨Tryz.f170,Tryz.func170,rfl,rfl⟩
theorem Iy:aw Tryz.prog 171:=⟨Tryz.f171,Tryz.func171,rfl,rfl⟩
theorem DN:aw Tryz.prog 172:=⟨Tryz.f172,Tryz.func172,rfl,rfl⟩
theorem AI:aw Tryz.prog 173:=⟨Tryz.f173,Tryz.func173,rfl,rfl⟩
theorem Ix:aw Tryz.prog 174:=⟨Tryz.f174,Tryz.func174,rfl,rfl⟩
theorem AH:aw Tryz.prog 175:=⟨Tryz.f175,Tryz.func175,rfl,rfl⟩
theorem Iw:aw Tryz.prog 176:=⟨Tryz.f176,Tryz.func176,rfl,rfl⟩
theorem wt:aw Tryz.prog 177:=⟨Tryz.f177,Tryz.func177,rfl,rfl⟩
theorem Iv:aw Tryz.prog 202:=⟨Tryz.f202,Tryz.func202,rfl,rfl⟩
theorem DM:aw Tryz.prog 203:=⟨Tryz.f203,Tryz.func203,rfl,rfl⟩
theorem AF:aw Tryz.prog 204:=⟨Tryz.f204,Tryz.func204,rfl,rfl⟩
theorem qp:aw Tryz.prog 205:=⟨Tryz.f205,Tryz.func205,rfl,rfl⟩
theorem Iu:aw Tryz.prog 206:=⟨Tryz.f206,Tryz.func206,rfl,rfl⟩
theorem It:aw Tryz.prog 207:=⟨Tryz.f207,Tryz.func207,rfl,rfl⟩
theorem DL:aw Tryz.prog 208:=⟨Tryz.f208,Tryz.func208,rfl,rfl⟩
theorem AE:aw Tryz.prog 209:=⟨Tryz.f209,Tryz.func209,rfl,rfl⟩
theorem se:aw Tryz.prog 210:=⟨Tryz.f210,Tryz.func210,rfl,rfl⟩
theorem ws:aw Tryz.prog 211:=⟨Tryz.f211,Tryz.func211,rfl,rfl⟩
theorem AD:aw Tryz.prog 212:=⟨Tryz.f212,Tryz.func212,rfl,rfl⟩
theorem Is:aw Tryz.prog 213:=⟨Tryz.f213,Tryz.func213,rfl,rfl⟩
theorem AC:aw Tryz.prog 214:=⟨Tryz.f214,Tryz.func214,rfl,rfl⟩
theorem Ir:aw Tryz.prog 215:=⟨Tryz.f215,Tryz.func215,rfl,rfl⟩
theorem DK:aw Tryz.prog 225:=⟨Tryz.f225,Tryz.func225,rfl,rfl⟩
theorem Iq:aw Tryz.prog 226:=⟨Tryz.f226,Tryz.func226,rfl,rfl⟩
theorem Ip:aw Tryz.prog 227:=⟨Tryz.f227,Tryz.func227,rfl,rfl⟩
theorem Io:aw Tryz.prog 228:=⟨Tryz.f228,Tryz.func228,rfl,rfl⟩
theorem DJ:aw Tryz.prog 229:=⟨Tryz.f229,Tryz.func229,rfl,rfl⟩
theorem AB:aw Tryz.prog 230:=⟨Tryz.f230,Tryz.func230,rfl,rfl⟩
theorem pf:aw Tryz.prog 231:=⟨Tryz.f231,Tryz.func231,rfl,rfl⟩
theorem DI:aw Tryz.prog 232:=⟨Tryz.f232,Tryz.func232,rfl,rfl⟩
theorem In:aw Tryz.prog 233:=⟨Tryz.f233,Tryz.func233,rfl,rfl⟩
theorem Im:aw Tryz.prog 234:=⟨Tryz.f234,Tryz.func234,rfl,rfl⟩
theorem Il:aw Tryz.prog 235:=⟨Tryz.f235,Tryz.func235,rfl,rfl⟩
theorem DH:aw Tryz.prog 238:=⟨Tryz.f238,Tryz.func238,rfl,rfl⟩
theorem Ik:aw Tryz.prog 239:=⟨Tryz.f239,Tryz.func239,rfl,rfl⟩
theorem sd:aw Tryz.prog 240:=⟨Tryz.f240,Tryz.func240,rfl,rfl⟩
theorem sc:aw Tryz.prog 241:=⟨Tryz.f241,Tryz.func241,rfl,rfl⟩
theorem DG:aw Tryz.prog 242:=⟨Tryz.f242,Tryz.func242,rfl,rfl⟩
theorem Ij:aw Tryz.prog 243:=⟨Tryz.f243,Tryz.func243,rfl,rfl⟩
theorem Ii:aw Tryz.prog 244:=⟨Tryz.f244,Tryz.func244,rfl,rfl⟩
theorem DF:aw Tryz.prog 245:=⟨Tryz.f245,Tryz.func245,rfl,rfl⟩
theorem Ih:aw Tryz.prog 246:=⟨Tryz.f246,Tryz.func246,rfl,rfl⟩
theorem DE:aw Tryz.prog 247:=⟨Tryz.f247,Tryz.func247,rfl,rfl⟩
theorem Ig:aw Tryz.prog 248:=⟨Tryz.f248,Tryz.func248,rfl,rfl⟩
theorem If:aw Tryz.prog 253:=⟨Tryz.f253,Tryz.func253,rfl,rfl⟩
theorem AA:aw Tryz.prog 254:=⟨Tryz.f254,Tryz.func254,rfl,rfl⟩
theorem Ie:aw Tryz.prog 255:=⟨Tryz.f255,Tryz.func255,rfl,rfl⟩
theorem DD:aw Tryz.prog 256:=⟨Tryz.f256,Tryz.func256,rfl,rfl⟩
theorem Id:aw Tryz.prog 262:=⟨Tryz.f262,Tryz.func262,rfl,rfl⟩
theorem Ic:aw Tryz.prog 263:=⟨Tryz.f263,Tryz.func263,rfl,rfl⟩
theorem HZ (b o:Nat)(w:World):(Instr.fieldAt 24 (pV b o) 0).run Tryz.prog w=.ok (pV b o) w:=by kernel_rfl
theorem Ai (b o:Nat)(w:World):(Instr.fieldAt 24 (pV b o) 1).run Tryz.prog w=.ok (.pointer (some ⟨b,o+1,none⟩)) w:=by kernel_rfl
theorem HY (b o:Nat)(w:World):(Instr.fieldAt 24 (pV b o) 2).run Tryz.prog w=.ok (.pointer (some ⟨b,o+2,none⟩)) w:=by kernel_rfl
theorem nW (b o:Nat)(w:World):(Instr.fieldAt 30 (pV b o) 0).run Tryz.prog w=.ok (pV b o) w:=by kernel_rfl
theorem wn (b o:Nat)(w:World):(Instr.fieldAt 30 (pV b o) 1).run Tryz.prog w=.ok (.pointer (some ⟨b,o+1,none⟩)) w:=by kernel_rfl
theorem HX (b o:Nat)(w:World):(Instr.fieldAt 30 (pV b o) 2).run Tryz.prog w=.ok (.pointer (some ⟨b,o+2,none⟩)) w:=by kernel_rfl
theorem Du (b o:Nat)(w:World):(Instr.fieldAt 32 (pV b o) 0).run Tryz.prog w=.ok (pV b o) w:=by kernel_rfl
theorem Dt (b o:Nat)(w:World):(Instr.fieldAt 32 (pV b o) 1).run Tryz.prog w=.ok (.pointer (some ⟨b,o+1,none⟩)) w:=by kernel_rfl
theorem HW (b o:Nat)(w:World):(Instr.fieldAt 32 (pV b o) 2).run Tryz.prog w=.ok (.pointer (some ⟨b,o+2,none⟩)) w:=by kernel_rfl
theorem HV (b o:Nat)(w:World):(Instr.fieldAt 32 (pV b o) 3).run Tryz.prog w=.ok (.pointer (some ⟨b,o+5,none⟩)) w:=by kernel_rfl
theorem HU (b o:Nat)(w:World):(Instr.fieldAt 32 (pV b o) 4).run Tryz.prog w=.ok (.pointer (some ⟨b,o+8,none⟩)) w:=by kernel_rfl
theorem wm (b o:Nat)(w:World):(Instr.fieldAt 42 (pV b o) 0).run Tryz.prog w=.ok (pV b o) w:=by kernel_rfl
theorem tX (b o:Nat)(w:World):(Instr.fieldAt 42 (pV b o) 1).run Tryz.prog w=.ok (.pointer (some ⟨b,o+3,none⟩)) w:=by kernel_rfl
theorem Ah (b o:Nat)(w:World):(Instr.fieldAt 42 (pV b o) 2).run Tryz.prog w=.ok (.pointer (some ⟨b,o+4,none⟩)) w:=by kernel_rfl
theorem wl (b o:Nat)(w:World):(Instr.fieldAt 42 (pV b o) 3).run Tryz.prog w=.ok (.pointer (some ⟨b,o+7,none⟩)) w:=by kernel_rfl
theorem wk (b o:Nat)(w:World):(Instr.fieldAt 42 (pV b o) 4).run Tryz.prog w=.ok (.pointer (some ⟨b,o+10,none⟩)) w:=by kernel_rfl
theorem HT (b o:Nat)(w:World):(Instr.fieldAt 57 (pV b o) 0).run Tryz.prog w=.ok (pV b o) w:=by kernel_rfl
theorem HS (b o:Nat)(w:World):(Instr.fieldAt 57 (pV b o) 1).run Tryz.prog w=.ok (.pointer (some ⟨b,o+1,none⟩)) w:=by kernel_rfl
theorem HR (b o:Nat)(w:World):(Instr.fieldAt 57 (pV b o) 2).run Tryz.prog w=.ok (.pointer (some ⟨b,o+2,none⟩)) w:=by kernel_rfl
theorem Dr (b o:Nat)(w:World):(Instr.fieldAt 57 (pV b o) 3).run Tryz.prog w=.ok (.pointer (some ⟨b,o+3,none⟩)) w:=by kernel_rfl
theorem HQ (b o:Nat)(w:World):(Instr.fieldAt 57 (pV b o) 4).run Tryz.prog w=.ok (.pointer (some ⟨b,o+4,none⟩)) w:=by kernel_rfl
theorem HP (b o:Nat)(w:World):(Instr.fieldAt 57 (pV b o) 5).run Tryz.prog w=.ok (.pointer (some ⟨b,o+5,none⟩)) w:=by kernel_rfl
theorem HO (b o:Nat)(w:World):(Instr.fieldAt 57 (pV b o) 6).run Tryz.prog w=.ok (.pointer (some ⟨b,o+6,none⟩)) w:=by kernel_rfl
theorem HN (b o:Nat)(w:World):(Instr.fieldAt 84 (pV b o) 0).run Tryz.prog w=.ok (pV b o) w:=by kernel_rfl
theorem HM (b o:Nat)(w:World):(Instr.fieldAt 84 (pV b o) 1).run Tryz.prog w=.ok (.pointer (some ⟨b,o+1,none⟩)) w:=by kernel_rfl
theorem Ag (b o:Nat)(w:World):(Instr.fieldAt 84 (pV b o) 2).run Tryz.prog w=.ok (.pointer (some ⟨b,o+2,none⟩)) w:=by kernel_rfl
theorem HL (b o:Nat)(w:World):(Instr.fieldAt 84 (pV b o) 3).run Tryz.prog w=.ok (.pointer (some ⟨b,o+3,none⟩)) w:=by kernel_rfl
theorem BP (b o:Nat)(w:World):(Instr.fieldAt 138 (pV b o) 0).run Tryz.prog w=.ok (pV b o) w:=by kernel_rfl
theorem nk (b o:Nat)(w:World):(Instr.fieldAt 138 (pV b o) 1).run Tryz.prog w=.ok (.pointer (some ⟨b,o+1,none⟩)) w:=by kernel_rfl
theorem BO (b o:Nat)(w:World):(Instr.fieldAt 138 (pV b o) 2).run Tryz.prog w=.ok (.pointer (some ⟨b,o+2,none⟩)) w:=by kernel_rfl
theorem mh (b o:Nat)(w:World):(Instr.fieldAt 138 (pV b o) 3).run Tryz.prog w=.ok (.pointer (some ⟨b,o+3,none⟩)) w:=by kernel_rfl
theorem kx (b o:Nat)(w:World):(Instr.fieldAt 138 (pV b o) 4).run Tryz.prog w=.ok (.pointer (some ⟨b,o+4,none⟩)) w:=by kernel_rfl
theorem oH (b o:Nat)(w:World):(Instr.fieldAt 138 (pV b o) 5).run Tryz.prog w=.ok (.pointer (some ⟨b,o+5,none⟩)) w:=by kernel_rfl
theorem gc (b o:Nat)(w:World):(Instr.fieldAt 140 (pV b o) 0).run Tryz.prog w=.ok (pV b o) w:=by kernel_rfl
theorem oG (b o:Nat)(w:World):(Instr.fieldAt 140 (pV b o) 1).run Tryz.prog w=.ok (.pointer (some ⟨b,o+6,none⟩)) w:=by kernel_rfl
theorem BN (b o:Nat)(w:World):(Instr.fieldAt 140 (pV b o) 2).run Tryz.prog w=.ok (.pointer (some ⟨b,o+7,none⟩)) w:=by kernel_rfl
theorem BM (b o:Nat)(w:World):(Instr.fieldAt 147 (pV b o) 1).run Tryz.prog w=.ok (.pointer (some ⟨b,o+1,none⟩)) w:=by kernel_rfl
theorem BL (b o:Nat)(w:World):(Instr.fieldAt 151 (pV b o) 0).run Tryz.prog w=.ok (pV b o) w:=by kernel_rfl
theorem BK (b o:Nat)(w:World):(Instr.fieldAt 151 (pV b o) 1).run Tryz.prog w=.ok (.pointer (some ⟨b,o+3,none⟩)) w:=by kernel_rfl
theorem lj (b o:Nat)(w:World):(Instr.fieldAt 151 (pV b o) 3).run Tryz.prog w=.ok (.pointer (some ⟨b,o+11,none⟩)) w:=by kernel_rfl
theorem Gd (b o:Nat)(w:World):(Instr.fieldAt 151 (pV b o) 4).run Tryz.prog w=.ok (.pointer (some ⟨b,o+12,none⟩)) w:=by kernel_rfl
theorem Gc (b o:Nat)(w:World):(Instr.fieldAt 151 (pV b o) 6).run Tryz.prog w=.ok (.pointer (some ⟨b,o+14,none⟩)) w:=by kernel_rfl
theorem xz (b o:Nat)(w:World):(Instr.fieldAt 197 (pV b o) 0).run Tryz.prog w=.ok (pV b o) w:=by kernel_rfl
theorem Gb (b o:Nat)(w:World):(Instr.fieldAt 197 (pV b o) 1).run Tryz.prog w=.ok (.pointer (some ⟨b,o+1,none⟩)) w:=by kernel_rfl
theorem xy (b o:Nat)(w:World):(Instr.fieldAt 199 (pV b o) 0).run Tryz.prog w=.ok (pV b o) w:=by kernel_rfl
theorem xx (b o:Nat)(w:World):(Instr.fieldAt 199 (pV b o) 1).run Tryz.prog w=.ok (.pointer (some ⟨b,o+2,none⟩)) w:=by kernel_rfl
theorem rv (b o:Nat)(w:World):(Instr.fieldAt 199 (pV b o) 3).run Tryz.prog w=.ok (.pointer (some ⟨b,o+4,none⟩)) w:=by kernel_rfl
theorem t3 (b o:Nat)(w:World):(Instr.fieldAt 201 (pV b o) 0).run Tryz.prog w=.ok (pV b o) w:=by kernel_rfl
theorem tZ (b o:Nat)(w:World):(Instr.fieldAt 201 (pV b o) 1).run Tryz.prog w=.ok (.pointer (some ⟨b,o+1,none⟩)) w:=by kernel_rfl
theorem pL (b o:Nat)(w:World):(Instr.fieldAt 201 (pV b o) 2).run Tryz.prog w=.ok (.pointer (some ⟨b,o+4,none⟩)) w:=by kernel_rfl
theorem tY (b o:Nat)(w:World):(Instr.fieldAt 201 (pV b o) 3).run Tryz.prog w=.ok (.pointer (some ⟨b,o+5,none⟩)) w:=by kernel_rfl
theorem pK (b o:Nat)(w:World):(Instr.fieldAt 205 (pV b o) 0).run Tryz.prog w=.ok (pV b o) w:=by kernel_rfl
theorem xw (b o:Nat)(w:World):(Instr.fieldAt 205 (pV b o) 1).run Tryz.prog w=.ok (.pointer (some ⟨b,o+1,none⟩)) w:=by kernel_rfl
theorem Ga (b o:Nat)(w:World):(Instr.fieldAt 247 (pV b o) 0).run Tryz.prog w=.ok (pV b o) w:=by kernel_rfl
theorem dH:js Tryz.prog 3=true:=by kernel_rfl
theorem Bq:js Tryz.prog 4=true:=by kernel_rfl
theorem Lw:js Tryz.prog 9=true:=by kernel_rfl
theorem vu:js Tryz.prog 36=true:=by kernel_rfl
theorem iO:js Tryz.prog 38=true:=by kernel_rfl
theorem Jh:js Tryz.prog 67=true:=by kernel_rfl
theorem FH:js Tryz.prog 82=true:=by kernel_rfl
theorem lV:js Tryz.prog 142=true:=by kernel_rfl
theorem FI:js Tryz.prog 144=true:=by kernel_rfl
theorem uI:js Tryz.prog 193=true:=by kernel_rfl
theorem zN:js Tryz.prog 195=true:=by kernel_rfl
theorem oz:js Tryz.prog 202=true:=by kernel_rfl
theorem CA:js Tryz.prog 203=true:=by kernel_rfl
theorem JN:js Tryz.prog 211=true:=by kernel_rfl
theorem JM:js Tryz.prog 245=true:=by kernel_rfl
theorem bF:qO Tryz.prog 24 3=true:=by kernel_rfl
theorem aH:qO Tryz.prog 30 3=true:=by kernel_rfl
theorem dT:qO Tryz.prog 32 11=true:=by kernel_rfl
theorem dA:qO Tryz.prog 42 13=true:=by kernel_rfl
theorem Jr:qO Tryz.prog 57 7=true:=by kernel_rfl
theorem Jq:qO Tryz.prog 84 4=true:=by kernel_rfl
theorem cq:qO Tryz.prog 138 6=true:=by kernel_rfl
theorem G0:qO Tryz.prog 197 2=true:=by kernel_rfl
theorem pA:qO Tryz.prog 201 6=true:=by kernel_rfl
theorem iM:gk Tryz.prog 3 1=true:=by kernel_rfl
theorem wH:gk Tryz.prog 4 1=true:=by kernel_rfl
theorem cO:gk Tryz.prog 24 3=true:=by kernel_rfl
theorem bv:gk Tryz.prog 30 3=true:=by kernel_rfl
theorem qW:gk Tryz.prog 32 11=true:=by kernel_rfl
theorem nv:gk Tryz.prog 38 1=true:=by kernel_rfl
theorem cm:gk Tryz.prog 42 13=true:=by kernel_rfl
theorem Co:gk Tryz.prog 67 1=true:=by kernel_rfl
theorem du:gk Tryz.prog 138 6=true:=by kernel_rfl
theorem Ho:gk Tryz.prog 195 1=true:=by kernel_rfl
theorem dX:gk Tryz.prog 201 6=true:=by kernel_rfl
theorem Hm:gk Tryz.prog 202 1=true:=by kernel_rfl
theorem Hl:gk Tryz.prog 211 1=true:=by kernel_rfl
theorem KU (w:World):(zeroValue 3).run Tryz.prog w=.ok (iV 0) w:=by kernel_rfl
theorem Jc (w:World):(zeroValue 4).run Tryz.prog w=.ok (.bool false) w:=by kernel_rfl
theorem qP (w:World):(zeroValue 24).run Tryz.prog w=.ok (.agg #[iV 0,iV 0,.string ⟨#[]⟩]) w:=by kernel_rfl
theorem gw (w:World):(zeroValue 30).run Tryz.prog w=.ok (.agg #[iV 0,iV 0,.string ⟨#[]⟩]) w:=by kernel_rfl
theorem uu (w:World):(zeroValue 32).run Tryz.prog w=.ok (.agg #[iV 0,iV 0,iV 0,iV 0,.string ⟨#[]⟩,iV 0,iV 0,.string ⟨#[]⟩,iV 0,iV 0,.string ⟨#[]⟩]) w:=by kernel_rfl
theorem dB (w:World):(zeroValue 42).run Tryz.prog w=.ok (.agg #[iV 0,iV 0,.string ⟨#[]⟩,iV 0,iV 0,iV 0,.string ⟨#[]⟩,iV 0,iV 0,.string ⟨#[]⟩,iV 0,iV 0,.string ⟨#[]⟩]) w:=by kernel_rfl
theorem JB (w:World):(zeroValue 67).run Tryz.prog w=.ok (I none 0 0) w:=by kernel_rfl
theorem gx (w:World):(zeroValue 138).run Tryz.prog w=.ok (.agg #[iV 0,iV 0,iV 0,iV 0,I none 0 0,I none 0 0]) w:=by kernel_rfl
theorem pS (w:World):(zeroValue 201).run Tryz.prog w=.ok (.agg #[iV 0,iV 0,iV 0,.string ⟨#[]⟩,iV 0,iV 0]) w:=by kernel_rfl
theorem Hc (w:World):(zeroValue 211).run Tryz.prog w=.ok (I none 0 0) w:=by kernel_rfl
theorem F7 (x0_:Int)(x1_:Int)(x2_:ByteArray)(w:World):(Instr.field 30 (.agg #[iV x0_,iV x1_,.string x2_]) 0).run Tryz.prog w=.ok (iV x0_) w:=by kernel_rfl
theorem F6 (x0_:Int)(x1_:Int)(x2_0_:Int)(x2_1_:Int)(x2_2_:ByteArray)(x3_0_:Int)(x3_1_:Int)(x3_2_:ByteArray)(x4_0_:Int)(x4_1_:Int)(x4_2_:ByteArray)(w:World):(Instr.field 32 (.agg #[iV x0_,iV x1_,iV x2_0_,iV x2_1_,.string x2_2_,iV x3_0_,iV x3_1_,.string x3_2_,iV x4_0_,iV x4_1_,.string x4_2_]) 0).run Tryz.prog w=.ok (iV x0_) w:=by kernel_rfl
theorem ES (x0_:Int)(x1_:Int)(x2_:Int)(x3_:Int)(x4_a:Option Addr)(x4_n x4_c:Nat)(x5_a:Option Addr)(x5_n x5_c:Nat)(w:World):(Instr.field 138 (.agg #[iV x0_,iV x1_,iV x2_,iV x3_,.slice x4_a x4_n x4_c,.slice x5_a x5_n x5_c]) 0).run Tryz.prog w=.ok (iV x0_) w:=by kernel_rfl
theorem CX (x0_:Int)(x1_:Int)(w:World):(Instr.build 24 #[(0,iV x0_),(1,iV x1_)]).run Tryz.prog w=.ok (.agg #[iV x0_,iV x1_,.string ⟨#[]⟩]) w:=by kernel_rfl
theorem ya (x0_:Int)(x2_:ByteArray)(w:World):(Instr.build 24 #[(0,iV x0_),(2,.string x2_)]).run Tryz.prog w=.ok (.agg #[iV x0_,iV 0,.string x2_]) w:=by kernel_rfl
theorem GN (x1_:Int)(w:World):(Instr.build 24 #[(1,iV x1_)]).run Tryz.prog w=.ok (.agg #[iV 0,iV x1_,.string ⟨#[]⟩]) w:=by kernel_rfl
theorem gC  (w:World):(Instr.build 30 #[]).run Tryz.prog w=.ok (.agg #[iV 0,iV 0,.string ⟨#[]⟩]) w:=by kernel_rfl
theorem ug (x0_:Int)(w:World):(Instr.build 30 #[(0,iV x0_)]).run Tryz.prog w=.ok (.agg #[iV x0_,iV 0,.string ⟨#[]⟩]) w:=by kernel_rfl
theorem oL (x0_:Int)(x1_:Int)(w:World):(Instr.build 30 #[(0,iV x0_),(1,iV x1_)]).run Tryz.prog w=.ok (.agg #[iV x0_,iV x1_,.string ⟨#[]⟩]) w:=by kernel_rfl
theorem BW (x0_:Int)(w:World):(Instr.build 32 #[(0,iV x0_)]).run Tryz.prog w=.ok (.agg #[iV x0_,iV 0,iV 0,iV 0,.string ⟨#[]⟩,iV 0,iV 0,.string ⟨#[]⟩,iV 0,iV 0,.string ⟨#[]⟩]) w:=by kernel_rfl
theorem uf (x0_:Int)(x1_:Int)(x2_0_:Int)(x2_1_:Int)(x2_2_:ByteArray)(w:World):(Instr.build 32 #[(0,iV x0_),(1,iV x1_),(2,.agg #[iV x2_0_,iV x2_1_,.string x2_2_])]).run Tryz.prog w=.ok (.agg #[iV x0_,iV x1_,iV x2_0_,iV x2_1_,.string x2_2_,iV 0,iV 0,.string ⟨#[]⟩,iV 0,iV 0,.string ⟨#[]⟩]) w:=by kernel_rfl
theorem rJ (x0_:Int)(x1_:Int)(x3_0_:Int)(x3_1_:Int)(x3_2_:ByteArray)(x4_0_:Int)(x4_1_:Int)(x4_2_:ByteArray)(w:World):(Instr.build 32 #[(0,iV x0_),(1,iV x1_),(3,.agg #[iV x3_0_,iV x3_1_,.string x3_2_]),(4,.agg #[iV x4_0_,iV x4_1_,.string x4_2_])]).run Tryz.prog w=.ok (.agg #[iV x0_,iV x1_,iV 0,iV 0,.string ⟨#[]⟩,iV x3_0_,iV x3_1_,.string x3_2_,iV x4_0_,iV x4_1_,.string x4_2_]) w:=by kernel_rfl
theorem CW (x0_:Int)(x2_0_:Int)(x2_1_:Int)(x2_2_:ByteArray)(w:World):(Instr.build 32 #[(0,iV x0_),(2,.agg #[iV x2_0_,iV x2_1_,.string x2_2_])]).run Tryz.prog w=.ok (.agg #[iV x0_,iV 0,iV x2_0_,iV x2_1_,.string x2_2_,iV 0,iV 0,.string ⟨#[]⟩,iV 0,iV 0,.string ⟨#[]⟩]) w:=by kernel_rfl
theorem si  (w:World):(Instr.build 42 #[]).run Tryz.prog w=.ok (.agg #[iV 0,iV 0,.string ⟨#[]⟩,iV 0,iV 0,iV 0,.string ⟨#[]⟩,iV 0,iV 0,.string ⟨#[]⟩,iV 0,iV 0,.string ⟨#[]⟩]) w:=by kernel_rfl
theorem GM (x0_0_:Int)(x0_1_:Int)(x0_2_:ByteArray)(w:World):(Instr.build 42 #[(0,.agg #[iV x0_0_,iV x0_1_,.string x0_2_])]).run Tryz.prog w=.ok (.agg #[iV x0_0_,iV x0_1_,.string x0_2_,iV 0,iV 0,iV 0,.string ⟨#[]⟩,iV 0,iV 0,.string ⟨#[]⟩,iV 0,iV 0,.string ⟨#[]⟩]) w:=by kernel_rfl
theorem CV (x0_0_:Int)(x0_1_:Int)(x0_2_:ByteArray)(x1_:Int)(w:World):(Instr.build 42 #[(0,.agg #[iV x0_0_,iV x0_1_,.string x0_2_]),(1,iV x1_)]).run Tryz.prog w=.ok (.agg #[iV x0_0_,iV x0_1_,.string x0_2_,iV x1_,iV 0,iV 0,.string ⟨#[]⟩,iV 0,iV 0,.string ⟨#[]⟩,iV 0,iV 0,.string ⟨#[]⟩]) w:=by kernel_rfl
theorem qr (x0_0_:Int)(x0_1_:Int)(x0_2_:ByteArray)(x1_:Int)(x2_0_:Int)(x2_1_:Int)(x2_2_:ByteArray)(w:World):(Instr.build 42 #[(0,.agg #[iV x0_0_,iV x0_1_,.string x0_2_]),(1,iV x1_),(2,.agg #[iV x2_0_,iV x2_1_,.string x2_2_])]).run Tryz.prog w=.ok (.agg #[iV x0_0_,iV x0_1_,.string x0_2_,iV x1_,iV x2_0_,iV x2_1_,.string x2_2_,iV 0,iV 0,.string ⟨#[]⟩,iV 0,iV 0,.string ⟨#[]⟩]) w:=by kernel_rfl
theorem uY (x1_:Int)(x2_:Int)(x3_:Int)(x5_:Int)(x6_:Int)(w:World):(Instr.build 57 #[(1,iV x1_),(2,iV x2_),(3,iV x3_),(5,iV x5_),(6,iV x6_)]).run Tryz.prog w=.ok (.agg #[iV 0,iV x1_,iV x2_,iV x3_,iV 0,iV x5_,iV x6_]) w:=by kernel_rfl
theorem yb  (w:World):(Instr.build 138 #[]).run Tryz.prog w=.ok (.agg #[iV 0,iV 0,iV 0,iV 0,I none 0 0,I none 0 0]) w:=by kernel_rfl
theorem zq (x0_:Int)(w:World):(Instr.build 138 #[(0,iV x0_)]).run Tryz.prog w=.ok (.agg #[iV x0_,iV 0,iV 0,iV 0,I none 0 0,I none 0 0]) w:=by kernel_rfl
theorem yE (x0_:Int)(x2_:Int)(x4_a:Option Addr)(x4_n x4_c:Nat)(w:World):(Instr.build 138 #[(0,iV x0_),(2,iV x2_),(4,.slice x4_a x4_n x4_c)]).run Tryz.prog w=.ok (.agg #[iV x0_,iV 0,iV x2_,iV 0,.slice x4_a x4_n x4_c,I none 0 0]) w:=by kernel_rfl
theorem qG (x0_:Int)(x2_:Int)(x4_a:Option Addr)(x4_n x4_c:Nat)(x5_a:Option Addr)(x5_n x5_c:Nat)(w:World):(Instr.build 138 #[(0,iV x0_),(2,iV x2_),(4,.slice x4_a x4_n x4_c),(5,.slice x5_a x5_n x5_c)]).run Tryz.prog w=.ok (.agg #[iV x0_,iV 0,iV x2_,iV 0,.slice x4_a x4_n x4_c,.slice x5_a x5_n x5_c]) w:=by kernel_rfl
theorem BZ (x0_:Int)(x4_a:Option Addr)(x4_n x4_c:Nat)(w:World):(Instr.build 138 #[(0,iV x0_),(4,.slice x4_a x4_n x4_c)]).run Tryz.prog w=.ok (.agg #[iV x0_,iV 0,iV 0,iV 0,.slice x4_a x4_n x4_c,I none 0 0]) w:=by kernel_rfl
theorem yD (x0_0_:Int)(x0_1_:Int)(x0_2_:Int)(x0_3_:Int)(x0_4_a:Option Addr)(x0_4_n x0_4_c:Nat)(x0_5_a:Option Addr)(x0_5_n x0_5_c:Nat)(x1_:Option Addr)(x2_0_:Int)(x2_1_:Int)(x2_2_:ByteArray)(w:World):(Instr.build 140 #[(0,.agg #[iV x0_0_,iV x0_1_,iV x0_2_,iV x0_3_,.slice x0_4_a x0_4_n x0_4_c,.slice x0_5_a x0_5_n x0_5_c]),(1,.pointer x1_),(2,.agg #[iV x2_0_,iV x2_1_,.string x2_2_])]).run Tryz.prog w=.ok (.agg #[iV x0_0_,iV x0_1_,iV x0_2_,iV x0_3_,.slice x0_4_a x0_4_n x0_4_c,.slice x0_5_a x0_5_n x0_5_c,.pointer x1_,iV x2_0_,iV x2_1_,.string x2_2_]) w:=by kernel_rfl
theorem yC (x1_0_:Int)(x1_1_:Int)(x1_2_:Int)(x1_3_:Int)(x1_4_:Int)(x1_5_:Int)(x1_6_:Int)(x3_:Option Addr)(x4_:Option Addr)(w:World):(Instr.build 151 #[(1,.agg #[iV x1_0_,iV x1_1_,iV x1_2_,iV x1_3_,iV x1_4_,iV x1_5_,iV x1_6_]),(3,.pointer x3_),(4,.pointer x4_)]).run Tryz.prog w=.ok (.agg #[iV 0,iV 0,iV 0,iV x1_0_,iV x1_1_,iV x1_2_,iV x1_3_,iV x1_4_,iV x1_5_,iV x1_6_,.nilIface,.pointer x3_,.pointer x4_,I none 0 0,iV 0,iV 0,iV 0,I none 0 0,I none 0 0]) w:=by kernel_rfl
theorem E4 (x3_:Option Addr)(w:World):(Instr.build 199 #[(3,.pointer x3_)]).run Tryz.prog w=.ok (.agg #[I none 0 0,I none 0 0,I none 0 0,I none 0 0,.pointer x3_]) w:=by kernel_rfl
theorem GO  (w:World):(Instr.build 201 #[]).run Tryz.prog w=.ok (.agg #[iV 0,iV 0,iV 0,.string ⟨#[]⟩,iV 0,iV 0]) w:=by kernel_rfl
theorem E3 (x0_:Int)(w:World):(Instr.build 201 #[(0,iV x0_)]).run Tryz.prog w=.ok (.agg #[iV x0_,iV 0,iV 0,.string ⟨#[]⟩,iV 0,iV 0]) w:=by kernel_rfl
theorem vT (x0_:Int)(x1_0_:Int)(x1_1_:Int)(x1_2_:ByteArray)(x2_:Int)(x3_:Int)(w:World):(Instr.build 201 #[(0,iV x0_),(1,.agg #[iV x1_0_,iV x1_1_,.string x1_2_]),(2,iV x2_),(3,iV x3_)]).run Tryz.prog w=.ok (.agg #[iV x0_,iV x1_0_,iV x1_1_,.string x1_2_,iV x2_,iV x3_]) w:=by kernel_rfl
theorem BY (x1_0_:Int)(x1_1_:Int)(x1_2_:ByteArray)(x2_:Int)(w:World):(Instr.build 201 #[(1,.agg #[iV x1_0_,iV x1_1_,.string x1_2_]),(2,iV x2_)]).run Tryz.prog w=.ok (.agg #[iV 0,iV x1_0_,iV x1_1_,.string x1_2_,iV x2_,iV 0]) w:=by kernel_rfl
theorem BX (x0_a:Option Addr)(x0_n x0_c:Nat)(x1_:Option Nat)(w:World):(Instr.build 205 #[(0,.slice x0_a x0_n x0_c),(1,.map x1_)]).run Tryz.prog w=.ok (.agg #[.slice x0_a x0_n x0_c,.map x1_]) w:=by kernel_rfl
theorem E2 (x0_:Option Nat)(w:World):(Instr.build 247 #[(0,.map x0_)]).run Tryz.prog w=.ok (.agg #[.map x0_]) w:=by kernel_rfl
theorem sO (x0_:Int)(x1_0_:Int)(x1_1_:Int)(x1_2_:ByteArray)(x2_:Int)(w:World):(Instr.build 257 #[(0,iV x0_),(1,.agg #[iV x1_0_,iV x1_1_,.string x1_2_]),(2,iV x2_)]).run Tryz.prog w=.ok (.agg #[iV x0_,iV x1_0_,iV x1_1_,.string x1_2_,iV x2_]) w:=by kernel_rfl
theorem GL  (w:World):(Instr.buildSlice 38 0 #[]).run Tryz.prog w=.ok (.slice (some ⟨w.heap.size,0,none⟩) 0 0) (w.alloc (.cells #[] 30)):=by kernel_rfl
theorem jF (x0_0_:Int)(x0_1_:Int)(x0_2_:ByteArray)(w:World):(Instr.buildSlice 38 1 #[(0,.agg #[iV x0_0_,iV x0_1_,.string x0_2_])]).run Tryz.prog w=.ok (.slice (some ⟨w.heap.size,0,none⟩) 1 1) (w.alloc (.cells #[iV x0_0_,iV x0_1_,.string x0_2_] 30)):=by kernel_rfl
theorem xZ (x0_0_:Int)(x0_1_:Int)(x0_2_:ByteArray)(x1_0_:Int)(x1_1_:Int)(x1_2_:ByteArray)(w:World):(Instr.buildSlice 38 2 #[(0,.agg #[iV x0_0_,iV x0_1_,.string x0_2_]),(1,.agg #[iV x1_0_,iV x1_1_,.string x1_2_])]).run Tryz.prog w=.ok (.slice (some ⟨w.heap.size,0,none⟩) 2 2) (w.alloc (.cells #[iV x0_0_,iV x0_1_,.string x0_2_,iV x1_0_,iV x1_1_,.string x1_2_] 30)):=by kernel_rfl
theorem GK (x0_0_:Int)(x0_1_:Int)(x0_2_:ByteArray)(x1_0_:Int)(x1_1_:Int)(x1_2_:ByteArray)(x2_0_:Int)(x2_1_:Int)(x2_2_:ByteArray)(x3_0_:Int)(x3_1_:Int)(x3_2_:ByteArray)(w:World):(Instr.buildSlice 38 4 #[(0,.agg #[iV x0_0_,iV x0_1_,.string x0_2_]),(1,.agg #[iV x1_0_,iV x1_1_,.string x1_2_]),(2,.agg #[iV x2_0_,iV x2_1_,.string x2_2_]),(3,.agg #[iV x3_0_,iV x3_1_,.string x3_2_])]).run Tryz.prog w=.ok (.slice (some ⟨w.heap.size,0,none⟩) 4 4) (w.alloc (.cells #[iV x0_0_,iV x0_1_,.string x0_2_,iV x1_0_,iV x1_1_,.string x1_2_,iV x2_0_,iV x2_1_,.string x2_2_,iV x3_0_,iV x3_1_,.string x3_2_] 30)):=by kernel_rfl
theorem rI (x0_0_:Int)(x0_1_:Int)(x0_2_:ByteArray)(w:World):(Instr.buildSlice 67 1 #[(0,.agg #[iV x0_0_,iV x0_1_,.string x0_2_])]).run Tryz.prog w=.ok (.slice (some ⟨w.heap.size,0,none⟩) 1 1) (w.alloc (.cells #[iV x0_0_,iV x0_1_,.string x0_2_] 24)):=by kernel_rfl
theorem BV (x0_0_0_:Int)(x0_0_1_:Int)(x0_0_2_:ByteArray)(x0_1_:Int)(x0_2_0_:Int)(x0_2_1_:Int)(x0_2_2_:ByteArray)(x0_3_0_:Int)(x0_3_1_:Int)(x0_3_2_:ByteArray)(x0_4_0_:Int)(x0_4_1_:Int)(x0_4_2_:ByteArray)(w:World):(Instr.buildSlice 82 1 #[(0,.agg #[iV x0_0_0_,iV x0_0_1_,.string x0_0_2_,iV x0_1_,iV x0_2_0_,iV x0_2_1_,.string x0_2_2_,iV x0_3_0_,iV x0_3_1_,.string x0_3_2_,iV x0_4_0_,iV x0_4_1_,.string x0_4_2_])]).run Tryz.prog w=.ok (.slice (some ⟨w.heap.size,0,none⟩) 1 1) (w.alloc (.cells #[iV x0_0_0_,iV x0_0_1_,.string x0_0_2_,iV x0_1_,iV x0_2_0_,iV x0_2_1_,.string x0_2_2_,iV x0_3_0_,iV x0_3_1_,.string x0_3_2_,iV x0_4_0_,iV x0_4_1_,.string x0_4_2_] 42)):=by kernel_rfl
theorem E1 (x0_0_:Int)(x0_1_:Int)(x0_2_:Int)(x0_3_:Int)(x0_4_a:Option Addr)(x0_4_n x0_4_c:Nat)(x0_5_a:Option Addr)(x0_5_n x0_5_c:Nat)(w:World):(Instr.buildSlice 195 1 #[(0,.agg #[iV x0_0_,iV x0_1_,iV x0_2_,iV x0_3_,.slice x0_4_a x0_4_n x0_4_c,.slice x0_5_a x0_5_n x0_5_c])]).run Tryz.prog w=.ok (.slice (some ⟨w.heap.size,0,none⟩) 1 1) (w.alloc (.cells #[iV x0_0_,iV x0_1_,iV x0_2_,iV x0_3_,.slice x0_4_a x0_4_n x0_4_c,.slice x0_5_a x0_5_n x0_5_c] 138)):=by kernel_rfl
theorem uX (x0_0_:Int)(x0_1_0_:Int)(x0_1_1_:Int)(x0_1_2_:ByteArray)(x0_2_:Int)(x0_3_:Int)(w:World):(Instr.buildSlice 202 1 #[(0,.agg #[iV x0_0_,iV x0_1_0_,iV x0_1_1_,.string x0_1_2_,iV x0_2_,iV x0_3_])]).run Tryz.prog w=.ok (.slice (some ⟨w.heap.size,0,none⟩) 1 1) (w.alloc (.cells #[iV x0_0_,iV x0_1_0_,iV x0_1_1_,.string x0_1_2_,iV x0_2_,iV x0_3_] 201)):=by kernel_rfl
theorem zp (x0_:Int)(w:World):(Instr.buildSlice 211 1 #[(0,iV x0_)]).run Tryz.prog w=.ok (.slice (some ⟨w.heap.size,0,none⟩) 1 1) (w.alloc (.cells #[iV x0_] 3)):=by kernel_rfl
theorem LK:pB Tryz.prog 3 1 8=true:=by kernel_rfl
theorem Fh:pB Tryz.prog 24 3 32=true:=by kernel_rfl
theorem yi:pB Tryz.prog 30 3 32=true:=by kernel_rfl
theorem KV:pB Tryz.prog 42 13 136=true:=by kernel_rfl
theorem KX:pB Tryz.prog 138 6 80=true:=by kernel_rfl
theorem KW:pB Tryz.prog 201 6 56=true:=by kernel_rfl
instance:Fc (js Tryz.prog 3=true):=⟨dH⟩
instance:Fc (js Tryz.prog 4=true):=⟨Bq⟩
instance:Fc (js Tryz.prog 9=true):=⟨Lw⟩
instance:Fc (js Tryz.prog 36=true):=⟨vu⟩
instance:Fc (js Tryz.prog 38=true):=⟨iO⟩
instance:Fc (js Tryz.prog 67=true):=⟨Jh⟩
instance:Fc (js Tryz.prog 82=true):=⟨FH⟩
instance:Fc (js Tryz.prog 142=true):=⟨lV⟩
instance:Fc (js Tryz.prog 144=true):=⟨FI⟩
instance:Fc (js Tryz.prog 193=true):=⟨uI⟩
instance:Fc (js Tryz.prog 195=true):=⟨zN⟩
instance:Fc (js Tryz.prog 202=true):=⟨oz⟩
instance:Fc (js Tryz.prog 203=true):=⟨CA⟩
instance:Fc (js Tryz.prog 211=true):=⟨JN⟩
instance:Fc (js Tryz.prog 245=true):=⟨JM⟩
instance:FcA0 Tryz.prog 24 0:=⟨HZ⟩
instance:FcA Tryz.prog 24 1 1:=⟨Ai⟩
instance:FcA Tryz.prog 24 2 2:=⟨HY⟩
instance:FcA0 Tryz.prog 30 0:=⟨nW⟩
instance:FcA Tryz.prog 30 1 1:=⟨wn⟩
instance:FcA Tryz.prog 30 2 2:=⟨HX⟩
instance:FcA0 Tryz.prog 32 0:=⟨Du⟩
instance:FcA Tryz.prog 32 1 1:=⟨Dt⟩
instance:FcA Tryz.prog 32 2 2:=⟨HW⟩
instance:FcA Tryz.prog 32 3 5:=⟨HV⟩
instance:FcA Tryz.prog 32 4 8:=⟨HU⟩
instance:FcA0 Tryz.prog 42 0:=⟨wm⟩
instance:FcA Tryz.prog 42 1 3:=⟨tX⟩
instance:FcA Tryz.prog 42 2 4:=⟨Ah⟩
instance:FcA Tryz.prog 42 3 7:=⟨wl⟩
instance:FcA Tryz.prog 42 4 10:=⟨wk⟩
instance:FcA0 Tryz.prog 57 0:=⟨HT⟩
instance:FcA Tryz.prog 57 1 1:=⟨HS⟩
instance:FcA Tryz.prog 57 2 2:=⟨HR⟩
instance:FcA Tryz.prog 57 3 3:=⟨Dr⟩
instance:FcA Tryz.prog 57 4 4:=⟨HQ⟩
instance:FcA Tryz.prog 57 5 5:=⟨HP⟩
instance:FcA Tryz.prog 57 6 6:=⟨HO⟩
instance:FcA0 Tryz.prog 84 0:=⟨HN⟩
instance:FcA Tryz.prog 84 1 1:=⟨HM⟩
instance:FcA Tryz.prog 84 2 2:=⟨Ag⟩
instance:FcA Tryz.prog 84 3 3:=⟨HL⟩
instance:FcA0 Tryz.prog 138 0:=⟨BP⟩
instance:FcA Tryz.prog 138 1 1:=⟨nk⟩
instance:FcA Tryz.prog 138 2 2:=⟨BO⟩
instance:FcA Tryz.prog 138 3 3:=⟨mh⟩
instance:FcA Tryz.prog 138 4 4:=⟨kx⟩
instance:FcA Tryz.prog 138 5 5:=⟨oH⟩
instance:FcA0 Tryz.prog 140 0:=⟨gc⟩
instance:FcA Tryz.prog 140 1 6:=⟨oG⟩
instance:FcA Tryz.prog 140 2 7:=⟨BN⟩
instance:FcA Tryz.prog 147 1 1:=⟨BM⟩
instance:FcA0 Tryz.prog 151 0:=⟨BL⟩
instance:FcA Tryz.prog 151 1 3:=⟨BK⟩
instance:FcA Tryz.prog 151 3 11:=⟨lj⟩
instance:FcA Tryz.prog 151 4 12:=⟨Gd⟩
instance:FcA Tryz.prog 151 6 14:=⟨Gc⟩
instance:FcA0 Tryz.prog 197 0:=⟨xz⟩
instance:FcA Tryz.prog 197 1 1:=⟨Gb⟩
instance:FcA0 Tryz.prog 199 0:=⟨xy⟩
instance:FcA Tryz.prog 199 1 2:=⟨xx⟩
instance:FcA Tryz.prog 199 3 4:=⟨rv⟩
instance:FcA0 Tryz.prog 201 0:=⟨t3⟩
instance:FcA Tryz.prog 201 1 1:=⟨tZ⟩
instance:FcA Tryz.prog 201 2 4:=⟨pL⟩
instance:FcA Tryz.prog 201 3 5:=⟨tY⟩
instance:FcA0 Tryz.prog 205 0:=⟨pK⟩
instance:FcA Tryz.prog 205 1 1:=⟨xw⟩
instance:FcA0 Tryz.prog 247 0:=⟨Ga⟩
theorem EO:Tryz.prog.eqGuardType Tryz.prog.depth 24=false:=by kernel_rfl
theorem H3 (x y:MM)(w:World):(Op.equalIn 10000 24 (.agg #[iV x.Kind,iV x.N,.string x.S]) (.agg #[iV y.Kind,iV y.N,.string y.S])).run Tryz.prog w=.ok (decide (x=y)) w:=by
 obtain ⟨xKind,xN,xS⟩:=x;obtain ⟨yKind,yN,yS⟩:=y;show (Op.equalIn 10000 24 (.agg #[iV xKind,iV xN,.string xS]) (.agg #[iV yKind,iV yN,.string yS])).run Tryz.prog w=_
 go_simp
 simp only [rH];by_cases h0:xKind=yKind<;>by_cases h1:xN=yN<;>by_cases h2:xS=yS<;>simp [h0,h1,h2]
theorem t4 {s:cJ}{C:World→Prop}{d:Option Nat}{ty u:TypeId}{pos:String}{af:Array Edge}{gd:Option (Nat×Bool)}{a b:Operand}{x y:MM}(hx:cI s a=some (.agg #[iV x.Kind,iV x.N,.string x.S]))(hy:cI s b=some (.agg #[iV y.Kind,iV y.N,.string y.S])):Ev Tryz.prog s C ⟨d,.binOp .eql 24 a b u,ty,pos,af,gd⟩ (.bool (decide (x=y))):=
 fw hx hy fun w=>by
  rw [Sem.run_bind,run_eqGuard_agg w _ _ _ _ _ _ EO];simp only [Result.andThen_ok];rw [run_eql_struct,H3];rfl
theorem zb:Tryz.prog.eqGuardType Tryz.prog.depth 30=false:=by kernel_rfl
theorem Dx (x y:MQ)(w:World):(Op.equalIn 10000 30 (.agg #[iV x.Kind,iV x.N,.string x.S]) (.agg #[iV y.Kind,iV y.N,.string y.S])).run Tryz.prog w=.ok (decide (x=y)) w:=by
 obtain ⟨xKind,xN,xS⟩:=x;obtain ⟨yKind,yN,yS⟩:=y;show (Op.equalIn 10000 30 (.agg #[iV xKind,iV xN,.string xS]) (.agg #[iV yKind,iV yN,.string yS])).run Tryz.prog w=_
 go_simp
 simp only [rH];by_cases h0:xKind=yKind<;>by_cases h1:xN=yN<;>by_cases h2:xS=yS<;>simp [h0,h1,h2]
theorem mi {s:cJ}{C:World→Prop}{d:Option Nat}{ty u:TypeId}{pos:String}{af:Array Edge}{gd:Option (Nat×Bool)}{a b:Operand}{x y:MQ}(hx:cI s a=some (.agg #[iV x.Kind,iV x.N,.string x.S]))(hy:cI s b=some (.agg #[iV y.Kind,iV y.N,.string y.S])):Ev Tryz.prog s C ⟨d,.binOp .eql 30 a b u,ty,pos,af,gd⟩ (.bool (decide (x=y))):=
 fw hx hy fun w=>by
  rw [Sem.run_bind,run_eqGuard_agg w _ _ _ _ _ _ zb];simp only [Result.andThen_ok];rw [run_eql_struct,Dx];rfl
theorem sb {s:cJ}{C:World→Prop}{d:Option Nat}{ty u:TypeId}{pos:String}{af:Array Edge}{gd:Option (Nat×Bool)}{a b:Operand}{x y:MQ}(hx:cI s a=some (.agg #[iV x.Kind,iV x.N,.string x.S]))(hy:cI s b=some (.agg #[iV y.Kind,iV y.N,.string y.S])):Ev Tryz.prog s C ⟨d,.binOp .neq 30 a b u,ty,pos,af,gd⟩ (.bool (!decide (x=y))):=
 fw hx hy fun w=>by
  rw [Sem.run_bind,run_eqGuard_agg w _ _ _ _ _ _ zb];simp only [Result.andThen_ok];rw [run_neq_struct,Dx];rfl
theorem EN:Tryz.prog.eqGuardType Tryz.prog.depth 42=false:=by kernel_rfl
theorem H2 (x y:MX)(w:World):(Op.equalIn 10000 42 ((bJ x)) ((bJ y))).run Tryz.prog w=.ok (decide (x=y)) w:=by
 obtain ⟨⟨xKeyKind,xKeyN,xKeyS⟩,xAttrs,⟨xValueKind,xValueN,xValueS⟩,⟨xGetKind,xGetN,xGetS⟩,⟨xSetKind,xSetN,xSetS⟩⟩:=x;obtain ⟨⟨yKeyKind,yKeyN,yKeyS⟩,yAttrs,⟨yValueKind,yValueN,yValueS⟩,⟨yGetKind,yGetN,yGetS⟩,⟨ySetKind,ySetN,ySetS⟩⟩:=y;show (Op.equalIn 10000 42 (.agg #[iV xKeyKind,iV xKeyN,.string xKeyS,iV xAttrs,iV xValueKind,iV xValueN,.string xValueS,iV xGetKind,iV xGetN,.string xGetS,iV xSetKind,iV xSetN,.string xSetS]) (.agg #[iV yKeyKind,iV yKeyN,.string yKeyS,iV yAttrs,iV yValueKind,iV yValueN,.string yValueS,iV yGetKind,iV yGetN,.string yGetS,iV ySetKind,iV ySetN,.string ySetS])).run Tryz.prog w=_
 go_simp
 simp only [rH];by_cases h0:xKeyKind=yKeyKind
 rotate_left
 ·simp [h0]
 by_cases h1:xKeyN=yKeyN
 rotate_left
 ·simp [h0,h1]
 by_cases h2:xKeyS=yKeyS
 rotate_left
 ·simp [h0,h1,h2]
 by_cases h3:xAttrs=yAttrs
 rotate_left
 ·simp [h0,h1,h2,h3]
 by_cases h4:xValueKind=yValueKind
 rotate_left
 ·simp [h0,h1,h2,h3,h4]
 by_cases h5:xValueN=yValueN
 rotate_left
 ·simp [h0,h1,h2,h3,h4,h5]
 by_cases h6:xValueS=yValueS
 rotate_left
 ·simp [h0,h1,h2,h3,h4,h5,h6]
 by_cases h7:xGetKind=yGetKind
 rotate_left
 ·simp [h0,h1,h2,h3,h4,h5,h6,h7]
 by_cases h8:xGetN=yGetN
 rotate_left
 ·simp [h0,h1,h2,h3,h4,h5,h6,h7,h8]
 by_cases h9:xGetS=yGetS
 rotate_left
 ·simp [h0,h1,h2,h3,h4,h5,h6,h7,h8,h9]
 by_cases h10:xSetKind=ySetKind
 rotate_left
 ·simp [h0,h1,h2,h3,h4,h5,h6,h7,h8,h9,h10]
 by_cases h11:xSetN=ySetN
 rotate_left
 ·simp [h0,h1,h2,h3,h4,h5,h6,h7,h8,h9,h10,h11]
 by_cases h12:xSetS=ySetS
 rotate_left
 ·simp [h0,h1,h2,h3,h4,h5,h6,h7,h8,h9,h10,h11,h12]
 simp [h0,h1,h2,h3,h4,h5,h6,h7,h8,h9,h10,h11,h12]
theorem EX {s:cJ}{C:World→Prop}{d:Option Nat}{ty u:TypeId}{pos:String}{af:Array Edge}{gd:Option (Nat×Bool)}{a b:Operand}{x y:MX}(hx:cI s a=some ((bJ x)))(hy:cI s b=some ((bJ y))):Ev Tryz.prog s C ⟨d,.binOp .neq 42 a b u,ty,pos,af,gd⟩ (.bool (!decide (x=y))):=
 fw hx hy fun w=>by
  rw [Sem.run_bind,run_eqGuard_agg w _ _ _ _ _ _ EN];simp only [Result.andThen_ok];rw [run_neq_struct,H2];rfl
theorem Gg (x y:MN)(w:World):(Op.equalIn 10000 257 ((F3 x)) ((F3 y))).run Tryz.prog w=.ok (decide (x=y)) w:=by
 obtain ⟨xup_,⟨xkey_Kind,xkey_N,xkey_S⟩,xattrs_⟩:=x;obtain ⟨yup_,⟨ykey_Kind,ykey_N,ykey_S⟩,yattrs_⟩:=y;show (Op.equalIn 10000 257 (.agg #[iV xup_,iV xkey_Kind,iV xkey_N,.string xkey_S,iV xattrs_]) (.agg #[iV yup_,iV ykey_Kind,iV ykey_N,.string ykey_S,iV yattrs_])).run Tryz.prog w=_
 go_simp
 simp only [rH];by_cases h0:xup_=yup_
 rotate_left
 ·simp [h0]
 by_cases h1:xkey_Kind=ykey_Kind
 rotate_left
 ·simp [h0,h1]
 by_cases h2:xkey_N=ykey_N
 rotate_left
 ·simp [h0,h1,h2]
 by_cases h3:xkey_S=ykey_S
 rotate_left
 ·simp [h0,h1,h2,h3]
 by_cases h4:xattrs_=yattrs_
 rotate_left
 ·simp [h0,h1,h2,h3,h4]
 simp [h0,h1,h2,h3,h4]
def aD (x:MN):Value:=.agg #[iV x.up_,iV x.key_.Kind,iV x.key_.N,.string x.key_.S,iV x.attrs_]
theorem xq:KeyOk Tryz.prog 257 aD where
 und:=⟨_,Tryz.underlying257,fun a b=> .inl rfl⟩
 eq:=fun a b w=>Gg a b w
 check:=fun e a w=>by
  obtain ⟨xup_,⟨xkey_Kind,xkey_N,xkey_S⟩,xattrs_⟩:=a;kernel_rfl
 bits:=fun a=>by
  obtain ⟨xup_,⟨xkey_Kind,xkey_N,xkey_S⟩,xattrs_⟩:=a;simp [aD,Instr.sameBits,CY]
def eR (N:Nat)(a0:Int)(a1:Int)(a2:Int):Option Bool:=
 (bif decide (a1≤a0) then (some (decide (a0≤a2))) else (some false)).bind fun b1=>some b1
theorem fh {N:Nat}{a0:Int}{a1:Int}{a2:Int}{r:Bool}(h:eR N a0 a1 a2=some r):Okc Tryz.prog 147 [iV a0,iV a1,iV a2] ([]) (fun u post=>u=.bool r∧post=[]):=by
 refine bD Tryz.func147 J J ?_;simp only [aW];refine U ?_;obtain ⟨b1,hb1,h⟩:=aa h;refine aK 4 14 b1 ?_ ?_
 ·clear h;refine aI 10 J (fun g1=> ?_) (fun g1=> ?_)
  ·have h:=aE g1 hb1;refine U ?_;obtain rfl:=am h;exact ad sA (cS [] 0)
  have h:=aF g1 hb1;refine U ?_;obtain rfl:=am h;exact ad sA (cS [] 0)
 refine U ?_;obtain rfl:=am h;exact aL J J (cS [] 0) ⟨J,J⟩
theorem er {r:Bool}:∀(u:Value)(p:List Chunk),u=.bool r∧p=[]→∀c∈p,cM c:=by
 rintro _ _ ⟨rfl,rfl⟩;exact aj
def sB (N:Nat)(a0:MO):Option Bool:=
 (eR N a0.Way 0 1).bind fun y2=>(bif y2 then ((eR N a0.Steps 0 1073741824).bind fun y4=>some y4) else (some false)).bind fun b3=>(bif b3 then ((eR N a0.Calls 1 200).bind fun y6=>some y6) else (some false)).bind fun b5=>(bif b5 then ((eR N a0.Made 0 1048576).bind fun y8=>some y8) else (some false)).bind fun b7=>(bif b7 then ((eR N a0.Young 0 1073741824).bind fun y10=>some y10) else (some false)).bind fun b9=>(bif b9 then ((eR N a0.Full 0 1073741824).bind fun y12=>some y12) else (some false)).bind fun b11=>(bif b11 then ((eR N a0.Sites 0 4).bind fun y14=>some y14) else (some false)).bind fun b13=>some b13
set_option maxHeartbeats 4000000 in
theorem wO {N:Nat}{a0:MO}{r:Bool}(h:sB N a0=some r):Okc Tryz.prog 85 [(BH a0)] ([]) (fun u post=>u=.bool r∧post=[]):=by
 refine bD Tryz.func85 J J ?_;simp only [aW];refine U ?_
 refine gB (aO J J) fun B1=> ?_
 refine U ?_;obtain ⟨y2,k,h⟩:=aa h;refine gV (fM (fh k) qq J J J (aj) er) ?_;refine U ?_;obtain ⟨b3,hb3,h⟩:=aa h;refine aK 5 13 b3 ?_ ?_
 ·clear h;refine aI 8 J (fun g3=> ?_) (fun g3=> ?_)
  ·have h:=aE g3 hb3;refine U ?_;obtain ⟨y4,k,h⟩:=aa h;refine gU (fM (fh k) qq J J J (aj) er) (bp g3 J) ?_;refine U ?_;obtain rfl:=am h;exact ad sA (cS [0] 1)
  have h:=aF g3 hb3;refine U ?_;obtain rfl:=am h;exact ad sA (cS [0] 1)
 refine U ?_;obtain ⟨b5,hb5,h⟩:=aa h;refine aK 5 19 b5 ?_ ?_
 ·clear h;refine aI 14 J (fun g5=> ?_) (fun g5=> ?_)
  ·have h:=aE g5 hb5;refine U ?_;obtain ⟨y6,k,h⟩:=aa h;refine gU (fM (fh k) qq J J J (aj) er) (bp g5 J) ?_;refine U ?_;obtain rfl:=am h;exact ad sA (cS [0] 1)
  have h:=aF g5 hb5;refine U ?_;obtain rfl:=am h;exact ad sA (cS [0] 1)
 refine U ?_;obtain ⟨b7,hb7,h⟩:=aa h;refine aK 5 25 b7 ?_ ?_
 ·clear h;refine aI 20 J (fun g7=> ?_) (fun g7=> ?_)
  ·have h:=aE g7 hb7;refine U ?_;obtain ⟨y8,k,h⟩:=aa h;refine gU (fM (fh k) qq J J J (aj) er) (bp g7 J) ?_;refine U ?_;obtain rfl:=am h;exact ad sA (cS [0] 1)
  have h:=aF g7 hb7;refine U ?_;obtain rfl:=am h;exact ad sA (cS [0] 1)
 refine U ?_;obtain ⟨b9,hb9,h⟩:=aa h;refine aK 5 31 b9 ?_ ?_
 ·clear h;refine aI 26 J (fun g9=> ?_) (fun g9=> ?_)
  ·have h:=aE g9 hb9;refine U ?_;obtain ⟨y10,k,h⟩:=aa h;refine gU (fM (fh k) qq J J J (aj) er) (bp g9 J) ?_;refine U ?_;obtain rfl:=am h;exact ad sA (cS [0] 1)
  have h:=aF g9 hb9;refine U ?_;obtain rfl:=am h;exact ad sA (cS [0] 1)
 refine U ?_;obtain ⟨b11,hb11,h⟩:=aa h;refine aK 5 37 b11 ?_ ?_
 ·clear h;refine aI 32 J (fun g11=> ?_) (fun g11=> ?_)
  ·have h:=aE g11 hb11;refine U ?_;obtain ⟨y12,k,h⟩:=aa h;refine gU (fM (fh k) qq J J J (aj) er) (bp g11 J) ?_;refine U ?_;obtain rfl:=am h;exact ad sA (cS [0] 1)
  have h:=aF g11 hb11;refine U ?_;obtain rfl:=am h;exact ad sA (cS [0] 1)
 refine U ?_;obtain ⟨b13,hb13,h⟩:=aa h;refine aK 5 43 b13 ?_ ?_
 ·clear h;refine aI 38 J (fun g13=> ?_) (fun g13=> ?_)
  ·have h:=aE g13 hb13;refine U ?_;obtain ⟨y14,k,h⟩:=aa h;refine gU (fM (fh k) qq J J J (aj) er) (bp g13 J) ?_;refine U ?_;obtain rfl:=am h;exact ad sA (cS [0] 1)
  have h:=aF g13 hb13;refine U ?_;obtain rfl:=am h;exact ad sA (cS [0] 1)
 refine U ?_;obtain rfl:=am h;exact aL J J (cS [] 1) ⟨J,J⟩
theorem uC {r:Bool}:∀(u:Value)(p:List Chunk),u=.bool r∧p=[]→∀c∈p,cM c:=by
 rintro _ _ ⟨rfl,rfl⟩;exact aj
def tz (N:Nat):Option MW:=
 some (⟨([]:(List (Int×Bool)))⟩:MW)
theorem yl {N:Nat}{r:MW}(h:tz N=some r):Okc Tryz.prog 148 [] ([]) (fun u post=> ∃B0 M1,u=pV B0 0∧post=[ac B0 247 [.map (some M1)],aG cz cC M1 r.at_]):=by
 refine bD Tryz.func148 J J ?_;simp only [aW];refine U ?_;refine gD (xf (ek:=cz) (ev:=cC)) ?_;rintro _ _ ⟨M1,rfl,rfl⟩;refine gE (bd J (E2 _)) ?_
 refine gB (aO J J) fun B2=> ?_
 refine U ?_;obtain rfl:=am h;exact aL J J (cS [0,1] 2) ⟨_,_,J,J⟩
def xu (N:Nat):Option Nb:=
 (tz N).bind fun y1=>some (⟨(⟨[],[]⟩:MK),[],[],y1⟩:Nb)
theorem BE {N:Nat}{r:Nb}(h:xu N=some r):Okc Tryz.prog 86 [] ([]) (fun u post=> ∃B0 A1 n1 c1 A2 n2 c2 A3 n3 c3 A4 n4 c4 B5 M6,u=pV B0 0∧post=[ac B0 199 [I A1 n1 c1,I A2 n2 c2,I A3 n3 c3,I A4 n4 c4,pV B5 0],bw A1 n1 c1 r.m_.Young,bw A2 n2 c2 r.m_.Old,aX A3 n3 c3 r.roots_,aX A4 n4 c4 r.pending_,ac B5 247 [.map (some M6)],aG cz cC M6 r.set_.at_]):=by
 refine bD Tryz.func86 J J ?_;simp only [aW];refine U ?_;obtain ⟨y1,k,h⟩:=aa h;refine gD (aA (yl k) IF J (az [] [] [] 0 J)) ?_;rintro _ _ ⟨_,⟨B2,M3,rfl,rfl⟩,rfl⟩;refine gE (bd J (E4 _)) ?_
 refine gB (aO J J) fun B4=> ?_
 refine U ?_;obtain rfl:=am h;exact aL J J ((gA ri 138 _).trans ((gA ri 138 _).trans ((gA cc 30 _).trans ((gA cc 30 _).trans (cS [4,3,2,1,0,5,6] 7))))) ⟨_,_,_,_,_,_,_,_,_,_,_,_,_,_,_,J,J⟩
def ve (N:Nat):Option MU:=
 some (⟨([(⟨(-1),(⟨0,0,⟨#[]⟩⟩:MM),0,0⟩:MZ)]:List MZ),([]:(List (MN×Int)))⟩:MU)
theorem zB {N:Nat}{r:MU}(h:ve N=some r):Okc Tryz.prog 87 [] ([]) (fun u post=> ∃B0 A1 n1 c1 M2,u=pV B0 0∧post=[ac B0 205 [I A1 n1 c1,.map (some M2)],cL A1 n1 c1 r.shapes_,aG aD cy M2 r.next_]):=by
 refine bD Tryz.func87 J J ?_;simp only [aW];refine U ?_;refine gE (bd J (E3 _)) ?_;refine gD (cx (R:=rY) (vss:=[[iV (-1),iV 0,iV 0,.string (⟨#[]⟩),iV 0,iV 0]]) (xs:=[(⟨(-1),(⟨0,0,⟨#[]⟩⟩:MM),0,0⟩:MZ)]) J (uX _ _ _ _ _ _) J J (fun _ _ hr=> .cons J All2.nil)) ?_;rintro _ _ ⟨A1,n1,c1,rfl,rfl⟩;refine gD (xf (ek:=aD) (ev:=cy)) ?_;rintro _ _ ⟨M2,rfl,rfl⟩;refine gE (bd J (BX _ _ _ _)) ?_
 refine gB (aO J J) fun B3=> ?_
 refine U ?_;obtain rfl:=am h;exact aL J J (cS [0,2,1] 3) ⟨_,_,_,_,_,J,J⟩
def ce (N:Nat)(a0:Nb):Option Bool:=
 some false
theorem fv {N:Nat}{a0:Nb}{r:Bool}(h:ce N a0=some r):Okc Tryz.prog 149 [pV B1 0] ([aT B1 199 [I A2 n2 c2,I A3 n3 c3,I A4 n4 c4,I A5 n5 c5,pV B6 0],qB A2 n2 c2 a0.m_.Young,qB A3 n3 c3 a0.m_.Old,dV A4 n4 c4 a0.roots_,dV A5 n5 c5 a0.pending_,aT B6 247 [.map (some M7)],jg cz cC M7 a0.set_.at_]) (fun u post=>u=.bool r∧post=[]):=by
 refine bD Tryz.func149 J J ?_;simp only [aW];refine U ?_;refine gE (fQ J Tryz.underlying142) ?_;refine U ?_;refine gR (cQ 0 J J uI J) ?_;refine gE (fQ J Tryz.underlying193) ?_;refine U ?_;obtain rfl:=am h;exact aL J J (cS [] 7) ⟨J,J⟩
theorem eE {r:Bool}:∀(u:Value)(p:List Chunk),u=.bool r∧p=[]→∀c∈p,cM c:=by
 rintro _ _ ⟨rfl,rfl⟩;exact aj
def ja (N:Nat)(a0:Nb)(a1:Int):Option MQ:=
 (ce N a0).bind fun y9=>(bif y9 then (some true) else (some (decide (a1<0)))).bind fun b10=>(bif b10 then (some true) else (some (decide ((a0.roots_.length:Int)≤a1)))).bind fun b11=>bif b11 then (some (⟨0,0,⟨#[]⟩⟩:MQ)) else ((bR a0.roots_ a1).bind fun x13=>some x13)
theorem kc {N:Nat}{a0:Nb}{a1:Int}{r:MQ}(h:ja N a0 a1=some r):Okc Tryz.prog 95 [pV B1 0,iV a1] ([aT B1 199 [I A2 n2 c2,I A3 n3 c3,I A4 n4 c4,I A5 n5 c5,pV B6 0],qB A2 n2 c2 a0.m_.Young,qB A3 n3 c3 a0.m_.Old,dV A4 n4 c4 a0.roots_,dV A5 n5 c5 a0.pending_,aT B6 247 [.map (some M7)],jg cz cC M7 a0.set_.at_]) (fun u post=>u=(bz r)∧post=[]):=by
 refine bD Tryz.func95 J J ?_;simp only [aW];refine U ?_
 refine gB (aM gw J) fun B8=> ?_
 refine U ?_;refine aB ?_;refine U ?_;obtain ⟨y9,k,h⟩:=aa h;refine gV (ap (fv k) sf J (hD (al (i:=1) J J) (hD (al (i:=2) J J) (hD (al (i:=3) J J) (hD (al (i:=4) J J) (hD (al (i:=5) J J) (hD (al (i:=6) J J) (hD (al (i:=7) J J) aj))))))) eE) ?_;refine U ?_;obtain ⟨b10,hb10,h⟩:=aa h;refine aK 3 10 b10 ?_ ?_
 ·clear h;refine aI 7 J (fun g10=> ?_) (fun g10=> ?_)
  ·have h:=aE g10 hb10;refine U ?_;obtain rfl:=am h;exact ad sA (cS [0,1,2,3,4,5,6,7] 8)
  have h:=aF g10 hb10;refine U ?_;obtain rfl:=am h;exact ad sA (cS [0,1,2,3,4,5,6,7] 8)
 refine U ?_;obtain ⟨b11,hb11,h⟩:=aa h;refine aK 8 19 b11 ?_ ?_
 ·clear h;refine aI 11 J (fun g11=> ?_) (fun g11=> ?_)
  ·have h:=aE g11 hb11;refine U ?_;obtain rfl:=am h;exact ad sA (cS [0,1,2,3,4,5,6,7] 8)
  have h:=aF g11 hb11;refine U ?_;refine cp (cQ 1 J J iO J) J (cX g11 J) J ?_;refine cp (bL 4 J aS J hE) J (cX g11 J) J ?_;refine U ?_;obtain rfl:=am h;exact ad sA (cS [0,1,2,3,4,5,6,7] 8)
 refine U ?_;refine gH J h (fun h=> ?_) (fun h=> ?_)
 ·refine U ?_;refine gE (bd J (gC)) ?_;refine gW (ar (us:=[iV 0,iV 0,.string (⟨#[]⟩)]) (cs':=[iV 0,iV 0,.string (⟨#[]⟩)]) 0 J J J J bv J J J) ?_;refine U ?_;obtain rfl:=am h;exact cD (rs:=[.cell 4 30]) (vs:=[.agg #[iV 0,iV 0,.string (⟨#[]⟩)]]) J (.cons (bG 0 J J aH) .nil) J (cS [] 8) ⟨J,J⟩
 refine U ?_;refine gR (cQ 1 J J iO J) ?_;refine U ?_;obtain ⟨x13,hx13,h⟩:=aa h;obtain ⟨lx13,ux13,hx13⟩:=aJ hx13;refine gR (bx 4 J aS J J hE bv lx13 ux13) ?_;refine gR (bA (us:=[iV x13.Kind,iV x13.N,.string x13.S]) 4 J aS J hx13 aH (fun _ _ _ h=>by rw [show _=_ from h];rfl)) ?_;refine gW (ar (us:=[iV x13.Kind,iV x13.N,.string x13.S]) (cs':=[iV x13.Kind,iV x13.N,.string x13.S]) 0 J J J J bv J J J) ?_;refine U ?_;obtain rfl:=am h;exact cD (rs:=[.cell 4 30]) (vs:=[.agg #[iV x13.Kind,iV x13.N,.string x13.S]]) J (.cons (bG 0 J J aH) .nil) J (cS [] 8) ⟨J,J⟩
theorem i1 {r:MQ}:∀(u:Value)(p:List Chunk),u=(bz r)∧p=[]→∀c∈p,cM c:=by
 rintro _ _ ⟨rfl,rfl⟩;exact aj
def jE (N:Nat){σ:Type}(fy:(Bool×MQ)→σ→Option (Bool×σ))(a1:MY):Nat→Int→σ→Option σ
 |0,_,_=>none
 |m15+1,p16,p17=>bif decide (p16<(a1.More.length:Int)) then ((bR a1.More p16).bind fun x19=>(bif !decide (a1.Kind=8) then ((bif !decide (a1.Kind=10) then (some true) else (some (decide (p16.tmod 2=0)))).bind fun b22=>some b22) else (some false)).bind fun b21=>(fy (b21,x19) p17).bind fun y23=>bif !y23.1 then (some y23.2) else (dq (bQ (p16+1)) ((jE N fy a1 m15) (p16+1) y23.2))) else (some p17)
def rF (N:Nat){σ:Type}(fy:(Bool×MQ)→σ→Option (Bool×σ))(a1:MY)(p5:σ):Option σ:=
 jE N fy a1 N 0 p5
def kz (N:Nat){σ:Type}(fy:(Bool×MQ)→σ→Option (Bool×σ))(a1:MY):Nat→Int→σ→Option σ
 |0,_,_=>none
 |m6+1,p7,p8=>bif decide (p7<(a1.Slots.length:Int)) then ((bR a1.Slots p7).bind fun x10=>(fy (true,x10) p8).bind fun y12=>bif !y12.1 then (some y12.2) else (dq (bQ (p7+1)) ((kz N fy a1 m6) (p7+1) y12.2))) else (rF N fy a1 p8)
def iK (N:Nat){σ:Type}(a1:MY)(fy:(Bool×MQ)→σ→Option (Bool×σ))(s0:σ):Option σ:=
 kz N fy a1 N 0 s0
set_option maxHeartbeats 4000000 in
theorem rE {N:Nat}{σ:Type}{a1:MY}{fy:(Bool×MQ)→σ→Option (Bool×σ)}{s0:σ}{r:σ}(h:iK N a1 fy s0=some r){l:Nat}{G:σ→List Chunk}(hY:qt Tryz.prog l G (fun x=> [.bool x.1,.agg #[iV x.2.Kind,iV x.2.N,.string x.2.S]]) fy):Okc Tryz.prog 238 [.func (.yield l) #[] #[],pV B1 0] (aT B1 138 [iV a1.Kind,iV a1.Shape,iV a1.Flags,iV a1.Age,I A2 n2 c2,I A3 n3 c3]::dV A2 n2 c2 a1.Slots::dV A3 n3 c3 a1.More::(G s0)) (fun u post=>u=.tuple #[]∧post=G r):=by
 refine bD Tryz.func238 J J ?_;simp only [aW];refine ba (fun s L=> ∃p5,rF N fy a1 p5=some r∧s=[(0,.func (.yield l) #[] #[]),(1,pV B1 0)]∧L=dV A2 n2 c2 a1.Slots::dV A3 n3 c3 a1.More::aT B1 138 [iV a1.Kind,iV a1.Shape,iV a1.Flags,iV a1.Age,I A2 n2 c2,I A3 n3 c3]::(G p5)) ?_ ?_
 ·refine U ?_;refine gR (cQ 0 J J iO J) ?_;refine gR (bL 1 J aS J hE) ?_;refine U ?_;refine cn (fun m s L=> ∃p7 p8,kz N fy a1 m p7 p8=some r∧s=[(0,.func (.yield l) #[] #[]),(1,pV B1 0),(9,I A2 n2 c2),(10,iV (a1.Slots.length:Int)),(11,iV p7)]∧L=dV A2 n2 c2 a1.Slots::dV A3 n3 c3 a1.More::aT B1 138 [iV a1.Kind,iV a1.Shape,iV a1.Flags,iV a1.Age,I A2 n2 c2,I A3 n3 c3]::(G p8)) N _ _ ⟨0,s0,h,J,J⟩ sA (cS [1,2,0] 3) ?_;rintro (_|m6) _ _ ⟨p7,p8,h,rfl,rfl⟩
  ·exact bu h
  rw [kz.eq_2] at h;refine U ?_;refine aB ?_;refine gH J h (fun h=> ?_) (fun h=> ?_)
  ·refine U ?_;refine aB ?_;refine U ?_;obtain ⟨x10,hx10,h⟩:=aa h;obtain ⟨lx10,ux10,hx10⟩:=aJ hx10;refine gR (bx 0 J aS J J hE bv lx10 ux10) ?_;refine gR (bA (us:=[iV x10.Kind,iV x10.N,.string x10.S]) 0 J aS J hx10 aH (fun _ _ _ h=>by rw [show _=_ from h];rfl)) ?_
   refine gB (aM gw J) fun B11=> ?_
   refine gW (ar (us:=[iV x10.Kind,iV x10.N,.string x10.S]) (cs':=[iV x10.Kind,iV x10.N,.string x10.S]) 0 J J J J bv J J J) ?_;refine U ?_;refine gR (ah (us:=[iV x10.Kind,iV x10.N,.string x10.S]) 0 J J aH J) ?_;obtain ⟨y12,k,h⟩:=aa h;refine gD (uH (a:=(true,x10)) [ac B11 30 [iV x10.Kind,iV x10.N,.string x10.S],dV A2 n2 c2 a1.Slots,dV A3 n3 c3 a1.More,aT B1 138 [iV a1.Kind,iV a1.Shape,iV a1.Flags,iV a1.Age,I A2 n2 c2,I A3 n3 c3]] hY k J J) ?_;rintro _ _ ⟨rfl,rfl⟩;refine U ?_;refine gH J h (fun h=> ?_) (fun h=> ?_)
   ·refine U ?_;obtain rfl:=am h;exact zg J (cS [] 4) ⟨J,J⟩
   refine U ?_;obtain ⟨q14,h⟩:=ay h;refine gE (bI J J q14.1 q14.2) ?_;refine U ?_;exact ⟨m6,_,_,Nh _,⟨p7+1,y12.2,h,J,J⟩,sA,cS [1,2,3] 4⟩
  refine U ?_;exact ⟨_,_,⟨p8,h,J,J⟩,sA,cS [0,1,2] 3⟩
 rintro _ _ ⟨p5,h,rfl,rfl⟩;refine U ?_;refine gR (cQ 2 J J iO J) ?_;refine gR (bL 1 J aS J hE) ?_;refine U ?_;refine cn (fun m s L=> ∃p16 p17,jE N fy a1 m p16 p17=some r∧s=[(0,.func (.yield l) #[] #[]),(1,pV B1 0),(21,I A3 n3 c3),(22,iV (a1.More.length:Int)),(23,iV p16)]∧L=dV A3 n3 c3 a1.More::dV A2 n2 c2 a1.Slots::aT B1 138 [iV a1.Kind,iV a1.Shape,iV a1.Flags,iV a1.Age,I A2 n2 c2,I A3 n3 c3]::(G p17)) N _ _ ⟨0,p5,h,J,J⟩ sA (cS [1,0,2] 3) ?_;rintro (_|m15) _ _ ⟨p16,p17,h,rfl,rfl⟩
 ·exact bu h
 rw [jE.eq_2] at h;refine U ?_;refine aB ?_;refine gH J h (fun h=> ?_) (fun h=> ?_)
 ·refine U ?_;refine aB ?_;refine U ?_;obtain ⟨x19,hx19,h⟩:=aa h;obtain ⟨lx19,ux19,hx19⟩:=aJ hx19;refine gR (bx 0 J aS J J hE bv lx19 ux19) ?_;refine gR (bA (us:=[iV x19.Kind,iV x19.N,.string x19.S]) 0 J aS J hx19 aH (fun _ _ _ h=>by rw [show _=_ from h];rfl)) ?_
  refine gB (aM gw J) fun B20=> ?_
  refine U ?_;refine gW (ar (us:=[iV x19.Kind,iV x19.N,.string x19.S]) (cs':=[iV x19.Kind,iV x19.N,.string x19.S]) 0 J J J J bv J J J) ?_;refine bM ?_;refine U ?_;refine gR (cQ 3 J J dH J) ?_;refine U ?_;obtain ⟨b21,hb21,h⟩:=aa h;refine aK 9 40 b21 ?_ ?_
  ·clear h;refine aI 31 J (fun g21=> ?_) (fun g21=> ?_)
   ·have h:=aE g21 hb21;refine U ?_;refine cp (cQ 3 J J dH J) J (bp g21 J) J ?_;refine U ?_;obtain ⟨b22,hb22,h⟩:=aa h;refine aK 4 39 b22 ?_ ?_
    ·clear h;refine aI 35 J (fun g22=> ?_) (fun g22=> ?_)
     ·have h:=aE g22 hb22;refine U ?_;obtain rfl:=am h;exact ad sA (cS [0,1,2,3] 4)
     have h:=aF g22 hb22;refine U ?_;refine fb (oI J J (by decide)) J (cX g22 J) J ?_;refine U ?_;obtain rfl:=am h;exact ad sA (cS [0,1,2,3] 4)
    refine U ?_;obtain rfl:=am h;exact ad sA (cS [0,1,2,3] 4)
   have h:=aF g21 hb21;refine U ?_;obtain rfl:=am h;exact ad sA (cS [0,1,2,3] 4)
  refine U ?_;refine gR (ah (us:=[iV x19.Kind,iV x19.N,.string x19.S]) 0 J J aH J) ?_;obtain ⟨y23,k,h⟩:=aa h;refine gD (uH (a:=(b21,x19)) [ac B20 30 [iV x19.Kind,iV x19.N,.string x19.S],dV A3 n3 c3 a1.More,dV A2 n2 c2 a1.Slots,aT B1 138 [iV a1.Kind,iV a1.Shape,iV a1.Flags,iV a1.Age,I A2 n2 c2,I A3 n3 c3]] hY k J J) ?_;rintro _ _ ⟨rfl,rfl⟩;refine U ?_;refine gH J h (fun h=> ?_) (fun h=> ?_)
  ·refine U ?_;obtain rfl:=am h;exact zg J (cS [] 4) ⟨J,J⟩
  refine U ?_;obtain ⟨q25,h⟩:=ay h;refine gE (bI J J q25.1 q25.2) ?_;refine U ?_;exact ⟨m15,_,_,Nh _,⟨p16+1,y23.2,h,J,J⟩,sA,cS [1,2,3] 4⟩
 refine U ?_;obtain rfl:=am h;exact fR J (cS [] 3) ⟨J,J⟩
def tg (N:Nat)(a0:MY):Option Unit:=
 some ()
theorem vD {N:Nat}{a0:MY}{r:Unit}(h:tg N a0=some r):Okc Tryz.prog 225 [.agg #[iV a0.Kind,iV a0.Shape,iV a0.Flags,iV a0.Age,I A1 n1 c1,I A2 n2 c2]] ([dV A1 n1 c1 a0.Slots,dV A2 n2 c2 a0.More]) (fun u post=> ∃B900,u=.func (.func 238) #[] #[pV B900 0]∧post=[ac B900 138 [iV a0.Kind,iV a0.Shape,iV a0.Flags,iV a0.Age,I A1 n1 c1,I A2 n2 c2]]):=by
 refine bD Tryz.func225 J J ?_;simp only [aW];refine U ?_
 refine gB (aO J J) fun B3=> ?_
 refine U ?_;refine gE (ry J) ?_;refine U ?_;obtain rfl:=am h;exact aL J J (cS [0] 3) ⟨_,J,J⟩
theorem sM {a0:MY}{A1:Option Addr}{n1:Nat}{c1:Nat}{A2:Option Addr}{n2:Nat}{c2:Nat}:∀(u:Value)(p:List Chunk),(∃B900,u=.func (.func 238) #[] #[pV B900 0]∧p=[ac B900 138 [iV a0.Kind,iV a0.Shape,iV a0.Flags,iV a0.Age,I A1 n1 c1,I A2 n2 c2]])→∀c∈p,cM c:=by
 rintro _ _ ⟨_,rfl,rfl⟩;exact hD rt (aj)
def jk (N:Nat)(a0:MQ)(p10:Bool):Option Bool:=
 bif p10 then (some (decide (1≤a0.N))) else ((bif decide (a0.N=0) then (some (decide (0≤a0.Kind))) else (some false)).bind fun b14=>(bif b14 then (some (decide (a0.Kind≤9))) else (some false)).bind fun b15=>some b15)
def iJ (N:Nat)(a0:MQ):Option Bool:=
 bif decide (a0.Kind=5) then ((bif decide (a0.N=0) then (some (decide ((a0.S.size:Int)≤65536))) else (some false)).bind fun b3=>some b3) else (bif !(a0.S.toList==(⟨#[]⟩:ByteArray).toList) then (some false) else (bif decide (a0.Kind=2) then ((bif decide (a0.N=0) then (some true) else (some (decide (a0.N=1)))).bind fun b6=>some b6) else (bif decide (a0.Kind=3) then ((bif decide ((-9007199254740992)≤a0.N) then (some (decide (a0.N≤9007199254740992))) else (some false)).bind fun b8=>some b8) else (bif decide (a0.Kind=6) then (jk N a0 (decide (a0.Kind=6))) else (bif decide (a0.Kind=7) then (jk N a0 (decide (a0.Kind=7))) else (jk N a0 (decide (a0.Kind=9))))))))
set_option maxHeartbeats 4000000 in
theorem BT {N:Nat}{a0:MQ}{r:Bool}(h:iJ N a0=some r):Okc Tryz.prog 226 [(bz a0)] ([]) (fun u post=>u=.bool r∧post=[]):=by
 refine bD Tryz.func226 J J ?_;simp only [aW];refine U ?_
 refine gB (aO J J) fun B1=> ?_
 refine U ?_;refine aB ?_;refine U ?_;refine gH J h (fun h=> ?_) (fun h=> ?_)
 ·refine U ?_;obtain ⟨b3,hb3,h⟩:=aa h;refine aK 5 14 b3 ?_ ?_
  ·clear h;refine aI 9 J (fun g3=> ?_) (fun g3=> ?_)
   ·have h:=aE g3 hb3;refine U ?_;refine fb (lx J hH) J (bp g3 J) J ?_;refine U ?_;obtain rfl:=am h;exact ad sA (cS [0] 1)
   have h:=aF g3 hb3;refine U ?_;obtain rfl:=am h;exact ad sA (cS [0] 1)
  refine U ?_;obtain rfl:=am h;exact aL J J (cS [] 1) ⟨J,J⟩
 refine U ?_;refine aB ?_;refine U ?_;refine gE (xA J J) ?_;refine U ?_;refine gH J h (fun h=> ?_) (fun h=> ?_)
 ·refine U ?_;obtain rfl:=am h;exact aL J J (cS [] 1) ⟨J,J⟩
 refine U ?_;refine aB ?_;refine U ?_;refine gH J h (fun h=> ?_) (fun h=> ?_)
 ·refine U ?_;obtain ⟨b6,hb6,h⟩:=aa h;refine aK 4 29 b6 ?_ ?_
  ·clear h;refine aI 25 J (fun g6=> ?_) (fun g6=> ?_)
   ·have h:=aE g6 hb6;refine U ?_;obtain rfl:=am h;exact ad sA (cS [0] 1)
   have h:=aF g6 hb6;refine U ?_;obtain rfl:=am h;exact ad sA (cS [0] 1)
  refine U ?_;obtain rfl:=am h;exact aL J J (cS [] 1) ⟨J,J⟩
 refine U ?_;refine gH J h (fun h=> ?_) (fun h=> ?_)
 ·refine U ?_;obtain ⟨b8,hb8,h⟩:=aa h;refine aK 4 39 b8 ?_ ?_
  ·clear h;refine aI 35 J (fun g8=> ?_) (fun g8=> ?_)
   ·have h:=aE g8 hb8;refine U ?_;obtain rfl:=am h;exact ad sA (cS [0] 1)
   have h:=aF g8 hb8;refine U ?_;obtain rfl:=am h;exact ad sA (cS [0] 1)
  refine U ?_;obtain rfl:=am h;exact aL J J (cS [] 1) ⟨J,J⟩
 refine ba (fun s L=> ∃p10,jk N a0 p10=some r∧s=[(1,pV B1 0),(2,.bool false),(40,.bool p10)]∧L=[ac B1 30 (au a0)]) ?_ ?_
 ·refine U ?_;refine gH J h (fun h=> ?_) (fun h=> ?_)
  ·refine U ?_;exact ⟨_,_,⟨decide (a0.Kind=6),h,J,J⟩,sA,cS [0] 1⟩
  refine U ?_;refine gH J h (fun h=> ?_) (fun h=> ?_)
  ·refine U ?_;exact ⟨_,_,⟨decide (a0.Kind=7),h,J,J⟩,sA,cS [0] 1⟩
  refine U ?_;exact ⟨_,_,⟨decide (a0.Kind=9),h,J,J⟩,sA,cS [0] 1⟩
 rintro _ _ ⟨p10,h,rfl,rfl⟩;refine gH J h (fun h=> ?_) (fun h=> ?_)
 ·refine U ?_;obtain rfl:=am h;exact aL J J (cS [] 1) ⟨J,J⟩
 refine U ?_;obtain ⟨b14,hb14,h⟩:=aa h;refine aK 4 54 b14 ?_ ?_
 ·clear h;refine aI 50 J (fun g14=> ?_) (fun g14=> ?_)
  ·have h:=aE g14 hb14;refine U ?_;obtain rfl:=am h;exact ad sA (cS [0] 1)
  have h:=aF g14 hb14;refine U ?_;obtain rfl:=am h;exact ad sA (cS [0] 1)
 refine U ?_;obtain ⟨b15,hb15,h⟩:=aa h;refine aK 4 59 b15 ?_ ?_
 ·clear h;refine aI 55 J (fun g15=> ?_) (fun g15=> ?_)
  ·have h:=aE g15 hb15;refine U ?_;obtain rfl:=am h;exact ad sA (cS [0] 1)
  have h:=aF g15 hb15;refine U ?_;obtain rfl:=am h;exact ad sA (cS [0] 1)
 refine U ?_;obtain rfl:=am h;exact aL J J (cS [] 1) ⟨J,J⟩
theorem yy {r:Bool}:∀(u:Value)(p:List Chunk),u=.bool r∧p=[]→∀c∈p,cM c:=by
 rintro _ _ ⟨rfl,rfl⟩;exact aj
def gG (N:Nat)(p2:Bool):Option Bool:=
 bif p2 then (some true) else (some false)
def mE (N:Nat)(a0:Int):Option Bool:=
 bif decide (a0=1) then (gG N (decide (a0=1))) else (bif decide (a0=2) then (gG N (decide (a0=2))) else (bif decide (a0=3) then (gG N (decide (a0=3))) else (bif decide (a0=6) then (gG N (decide (a0=6))) else (bif decide (a0=8) then (gG N (decide (a0=8))) else (bif decide (a0=9) then (gG N (decide (a0=9))) else (gG N (decide (a0=10))))))))
theorem BU {N:Nat}{a0:Int}{r:Bool}(h:mE N a0=some r):Okc Tryz.prog 239 [iV a0] ([]) (fun u post=>u=.bool r∧post=[]):=by
 refine bD Tryz.func239 J J ?_;simp only [aW];refine U ?_;refine aB ?_;refine U ?_;refine ba (fun s L=> ∃p2,gG N p2=some r∧s=[(2,.bool false),(4,.bool p2)]∧L=[]) ?_ ?_
 ·refine U ?_;refine gH J h (fun h=> ?_) (fun h=> ?_)
  ·refine U ?_;exact ⟨_,_,⟨decide (a0=1),h,J,J⟩,sA,cS [] 0⟩
  refine U ?_;refine gH J h (fun h=> ?_) (fun h=> ?_)
  ·refine U ?_;exact ⟨_,_,⟨decide (a0=2),h,J,J⟩,sA,cS [] 0⟩
  refine U ?_;refine gH J h (fun h=> ?_) (fun h=> ?_)
  ·refine U ?_;exact ⟨_,_,⟨decide (a0=3),h,J,J⟩,sA,cS [] 0⟩
  refine U ?_;refine gH J h (fun h=> ?_) (fun h=> ?_)
  ·refine U ?_;exact ⟨_,_,⟨decide (a0=6),h,J,J⟩,sA,cS [] 0⟩
  refine U ?_;refine gH J h (fun h=> ?_) (fun h=> ?_)
  ·refine U ?_;exact ⟨_,_,⟨decide (a0=8),h,J,J⟩,sA,cS [] 0⟩
  refine U ?_;refine gH J h (fun h=> ?_) (fun h=> ?_)
  ·refine U ?_;exact ⟨_,_,⟨decide (a0=9),h,J,J⟩,sA,cS [] 0⟩
  refine U ?_;exact ⟨_,_,⟨decide (a0=10),h,J,J⟩,sA,cS [] 0⟩
 rintro _ _ ⟨p2,h,rfl,rfl⟩;refine gH J h (fun h=> ?_) (fun h=> ?_)
 ·refine U ?_;obtain rfl:=am h;exact aL J J (cS [] 0) ⟨J,J⟩
 refine U ?_;obtain rfl:=am h;exact aL J J (cS [] 0) ⟨J,J⟩
theorem yA {r:Bool}:∀(u:Value)(p:List Chunk),u=.bool r∧p=[]→∀c∈p,cM c:=by
 rintro _ _ ⟨rfl,rfl⟩;exact aj
def fX (N:Nat)(a0:MQ)(a1:Int):Option Bool:=
 (bif decide (a0.Kind=0) then (some true) else (some (decide (a0.Kind=a1)))).bind fun b2=>some b2
theorem jb {N:Nat}{a0:MQ}{a1:Int}{r:Bool}(h:fX N a0 a1=some r):Okc Tryz.prog 240 [(bz a0),iV a1] ([]) (fun u post=>u=.bool r∧post=[]):=by
 refine bD Tryz.func240 J J ?_;simp only [aW];refine U ?_
 refine gB (aO J J) fun B1=> ?_
 refine U ?_;obtain ⟨b2,hb2,h⟩:=aa h;refine aK 5 13 b2 ?_ ?_
 ·clear h;refine aI 8 J (fun g2=> ?_) (fun g2=> ?_)
  ·have h:=aE g2 hb2;refine U ?_;obtain rfl:=am h;exact ad sA (cS [0] 1)
  have h:=aF g2 hb2;refine U ?_;obtain rfl:=am h;exact ad sA (cS [0] 1)
 refine U ?_;obtain rfl:=am h;exact aL J J (cS [] 1) ⟨J,J⟩
theorem gK {r:Bool}:∀(u:Value)(p:List Chunk),u=.bool r∧p=[]→∀c∈p,cM c:=by
 rintro _ _ ⟨rfl,rfl⟩;exact aj
def fq (N:Nat)(a0:MY):Option Bool:=
 (mE N a0.Kind).bind fun y4=>(bif y4 then (some true) else ((bif decide (a0.Kind=7) then (some (decide (0<(a0.Slots.length:Int)))) else (some false)).bind fun b6=>some b6)).bind fun b5=>bif b5 then ((bif decide (1≤(a0.Slots.length:Int)) then (some (decide ((a0.Slots.length:Int)≤1025))) else (some false)).bind fun b8=>(bif b8 then ((bR a0.Slots 0).bind fun x10=>(bif decide (x10.Kind=1) then (some true) else ((bR a0.Slots 0).bind fun x12=>some (decide (x12.Kind=7)))).bind fun b11=>some b11) else (some false)).bind fun b9=>some b9) else (bif decide (a0.Kind=7) then (some (decide (a0.Shape=0))) else ((bif !decide (a0.Shape=0) then (some true) else (some (!decide (a0.Flags=0)))).bind fun b14=>bif b14 then (some false) else (bif decide (a0.Kind=5) then ((bif decide ((a0.Slots.length:Int)=2) then ((bR a0.Slots 0).bind fun x18=>(fX N x18 7).bind fun y19=>some y19) else (some false)).bind fun b17=>(bif b17 then ((bR a0.Slots 1).bind fun x21=>(fX N x21 7).bind fun y22=>some y22) else (some false)).bind fun b20=>some b20) else (some (decide ((a0.Slots.length:Int)=0))))))
set_option maxHeartbeats 4000000 in
theorem tf {N:Nat}{a0:MY}{r:Bool}(h:fq N a0=some r):Okc Tryz.prog 227 [.agg #[iV a0.Kind,iV a0.Shape,iV a0.Flags,iV a0.Age,I A1 n1 c1,I A2 n2 c2]] ([dV A1 n1 c1 a0.Slots,dV A2 n2 c2 a0.More]) (fun u post=>u=.bool r∧post=[]):=by
 refine bD Tryz.func227 J J ?_;simp only [aW];refine U ?_
 refine gB (aO J J) fun B3=> ?_
 refine U ?_;refine aB ?_;refine U ?_;obtain ⟨y4,k,h⟩:=aa h;refine gV (ap (BU k) Ik J (aj) yA) ?_;refine U ?_;obtain ⟨b5,hb5,h⟩:=aa h;refine aK 10 16 b5 ?_ ?_
 ·clear h;refine aI 6 J (fun g5=> ?_) (fun g5=> ?_)
  ·have h:=aE g5 hb5;refine U ?_;obtain rfl:=am h;exact ad sA (cS [0,1,2] 3)
  have h:=aF g5 hb5;refine U ?_;obtain ⟨b6,hb6,h⟩:=aa h;refine aK 5 15 b6 ?_ ?_
  ·clear h;refine aI 10 J (fun g6=> ?_) (fun g6=> ?_)
   ·have h:=aE g6 hb6;refine U ?_;refine cp (bL 1 J aS J hE) J (bp g6 J) J ?_;refine U ?_;obtain rfl:=am h;exact ad sA (cS [0,1,2] 3)
   have h:=aF g6 hb6;refine U ?_;obtain rfl:=am h;exact ad sA (cS [0,1,2] 3)
  refine U ?_;obtain rfl:=am h;exact ad sA (cS [0,1,2] 3)
 refine U ?_;refine gH J h (fun h=> ?_) (fun h=> ?_)
 ·refine U ?_;refine gR (bL 1 J aS J hE) ?_;refine U ?_;obtain ⟨b8,hb8,h⟩:=aa h;refine aK 5 26 b8 ?_ ?_
  ·clear h;refine aI 21 J (fun g8=> ?_) (fun g8=> ?_)
   ·have h:=aE g8 hb8;refine U ?_;refine cp (bL 1 J aS J hE) J (bp g8 J) J ?_;refine U ?_;obtain rfl:=am h;exact ad sA (cS [0,1,2] 3)
   have h:=aF g8 hb8;refine U ?_;obtain rfl:=am h;exact ad sA (cS [0,1,2] 3)
  refine U ?_;obtain ⟨b9,hb9,h⟩:=aa h;refine aK 15 42 b9 ?_ ?_
  ·clear h;refine aI 27 J (fun g9=> ?_) (fun g9=> ?_)
   ·have h:=aE g9 hb9;refine U ?_;obtain ⟨x10,hx10,h⟩:=aa h;obtain ⟨lx10,ux10,hx10⟩:=aJ hx10;refine cp (bx 1 J aS J J hE bv lx10 ux10) J (bp g9 J) J ?_;refine cp (pn 1 J aS J (toNat_lt lx10 ux10) nW) J (bp g9 J) J ?_;refine cp (fB (u:=iV x10.Kind) 1 J aS J hx10 dH (fun _ _ _ h=>by rw [show _=_ from h];rfl)) J (bp g9 J) J ?_;refine U ?_;obtain ⟨b11,hb11,h⟩:=aa h;refine aK 7 41 b11 ?_ ?_
    ·clear h;refine aI 34 J (fun g11=> ?_) (fun g11=> ?_)
     ·have h:=aE g11 hb11;refine U ?_;obtain rfl:=am h;exact ad sA (cS [0,1,2] 3)
     have h:=aF g11 hb11;refine U ?_;obtain ⟨x12,hx12,h⟩:=aa h;obtain ⟨lx12,ux12,hx12⟩:=aJ hx12;refine cp (bx 1 J aS J J hE bv lx12 ux12) J (cX g11 J) J ?_;refine cp (pn 1 J aS J (toNat_lt lx12 ux12) nW) J (cX g11 J) J ?_;refine cp (fB (u:=iV x12.Kind) 1 J aS J hx12 dH (fun _ _ _ h=>by rw [show _=_ from h];rfl)) J (cX g11 J) J ?_;refine U ?_;obtain rfl:=am h;exact ad sA (cS [0,1,2] 3)
    refine U ?_;obtain rfl:=am h;exact ad sA (cS [0,1,2] 3)
   have h:=aF g9 hb9;refine U ?_;obtain rfl:=am h;exact ad sA (cS [0,1,2] 3)
  refine U ?_;obtain rfl:=am h;exact aL J J (cS [] 3) ⟨J,J⟩
 refine U ?_;refine aB ?_;refine U ?_;refine gH J h (fun h=> ?_) (fun h=> ?_)
 ·refine U ?_;obtain rfl:=am h;exact aL J J (cS [] 3) ⟨J,J⟩
 refine U ?_;refine aB ?_;refine U ?_;obtain ⟨b14,hb14,h⟩:=aa h;refine aK 4 56 b14 ?_ ?_
 ·clear h;refine aI 52 J (fun g14=> ?_) (fun g14=> ?_)
  ·have h:=aE g14 hb14;refine U ?_;obtain rfl:=am h;exact ad sA (cS [0,1,2] 3)
  have h:=aF g14 hb14;refine U ?_;obtain rfl:=am h;exact ad sA (cS [0,1,2] 3)
 refine U ?_;refine gH J h (fun h=> ?_) (fun h=> ?_)
 ·refine U ?_;obtain rfl:=am h;exact aL J J (cS [] 3) ⟨J,J⟩
 refine U ?_;refine aB ?_;refine U ?_;refine gH J h (fun h=> ?_) (fun h=> ?_)
 ·refine U ?_;refine gR (bL 1 J aS J hE) ?_;refine U ?_;obtain ⟨b17,hb17,h⟩:=aa h;refine aK 6 70 b17 ?_ ?_
  ·clear h;refine aI 64 J (fun g17=> ?_) (fun g17=> ?_)
   ·have h:=aE g17 hb17;refine U ?_;obtain ⟨x18,hx18,h⟩:=aa h;obtain ⟨lx18,ux18,hx18⟩:=aJ hx18;refine cp (bx 1 J aS J J hE bv lx18 ux18) J (bp g17 J) J ?_;refine cp (bA (us:=[iV x18.Kind,iV x18.N,.string x18.S]) 1 J aS J hx18 aH (fun _ _ _ h=>by rw [show _=_ from h];rfl)) J (bp g17 J) J ?_;obtain ⟨y19,k,h⟩:=aa h;refine gU (ap (jb k) sd J (aj) gK) (bp g17 J) ?_;refine U ?_;obtain rfl:=am h;exact ad sA (cS [0,1,2] 3)
   have h:=aF g17 hb17;refine U ?_;obtain rfl:=am h;exact ad sA (cS [0,1,2] 3)
  refine U ?_;obtain ⟨b20,hb20,h⟩:=aa h;refine aK 6 77 b20 ?_ ?_
  ·clear h;refine aI 71 J (fun g20=> ?_) (fun g20=> ?_)
   ·have h:=aE g20 hb20;refine U ?_;obtain ⟨x21,hx21,h⟩:=aa h;obtain ⟨lx21,ux21,hx21⟩:=aJ hx21;refine cp (bx 1 J aS J J hE bv lx21 ux21) J (bp g20 J) J ?_;refine cp (bA (us:=[iV x21.Kind,iV x21.N,.string x21.S]) 1 J aS J hx21 aH (fun _ _ _ h=>by rw [show _=_ from h];rfl)) J (bp g20 J) J ?_;obtain ⟨y22,k,h⟩:=aa h;refine gU (ap (jb k) sd J (aj) gK) (bp g20 J) ?_;refine U ?_;obtain rfl:=am h;exact ad sA (cS [0,1,2] 3)
   have h:=aF g20 hb20;refine U ?_;obtain rfl:=am h;exact ad sA (cS [0,1,2] 3)
  refine U ?_;obtain rfl:=am h;exact aL J J (cS [] 3) ⟨J,J⟩
 refine U ?_;refine gR (bL 1 J aS J hE) ?_;refine U ?_;obtain rfl:=am h;exact aL J J (cS [] 3) ⟨J,J⟩
theorem rD {r:Bool}:∀(u:Value)(p:List Chunk),u=.bool r∧p=[]→∀c∈p,cM c:=by
 rintro _ _ ⟨rfl,rfl⟩;exact aj
def iI (N:Nat)(a0:MQ)(a1:Int)(a2:Int):Option Bool:=
 (bif decide (a0.Kind=3) then (some (decide (a1≤a0.N))) else (some false)).bind fun b2=>(bif b2 then (some (decide (a0.N≤a2))) else (some false)).bind fun b3=>some b3
theorem jc {N:Nat}{a0:MQ}{a1:Int}{a2:Int}{r:Bool}(h:iI N a0 a1 a2=some r):Okc Tryz.prog 241 [(bz a0),iV a1,iV a2] ([]) (fun u post=>u=.bool r∧post=[]):=by
 refine bD Tryz.func241 J J ?_;simp only [aW];refine U ?_
 refine gB (aO J J) fun B1=> ?_
 refine U ?_;obtain ⟨b2,hb2,h⟩:=aa h;refine aK 5 15 b2 ?_ ?_
 ·clear h;refine aI 10 J (fun g2=> ?_) (fun g2=> ?_)
  ·have h:=aE g2 hb2;refine U ?_;obtain rfl:=am h;exact ad sA (cS [0] 1)
  have h:=aF g2 hb2;refine U ?_;obtain rfl:=am h;exact ad sA (cS [0] 1)
 refine U ?_;obtain ⟨b3,hb3,h⟩:=aa h;refine aK 5 21 b3 ?_ ?_
 ·clear h;refine aI 16 J (fun g3=> ?_) (fun g3=> ?_)
  ·have h:=aE g3 hb3;refine U ?_;obtain rfl:=am h;exact ad sA (cS [0] 1)
  have h:=aF g3 hb3;refine U ?_;obtain rfl:=am h;exact ad sA (cS [0] 1)
 refine U ?_;obtain rfl:=am h;exact aL J J (cS [] 1) ⟨J,J⟩
theorem gL {r:Bool}:∀(u:Value)(p:List Chunk),u=.bool r∧p=[]→∀c∈p,cM c:=by
 rintro _ _ ⟨rfl,rfl⟩;exact aj
def nu (N:Nat){σ:Type}(fy:(List MQ)→σ→Option (Bool×σ))(a1:(List MQ))(a2:Int):Nat→Int→σ→Option σ
 |0,_,_=>none
 |m4+1,p5,p6=>bif decide (p5<(a1.length:Int)) then (dq ((0:Int)≤p5∧p5.toNat≤a1.length∧a1.length≤a1.length) (dq (bQ (p5+(min a2 (((a1.drop p5.toNat).take (a1.length - p5.toNat)).length:Int)))) (dq (bQ (p5+(min a2 (((a1.drop p5.toNat).take (a1.length - p5.toNat)).length:Int)))) (dq ((0:Int)≤p5∧(0:Int)≤p5+(min a2 (((a1.drop p5.toNat).take (a1.length - p5.toNat)).length:Int))∧p5.toNat≤(p5+(min a2 (((a1.drop p5.toNat).take (a1.length - p5.toNat)).length:Int))).toNat∧(p5+(min a2 (((a1.drop p5.toNat).take (a1.length - p5.toNat)).length:Int))).toNat≤a1.length) ((fy ((a1.drop p5.toNat).take ((p5+(min a2 (((a1.drop p5.toNat).take (a1.length - p5.toNat)).length:Int))).toNat - p5.toNat)) p6).bind fun y14=>bif !y14.1 then (some y14.2) else (dq (bQ (p5+a2)) ((nu N fy a1 a2 m4) (p5+a2) y14.2))))))) else (some p6)
def qV (N:Nat){σ:Type}(a1:(List MQ))(a2:Int)(fy:(List MQ)→σ→Option (Bool×σ))(s0:σ):Option σ:=
 nu N fy a1 a2 N 0 s0
theorem vJ {N:Nat}{σ:Type}{a1:(List MQ)}{a2:Int}{fy:(List MQ)→σ→Option (Bool×σ)}{s0:σ}{r:σ}(h:qV N a1 a2 fy s0=some r){l:Nat}{G:σ→List Chunk}(hY:rN Tryz.prog l G (fun (x:(List MQ)) vs cs=> ∃A0 n0 c0,vs=[I A0 n0 c0]∧cs=[dV A0 n0 c0 x]) fy):Okc Tryz.prog 262 [.func (.yield l) #[] #[],pV B1 0,pV B3 0] (aT B1 38 [I A2 n2 c2]::dV A2 n2 c2 a1::aT B3 3 [iV a2]::(G s0)) (fun u post=>u=.tuple #[]∧post=G r):=by
 refine bD Tryz.func262 J J ?_;simp only [aW];refine U ?_;refine cn (fun m s L=> ∃p5 p6,nu N fy a1 a2 m p5 p6=some r∧s=[(0,.func (.yield l) #[] #[]),(1,pV B1 0),(2,pV B3 0),(4,iV p5)]∧L=dV A2 n2 c2 a1::aT B1 38 [I A2 n2 c2]::aT B3 3 [iV a2]::(G p6)) N _ _ ⟨0,s0,h,J,J⟩ sA (cS [1,0,2] 3) ?_;rintro (_|m4) _ _ ⟨p5,p6,h,rfl,rfl⟩
 ·exact bu h
 rw [nu.eq_2] at h;refine aB ?_;refine U ?_;refine gR (cQ 1 J J iO J) ?_;refine gR (bL 0 J aS J hE) ?_;refine U ?_;refine gH J h (fun h=> ?_) (fun h=> ?_)
 ·refine U ?_;refine aB ?_;refine eZ ?_;refine aB ?_;refine bK V _ (ae _) ?_;refine zR 0 J (cQ 2 J J dH J) ?_;refine zR 1 J (cQ 1 J J iO J) ?_;refine zE 2 J (aq J) ?_;obtain ⟨q8,h⟩:=ay h;refine G1 0 J (l:=p5.toNat) (h:=a1.length) q8.2.1 q8.2.2 ?_;rintro A9 n9 c9 e9;refine zR 3 J (wa 1 J e9 J hE bv J (by rw [Int.toNat_of_nonneg q8.1];rfl) q8.2.1) ?_;refine zR 4 J (bL 0 J aS J hE) ?_;refine zE 5 J (J7 J J hJ hJ) ?_;refine zE 6 J (bj J) ?_;refine bC V ?_;refine U ?_;refine gR (cQ 2 J J iO J) ?_;refine U ?_;obtain ⟨q10,h⟩:=ay h;refine gE (bI J J q10.1 q10.2) ?_;refine U ?_;obtain ⟨q11,h⟩:=ay h;refine gE (bI J J q11.1 q11.2) ?_;obtain ⟨q12,h⟩:=ay h;refine KP 1 J (l:=p5.toNat) (h:=(p5+(min a2 (((a1.drop p5.toNat).take (a1.length - p5.toNat)).length:Int))).toNat) q12.2.2.1 q12.2.2.2 ?_;rintro A13 n13 c13 e13;refine gR (Ht 2 J e13 J hE bv J (by rw [Int.toNat_of_nonneg q12.1];rfl) (by rw [Int.toNat_of_nonneg q12.2.1];rfl) (by rw [Int.toNat_of_nonneg q12.2.1];rfl) q12.2.2.1 q12.2.2.2) ?_;obtain ⟨y14,k,h⟩:=aa h
  refine gD (Es (a:=(a1.drop p5.toNat).take ((p5+(min a2 (((a1.drop p5.toNat).take (a1.length - p5.toNat)).length:Int))).toNat - p5.toNat)) [dV A13 n13 c13 ((a1.drop p5.toNat).take ((p5+(min a2 (((a1.drop p5.toNat).take (a1.length - p5.toNat)).length:Int))).toNat - p5.toNat)),dV A9 n9 c9 ((a1.drop p5.toNat).take (a1.length - p5.toNat)),dV A2 n2 c2 a1,aT B1 38 [I A2 n2 c2],aT B3 3 [iV a2]] hY k J J ⟨_,_,_,J,J⟩ (Kc 0 J J)) ?_;rintro _ _ ⟨rfl,rfl⟩;refine U ?_;refine gH J h (fun h=> ?_) (fun h=> ?_)
  ·refine U ?_;obtain rfl:=am h;exact zg J (cS [] 5) ⟨J,J⟩
  refine U ?_;refine gR (cQ 4 J J dH J) ?_;obtain ⟨q16,h⟩:=ay h;refine gE (bI J J q16.1 q16.2) ?_;refine U ?_;exact ⟨m4,_,_,Nh _,⟨p5+a2,y14.2,h,J,J⟩,sA,cS [2,3,4] 5⟩
 refine U ?_;obtain rfl:=am h;exact fR J (cS [] 3) ⟨J,J⟩
def oo (N:Nat)(a0:(List MQ))(a1:Int):Option Unit:=
 bif decide (a1<1) then none else (some ())
theorem sm {N:Nat}{a0:(List MQ)}{a1:Int}{r:Unit}(h:oo N a0 a1=some r):Okc Tryz.prog 253 [I A1 n1 c1,iV a1] ([dV A1 n1 c1 a0]) (fun u post=> ∃B900 B901,u=.func (.func 262) #[] #[pV B900 0,pV B901 0]∧post=[ac B900 38 [I A1 n1 c1],ac B901 3 [iV a1]]):=by
 refine bD Tryz.func253 J J ?_;simp only [aW];refine U ?_
 refine gB (aO J J) fun B2=> ?_
 refine gB (aO J J) fun B3=> ?_
 refine U ?_;refine aB ?_;refine U ?_;refine gH J h (fun h=> ?_) (fun h=> ?_)
 ·exact bu h
 refine U ?_;refine gE (ry J) ?_;refine U ?_;obtain rfl:=am h;exact aL J J (cS [1,0] 3) ⟨_,_,J,J⟩
theorem qL {a1:Int}{A1:Option Addr}{n1:Nat}{c1:Nat}:∀(u:Value)(p:List Chunk),(∃B900 B901,u=.func (.func 262) #[] #[pV B900 0,pV B901 0]∧p=[ac B900 38 [I A1 n1 c1],ac B901 3 [iV a1]])→∀c∈p,cM c:=by
 rintro _ _ ⟨_,_,rfl,rfl⟩;exact hD rt (hD rt (aj))
def ky (N:Nat)(a1:Int)(x9:(List MQ)):(Unit)→Option (Option Exit×Unit)
 |()=>(bR x9 0).bind fun x12=>(bif !decide (x12.Kind=7) then (some true) else ((bR x9 1).bind fun x14=>some (decide (x14.Kind=8)))).bind fun b13=>bif b13 then (some (some .ret,())) else ((bif decide (a1=4) then ((bR x9 2).bind fun x17=>(fX N x17 7).bind fun y18=>(bif !y18 then (some true) else ((bR x9 3).bind fun x20=>(iI N x20 0 9007199254740992).bind fun y21=>some (!y21))).bind fun b19=>some b19) else (some false)).bind fun b16=>bif b16 then (some (some .ret,())) else (some (none,())))
def la (N:Nat)(a0:(List MQ))(a1:Int):Option Bool:=
 dq (a1≠0) (bif !decide ((a0.length:Int).tmod a1=0) then (some false) else ((oo N a0 a1).bind fun y6=>(qV N a0 a1 (jW (fun x st=>ky N a1 x st)) (none,())).bind fun y11=>xT y11.1 (some true) (some false) (fun _=>none)))
set_option maxHeartbeats 4000000 in
theorem nm {N:Nat}{a0:(List MQ)}{a1:Int}{r:Bool}(h:la N a0 a1=some r):Okc Tryz.prog 242 [I A1 n1 c1,iV a1] ([dV A1 n1 c1 a0]) (fun u post=>u=.bool r∧post=[]):=by
 refine bD Tryz.func242 J J ?_;simp only [aW];refine U ?_
 refine gB (aO J J) fun B2=> ?_
 refine gB (aM Jc J) fun B3=> ?_
 refine U ?_;refine aB ?_;refine U ?_;refine gR (bL 2 J aS J hE) ?_;refine U ?_;obtain ⟨q4,h⟩:=ay h;refine gE (oI J J q4) ?_;refine U ?_;refine gH J h (fun h=> ?_) (fun h=> ?_)
 ·refine U ?_;refine gW (ar (us:=[.bool false]) (cs':=[.bool false]) 0 J J J J wH J J J) ?_;refine U ?_;obtain rfl:=am h;exact cD (rs:=[.cell 4 4]) (vs:=[.bool false]) J (.cons (rU 0 J J Bq) .nil) J (cS [] 3) ⟨J,J⟩
 refine U ?_;refine aB ?_;refine U ?_;obtain ⟨y6,k,h⟩:=aa h;refine gD (ap (sm k) If J (hD (al (i:=2) J J) aj) qL) ?_;rintro _ _ ⟨_,⟨B7,B8,rfl,rfl⟩,rfl⟩;refine kU ?_;refine fa ?_;refine iQ ?_ bU (pP 0 J);refine iQ ?_ bU (pP 1 J);refine Fj ?_;obtain ⟨y11,k,h⟩:=aa h;refine Ff (R:=(fun (x:(List MQ)) vs cs=> ∃A0 n0 c0,vs=[I A0 n0 c0]∧cs=[dV A0 n0 c0 x])) (fun x st=>ky N a1 x st) (fun (st:Unit) (mz:Unit)=> [ac B2 3 [iV a1],ac B3 4 [.bool false]]) [aT B7 38 [I A1 n1 c1],dV A1 n1 c1 a0,aT B8 3 [iV a1]] (()) (()) J J Id J (by rintro _ _ _ ⟨_,_,_,rfl,rfl⟩;rfl) (fun l G hY=>(vJ k hY).mono fun _ _ hh=>hh.2) (az [0,4,1] [] [3,2] 5 J) h ?_ ?_ ?_ ?_
 ·rintro l x9 _ je sr9 _ h _ _ ⟨A10,n10,c10,rfl,rfl⟩;replace h:ky N a1 x9 ()=some (je,sr9):=h;simp only [yv,List.zip_cons_cons,List.zip_nil_left,List.zip_nil_right,List.reverse_cons,List.reverse_nil,List.nil_append,List.cons_append];refine U ?_;refine aB ?_;refine U ?_;obtain ⟨x12,hx12,h⟩:=aa h;obtain ⟨lx12,ux12,hx12⟩:=aJ hx12;refine gR (bx 0 J aS J J hE bv lx12 ux12) ?_;refine gR (pn 0 J aS J (toNat_lt lx12 ux12) nW) ?_;refine gR (fB (u:=iV x12.Kind) 0 J aS J hx12 dH (fun _ _ _ h=>by rw [show _=_ from h];rfl)) ?_;refine U ?_;obtain ⟨b13,hb13,h⟩:=aa h;refine aK 6 26 b13 ?_ ?_
  ·clear h;refine aI 20 J (fun g13=> ?_) (fun g13=> ?_)
   ·have h:=aE g13 hb13;refine U ?_;obtain rfl:=am h;exact ad sA (cS [0,1,2] 3)
   have h:=aF g13 hb13;refine U ?_;obtain ⟨x14,hx14,h⟩:=aa h;obtain ⟨lx14,ux14,hx14⟩:=aJ hx14;refine cp (bx 0 J aS J J hE bv lx14 ux14) J (cX g13 J) J ?_;refine cp (pn 0 J aS J (toNat_lt lx14 ux14) nW) J (cX g13 J) J ?_;refine cp (fB (u:=iV x14.Kind) 0 J aS J hx14 dH (fun _ _ _ h=>by rw [show _=_ from h];rfl)) J (cX g13 J) J ?_;refine U ?_;obtain rfl:=am h;exact ad sA (cS [0,1,2] 3)
  refine U ?_;refine gH J h (fun h=> ?_) (fun h=> ?_)
  ·refine U ?_;refine gW (ar (us:=[.bool false]) (cs':=[.bool false]) 2 J J J J wH J J J) ?_;refine U ?_;obtain ⟨rfl,rfl⟩:=Prod.mk.inj (Option.some.inj h);exact C1 ((cS [1,2] 3).trans (lm () J))
  refine U ?_;obtain ⟨b16,hb16,h⟩:=aa h;refine aK 13 42 b16 ?_ ?_
  ·clear h;refine aI 29 J (fun g16=> ?_) (fun g16=> ?_)
   ·have h:=aE g16 hb16;refine U ?_;obtain ⟨x17,hx17,h⟩:=aa h;obtain ⟨lx17,ux17,hx17⟩:=aJ hx17;refine cp (bx 0 J aS J J hE bv lx17 ux17) J (bp g16 J) J ?_;refine cp (bA (us:=[iV x17.Kind,iV x17.N,.string x17.S]) 0 J aS J hx17 aH (fun _ _ _ h=>by rw [show _=_ from h];rfl)) J (bp g16 J) J ?_;obtain ⟨y18,k,h⟩:=aa h;refine gU (ap (jb k) sd J (aj) gK) (bp g16 J) ?_;refine U ?_;obtain ⟨b19,hb19,h⟩:=aa h;refine aK 6 41 b19 ?_ ?_
    ·clear h;refine aI 35 J (fun g19=> ?_) (fun g19=> ?_)
     ·have h:=aE g19 hb19;refine U ?_;obtain rfl:=am h;exact ad sA (cS [0,1,2] 3)
     have h:=aF g19 hb19;refine U ?_;obtain ⟨x20,hx20,h⟩:=aa h;obtain ⟨lx20,ux20,hx20⟩:=aJ hx20;refine cp (bx 0 J aS J J hE bv lx20 ux20) J (cX g19 J) J ?_;refine cp (bA (us:=[iV x20.Kind,iV x20.N,.string x20.S]) 0 J aS J hx20 aH (fun _ _ _ h=>by rw [show _=_ from h];rfl)) J (cX g19 J) J ?_;obtain ⟨y21,k,h⟩:=aa h;refine gU (ap (jc k) sc J (aj) gL) (cX g19 J) ?_;refine U ?_;obtain rfl:=am h;exact ad sA (cS [0,1,2] 3)
    refine U ?_;obtain rfl:=am h;exact ad sA (cS [0,1,2] 3)
   have h:=aF g16 hb16;refine U ?_;obtain rfl:=am h;exact ad sA (cS [0,1,2] 3)
  refine U ?_;refine gH J h (fun h=> ?_) (fun h=> ?_)
  ·refine U ?_;refine gW (ar (us:=[.bool false]) (cs':=[.bool false]) 2 J J J J wH J J J) ?_;refine U ?_;obtain ⟨rfl,rfl⟩:=Prod.mk.inj (Option.some.inj h);exact C1 ((cS [1,2] 3).trans (lm () J))
  refine U ?_;obtain ⟨rfl,rfl⟩:=Prod.mk.inj (Option.some.inj h);exact G3 ((cS [1,2] 3).trans (lm () J))
 ·rintro _ h;refine sj ([ac B2 3 [iV a1],ac B3 4 [.bool false]]) J ?_;refine U ?_;refine gW (ar (us:=[.bool true]) (cs':=[.bool true]) 1 J J J J wH J J J) ?_;refine bM ?_;refine U ?_;obtain rfl:=am h;exact cD (rs:=[.cell 4 4]) (vs:=[.bool true]) J (.cons (rU 1 J J Bq) .nil) J (cS [] 2) ⟨J,J⟩
 ·rintro _ h;refine sj ([ac B2 3 [iV a1],ac B3 4 [.bool false]]) J ?_;refine U ?_;obtain rfl:=am h;exact cD (rs:=[.cell 4 4]) (vs:=[.bool false]) J (.cons (rU 1 J J Bq) .nil) J (cS [] 2) ⟨J,J⟩
 rintro i _ h;exact bu h
theorem mj {r:Bool}:∀(u:Value)(p:List Chunk),u=.bool r∧p=[]→∀c∈p,cM c:=by
 rintro _ _ ⟨rfl,rfl⟩;exact aj
end Go.Proofs.YtanojiedimeegaaGreatDoor