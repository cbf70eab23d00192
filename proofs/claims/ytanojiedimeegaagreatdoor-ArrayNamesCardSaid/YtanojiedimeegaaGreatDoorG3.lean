/- Merged texts: part 3. No conditions of their own. -/
import Derived.Test.YtanojiedimeegaaGreatDoorG2
import Derived.Test.YtanojiedimeegaaGreatDoorChecked
import Derived.ProofKit
namespace Go.Proofs.YtanojiedimeegaaGreatDoor
theorem KM:type_of% Tryz.underlying3:=Tryz.underlying3
theorem EM:type_of% Tryz.underlying59:=Tryz.underlying59
theorem Ex:type_of% Tryz.underlying9:=Tryz.underlying9
variable {A1 A2 A3 A4 A5:Option Addr} {B1 B3 B6 M7 c1 c2 c3 c4 c5 n1 n2 n3 n4 n5:Nat}
open Go.RowKit Asn
set_option maxRecDepth 20000
structure Lf where
 Kind:Int
 N:Int
 S:ByteArray
 deriving DecidableEq,Inhabited
def bS:Rep Lf:=.flat 3 (fun x=> [iV x.Kind,iV x.N,.string x.S]) (fun _=>rfl) (fun _=>rfl)
structure Lj where
 Kind:Int
 N:Int
 S:ByteArray
 deriving DecidableEq,Inhabited
def jP:Rep Lj:=.flat 3 (fun x=> [iV x.Kind,iV x.N,.string x.S]) (fun _=>rfl) (fun _=>rfl)
structure Li where
 Has:Int
 Attrs:Int
 Value:Lf
 Get:Lf
 Set:Lf
 deriving DecidableEq,Inhabited
def Iq:Rep Li:=.flat 11 (fun x=> [iV x.Has,iV x.Attrs,iV x.Value.Kind,iV x.Value.N,.string x.Value.S,iV x.Get.Kind,iV x.Get.N,.string x.Get.S,iV x.Set.Kind,iV x.Set.N,.string x.Set.S]) (fun _=>rfl) (fun _=>rfl)
structure K7 where
 Kind:Int
 N:Int
 K:Lj
 D:Li
 V:Lf
 deriving DecidableEq,Inhabited
def qC:Rep K7:=.flat 19 (fun x=> [iV x.Kind,iV x.N,iV x.K.Kind,iV x.K.N,.string x.K.S,iV x.D.Has,iV x.D.Attrs,iV x.D.Value.Kind,iV x.D.Value.N,.string x.D.Value.S,iV x.D.Get.Kind,iV x.D.Get.N,.string x.D.Get.S,iV x.D.Set.Kind,iV x.D.Set.N,.string x.D.Set.S,iV x.V.Kind,iV x.V.N,.string x.V.S]) (fun _=>rfl) (fun _=>rfl)
structure Lg where
 Way:Int
 Steps:Int
 Calls:Int
 Made:Int
 Young:Int
 Full:Int
 Sites:Int
 deriving DecidableEq,Inhabited
def Jp:Rep Lg:=.flat 7 (fun x=> [iV x.Way,iV x.Steps,iV x.Calls,iV x.Made,iV x.Young,iV x.Full,iV x.Sites]) (fun _=>rfl) (fun _=>rfl)
structure Lc where
 at_:(List (Int×Bool))
 deriving DecidableEq,Inhabited
structure La where
 Kind:Int
 Shape:Int
 Flags:Int
 Age:Int
 Slots:(List Lf)
 More:(List Lf)
 deriving DecidableEq,Inhabited
def qB:Rep La where
 sz:=6
 rel S w vs x:= ∃A4 n4 c4 A5 n5 c5,vs=[iV x.Kind,iV x.Shape,iV x.Flags,iV x.Age,U A4 n4 c4,U A5 n5 c5]∧SlR bS S w (U A4 n4 c4) x.Slots∧SlR bS S w (U A5 n5 c5) x.More
 loc:=fun h ⟨_,_,_,_,_,_,e,h4,h5⟩=>⟨_,_,_,_,_,_,e,h4.loc h,h5.loc h⟩
 mono:=fun h ⟨_,_,_,_,_,_,e,h4,h5⟩=>⟨_,_,_,_,_,_,e,h4.mono h,h5.mono h⟩
 len:=fun ⟨_,_,_,_,_,_,e,_⟩=>by rw [e];rfl
 one:=fun ⟨_,_,_,_,_,_,e,_⟩=>by rw [e];rfl
theorem vZ (x:La):FT qB x fun vs cs=> ∃A4 n4 c4 A5 n5 c5,vs=[iV x.Kind,iV x.Shape,iV x.Flags,iV x.Age,U A4 n4 c4,U A5 n5 c5]∧cs=[kS bS (U A4 n4 c4) x.Slots,kS bS (U A5 n5 c5) x.More]:=fun S w vs ⟨_,_,_,_,_,_,e,h4,h5⟩=>⟨_,⟨_,_,_,_,_,_,e,rfl⟩,hJ h4 (hJ h5 (ai))⟩
structure K8 where
 Young:(List La)
 Old:(List La)
 deriving DecidableEq,Inhabited
def Jo:Rep K8 where
 sz:=2
 rel S w vs x:= ∃A0 n0 c0 A1 n1 c1,vs=[U A0 n0 c0,U A1 n1 c1]∧SlR qB S w (U A0 n0 c0) x.Young∧SlR qB S w (U A1 n1 c1) x.Old
 loc:=fun h ⟨_,_,_,_,_,_,e,h0,h1⟩=>⟨_,_,_,_,_,_,e,h0.loc h,h1.loc h⟩
 mono:=fun h ⟨_,_,_,_,_,_,e,h0,h1⟩=>⟨_,_,_,_,_,_,e,h0.mono h,h1.mono h⟩
 len:=fun ⟨_,_,_,_,_,_,e,_⟩=>by rw [e];rfl
 one:=fun ⟨_,_,_,_,_,_,e,_⟩=>by rw [e];rfl
structure K1 where
 m_:K8
 roots_:(List Lf)
 pending_:(List Lf)
 set_:Lc
 deriving DecidableEq,Inhabited
structure Lh where
 Up:Int
 Key:Lj
 Attrs:Int
 Len:Int
 deriving DecidableEq,Inhabited
def rj:Rep Lh:=.flat 6 (fun x=> [iV x.Up,iV x.Key.Kind,iV x.Key.N,.string x.Key.S,iV x.Attrs,iV x.Len]) (fun _=>rfl) (fun _=>rfl)
structure Lb where
 up_:Int
 key_:Lj
 attrs_:Int
 deriving DecidableEq,Inhabited
def JP:Rep Lb:=.flat 5 (fun x=> [iV x.up_,iV x.key_.Kind,iV x.key_.N,.string x.key_.S,iV x.attrs_]) (fun _=>rfl) (fun _=>rfl)
structure K9 where
 shapes_:(List Lh)
 next_:(List (Lb×Int))
 deriving DecidableEq,Inhabited
structure K5 where
 steps_:Int
 made_:Int
 calls_:Int
 deriving DecidableEq,Inhabited
def JI:Rep K5:=.flat 3 (fun x=> [iV x.steps_,iV x.made_,iV x.calls_]) (fun _=>rfl) (fun _=>rfl)
structure Ld where
 Kind:Int
 Key:Lj
 S:ByteArray
 deriving DecidableEq,Inhabited
def CH:Rep Ld:=.flat 5 (fun x=> [iV x.Kind,iV x.Key.Kind,iV x.Key.N,.string x.Key.S,.string x.S]) (fun _=>rfl) (fun _=>rfl)
structure K2 where
 spent_:K5
 config_:Lg
 host_:Unit
 heap_:K1
 shapes_:K9
 symbols_:(List ByteArray)
 epoch_:Int
 serial_:Int
 sleepers_:Int
 events_:(List Ld)
 out_:(List ByteArray)
 deriving DecidableEq,Inhabited
structure K6 where
 Cell:La
 w_:K2
 at_:Lf
 deriving DecidableEq,Inhabited
structure K4 where
 Key:Lj
 Attrs:Int
 Value:Lf
 Get:Lf
 Set:Lf
 deriving DecidableEq,Inhabited
def mB:Rep K4:=.flat 13 (fun x=> [iV x.Key.Kind,iV x.Key.N,.string x.Key.S,iV x.Attrs,iV x.Value.Kind,iV x.Value.N,.string x.Value.S,iV x.Get.Kind,iV x.Get.N,.string x.Get.S,iV x.Set.Kind,iV x.Set.N,.string x.Set.S]) (fun _=>rfl) (fun _=>rfl)
abbrev bh (A:Option Addr)(n c:Nat):=dn bS 30 (.slice A n c)
abbrev bw (A:Option Addr)(n c:Nat):=kS Gn (.slice A n c)
abbrev bL (A:Option Addr)(n c:Nat):=dn qB 138 (.slice A n c)
abbrev dK (A:Option Addr)(n c:Nat):=kS bS (.slice A n c)
abbrev dr (A:Option Addr)(n c:Nat):=kS CH (.slice A n c)
abbrev d6 (A:Option Addr)(n c:Nat):=dn rj 201 (.slice A n c)
abbrev jh (A:Option Addr)(n c:Nat):=dn jP 24 (.slice A n c)
abbrev qm (A:Option Addr)(n c:Nat):=kS qB (.slice A n c)
abbrev tN (A:Option Addr)(n c:Nat):=kS rj (.slice A n c)
abbrev AW (x:Lg):Value:=.agg #[iV x.Way,iV x.Steps,iV x.Calls,iV x.Made,iV x.Young,iV x.Full,iV x.Sites]
abbrev fV (x:Li):Value:=.agg #[iV x.Has,iV x.Attrs,iV x.Value.Kind,iV x.Value.N,.string x.Value.S,iV x.Get.Kind,iV x.Get.N,.string x.Get.S,iV x.Set.Kind,iV x.Set.N,.string x.Set.S]
abbrev gk (x:Lj):Value:=.agg #[iV x.Kind,iV x.N,.string x.S]
abbrev cU (x:K4):Value:=.agg #[iV x.Key.Kind,iV x.Key.N,.string x.Key.S,iV x.Attrs,iV x.Value.Kind,iV x.Value.N,.string x.Value.S,iV x.Get.Kind,iV x.Get.N,.string x.Get.S,iV x.Set.Kind,iV x.Set.N,.string x.Set.S]
abbrev zp (x:Lh):Value:=.agg #[iV x.Up,iV x.Key.Kind,iV x.Key.N,.string x.Key.S,iV x.Attrs,iV x.Len]
abbrev E8 (x:Lb):Value:=.agg #[iV x.up_,iV x.key_.Kind,iV x.key_.N,.string x.key_.S,iV x.attrs_]
abbrev bQ (x:Lf):Value:=.agg #[iV x.Kind,iV x.N,.string x.S]
abbrev rW (x:K7):List Value:=[iV x.Kind,iV x.N,iV x.K.Kind,iV x.K.N,.string x.K.S,iV x.D.Has,iV x.D.Attrs,iV x.D.Value.Kind,iV x.D.Value.N,.string x.D.Value.S,iV x.D.Get.Kind,iV x.D.Get.N,.string x.D.Get.S,iV x.D.Set.Kind,iV x.D.Set.N,.string x.D.Set.S,iV x.V.Kind,iV x.V.N,.string x.V.S]
abbrev AP (x:Lg):List Value:=[iV x.Way,iV x.Steps,iV x.Calls,iV x.Made,iV x.Young,iV x.Full,iV x.Sites]
abbrev bK (x:Li):List Value:=[iV x.Has,iV x.Attrs,iV x.Value.Kind,iV x.Value.N,.string x.Value.S,iV x.Get.Kind,iV x.Get.N,.string x.Get.S,iV x.Set.Kind,iV x.Set.N,.string x.Set.S]
abbrev cn (x:Lj):List Value:=[iV x.Kind,iV x.N,.string x.S]
abbrev bm (x:K4):List Value:=[iV x.Key.Kind,iV x.Key.N,.string x.Key.S,iV x.Attrs,iV x.Value.Kind,iV x.Value.N,.string x.Value.S,iV x.Get.Kind,iV x.Get.N,.string x.Get.S,iV x.Set.Kind,iV x.Set.N,.string x.Set.S]
abbrev eJ (x:Lh):List Value:=[iV x.Up,iV x.Key.Kind,iV x.Key.N,.string x.Key.S,iV x.Attrs,iV x.Len]
abbrev aE (x:Lf):List Value:=[iV x.Kind,iV x.N,.string x.S]
abbrev fE (x:K2)(b d:Nat)(A:Option Addr)(n c:Nat)(A2:Option Addr)(n2 c2:Nat)(A3:Option Addr)(n3 c3:Nat):List Value:=[iV x.spent_.steps_,iV x.spent_.made_,iV x.spent_.calls_,iV x.config_.Way,iV x.config_.Steps,iV x.config_.Calls,iV x.config_.Made,iV x.config_.Young,iV x.config_.Full,iV x.config_.Sites,.nilIface,pV b 0,pV d 0,.slice A n c,iV x.epoch_,iV x.serial_,iV x.sleepers_,U A2 n2 c2,U A3 n3 c3]
theorem I5:ax Tryz.prog 16:=⟨Tryz.f16,Tryz.func16,rfl,rfl⟩
theorem Fz:ax Tryz.prog 21:=⟨Tryz.f21,Tryz.func21,rfl,rfl⟩
theorem I3:ax Tryz.prog 22:=⟨Tryz.f22,Tryz.func22,rfl,rfl⟩
theorem Fy:ax Tryz.prog 23:=⟨Tryz.f23,Tryz.func23,rfl,rfl⟩
theorem Fw:ax Tryz.prog 24:=⟨Tryz.f24,Tryz.func24,rfl,rfl⟩
theorem Cq:ax Tryz.prog 25:=⟨Tryz.f25,Tryz.func25,rfl,rfl⟩
theorem Cp:ax Tryz.prog 26:=⟨Tryz.f26,Tryz.func26,rfl,rfl⟩
theorem Co:ax Tryz.prog 28:=⟨Tryz.f28,Tryz.func28,rfl,rfl⟩
theorem Cn:ax Tryz.prog 30:=⟨Tryz.f30,Tryz.func30,rfl,rfl⟩
theorem I2:ax Tryz.prog 31:=⟨Tryz.f31,Tryz.func31,rfl,rfl⟩
theorem Cm:ax Tryz.prog 32:=⟨Tryz.f32,Tryz.func32,rfl,rfl⟩
theorem oX:ax Tryz.prog 34:=⟨Tryz.f34,Tryz.func34,rfl,rfl⟩
theorem I1:ax Tryz.prog 35:=⟨Tryz.f35,Tryz.func35,rfl,rfl⟩
theorem Cl:ax Tryz.prog 36:=⟨Tryz.f36,Tryz.func36,rfl,rfl⟩
theorem I0:ax Tryz.prog 37:=⟨Tryz.f37,Tryz.func37,rfl,rfl⟩
theorem zH:ax Tryz.prog 38:=⟨Tryz.f38,Tryz.func38,rfl,rfl⟩
theorem Ck:ax Tryz.prog 39:=⟨Tryz.f39,Tryz.func39,rfl,rfl⟩
theorem Cj:ax Tryz.prog 40:=⟨Tryz.f40,Tryz.func40,rfl,rfl⟩
theorem IZ:ax Tryz.prog 41:=⟨Tryz.f41,Tryz.func41,rfl,rfl⟩
theorem Fv:ax Tryz.prog 59:=⟨Tryz.f59,Tryz.func59,rfl,rfl⟩
theorem IY:ax Tryz.prog 60:=⟨Tryz.f60,Tryz.func60,rfl,rfl⟩
theorem IX:ax Tryz.prog 66:=⟨Tryz.f66,Tryz.func66,rfl,rfl⟩
theorem IW:ax Tryz.prog 78:=⟨Tryz.f78,Tryz.func78,rfl,rfl⟩
theorem jU:ax Tryz.prog 84:=⟨Tryz.f84,Tryz.func84,rfl,rfl⟩
theorem IV:ax Tryz.prog 85:=⟨Tryz.f85,Tryz.func85,rfl,rfl⟩
theorem IU:ax Tryz.prog 86:=⟨Tryz.f86,Tryz.func86,rfl,rfl⟩
theorem IT:ax Tryz.prog 87:=⟨Tryz.f87,Tryz.func87,rfl,rfl⟩
theorem t4:ax Tryz.prog 88:=⟨Tryz.f88,Tryz.func88,rfl,rfl⟩
theorem Fu:ax Tryz.prog 89:=⟨Tryz.f89,Tryz.func89,rfl,rfl⟩
theorem wT:ax Tryz.prog 90:=⟨Tryz.f90,Tryz.func90,rfl,rfl⟩
theorem zG:ax Tryz.prog 91:=⟨Tryz.f91,Tryz.func91,rfl,rfl⟩
theorem Ci:ax Tryz.prog 92:=⟨Tryz.f92,Tryz.func92,rfl,rfl⟩
theorem wS:ax Tryz.prog 93:=⟨Tryz.f93,Tryz.func93,rfl,rfl⟩
theorem Ft:ax Tryz.prog 94:=⟨Tryz.f94,Tryz.func94,rfl,rfl⟩
theorem zF:ax Tryz.prog 95:=⟨Tryz.f95,Tryz.func95,rfl,rfl⟩
theorem pM:ax Tryz.prog 96:=⟨Tryz.f96,Tryz.func96,rfl,rfl⟩
theorem wR:ax Tryz.prog 97:=⟨Tryz.f97,Tryz.func97,rfl,rfl⟩
theorem Fs:ax Tryz.prog 98:=⟨Tryz.f98,Tryz.func98,rfl,rfl⟩
theorem t3:ax Tryz.prog 99:=⟨Tryz.f99,Tryz.func99,rfl,rfl⟩
theorem Dx:ax Tryz.prog 100:=⟨Tryz.f100,Tryz.func100,rfl,rfl⟩
theorem HM:ax Tryz.prog 101:=⟨Tryz.f101,Tryz.func101,rfl,rfl⟩
theorem HL:ax Tryz.prog 102:=⟨Tryz.f102,Tryz.func102,rfl,rfl⟩
theorem HK:ax Tryz.prog 103:=⟨Tryz.f103,Tryz.func103,rfl,rfl⟩
theorem HJ:ax Tryz.prog 104:=⟨Tryz.f104,Tryz.func104,rfl,rfl⟩
theorem vz:ax Tryz.prog 105:=⟨Tryz.f105,Tryz.func105,rfl,rfl⟩
theorem Dw:ax Tryz.prog 106:=⟨Tryz.f106,Tryz.func106,rfl,rfl⟩
theorem np:ax Tryz.prog 107:=⟨Tryz.f107,Tryz.func107,rfl,rfl⟩
theorem HI:ax Tryz.prog 108:=⟨Tryz.f108,Tryz.func108,rfl,rfl⟩
theorem HH:ax Tryz.prog 109:=⟨Tryz.f109,Tryz.func109,rfl,rfl⟩
theorem Dv:ax Tryz.prog 110:=⟨Tryz.f110,Tryz.func110,rfl,rfl⟩
theorem HG:ax Tryz.prog 111:=⟨Tryz.f111,Tryz.func111,rfl,rfl⟩
theorem HF:ax Tryz.prog 112:=⟨Tryz.f112,Tryz.func112,rfl,rfl⟩
theorem HE:ax Tryz.prog 113:=⟨Tryz.f113,Tryz.func113,rfl,rfl⟩
theorem vy:ax Tryz.prog 114:=⟨Tryz.f114,Tryz.func114,rfl,rfl⟩
theorem me:ax Tryz.prog 115:=⟨Tryz.f115,Tryz.func115,rfl,rfl⟩
theorem Du:ax Tryz.prog 116:=⟨Tryz.f116,Tryz.func116,rfl,rfl⟩
theorem vv:ax Tryz.prog 117:=⟨Tryz.f117,Tryz.func117,rfl,rfl⟩
theorem rz:ax Tryz.prog 118:=⟨Tryz.f118,Tryz.func118,rfl,rfl⟩
theorem HD:ax Tryz.prog 119:=⟨Tryz.f119,Tryz.func119,rfl,rfl⟩
theorem HC:ax Tryz.prog 120:=⟨Tryz.f120,Tryz.func120,rfl,rfl⟩
theorem zY:ax Tryz.prog 121:=⟨Tryz.f121,Tryz.func121,rfl,rfl⟩
theorem zX:ax Tryz.prog 122:=⟨Tryz.f122,Tryz.func122,rfl,rfl⟩
theorem Dt:ax Tryz.prog 123:=⟨Tryz.f123,Tryz.func123,rfl,rfl⟩
theorem Dr:ax Tryz.prog 124:=⟨Tryz.f124,Tryz.func124,rfl,rfl⟩
theorem HB:ax Tryz.prog 128:=⟨Tryz.f128,Tryz.func128,rfl,rfl⟩
theorem HA:ax Tryz.prog 135:=⟨Tryz.f135,Tryz.func135,rfl,rfl⟩
theorem Hz:ax Tryz.prog 144:=⟨Tryz.f144,Tryz.func144,rfl,rfl⟩
theorem vu:ax Tryz.prog 146:=⟨Tryz.f146,Tryz.func146,rfl,rfl⟩
theorem pO:ax Tryz.prog 147:=⟨Tryz.f147,Tryz.func147,rfl,rfl⟩
theorem Hy:ax Tryz.prog 148:=⟨Tryz.f148,Tryz.func148,rfl,rfl⟩
theorem ry:ax Tryz.prog 149:=⟨Tryz.f149,Tryz.func149,rfl,rfl⟩
theorem zW:ax Tryz.prog 150:=⟨Tryz.f150,Tryz.func150,rfl,rfl⟩
theorem Hx:ax Tryz.prog 151:=⟨Tryz.f151,Tryz.func151,rfl,rfl⟩
theorem fm:ax Tryz.prog 152:=⟨Tryz.f152,Tryz.func152,rfl,rfl⟩
theorem Dq:ax Tryz.prog 153:=⟨Tryz.f153,Tryz.func153,rfl,rfl⟩
theorem Dp:ax Tryz.prog 154:=⟨Tryz.f154,Tryz.func154,rfl,rfl⟩
theorem Do:ax Tryz.prog 155:=⟨Tryz.f155,Tryz.func155,rfl,rfl⟩
theorem Dn:ax Tryz.prog 156:=⟨Tryz.f156,Tryz.func156,rfl,rfl⟩
theorem Hw:ax Tryz.prog 157:=⟨Tryz.f157,Tryz.func157,rfl,rfl⟩
theorem Hv:ax Tryz.prog 158:=⟨Tryz.f158,Tryz.func158,rfl,rfl⟩
theorem Dm:ax Tryz.prog 159:=⟨Tryz.f159,Tryz.func159,rfl,rfl⟩
theorem Hu:ax Tryz.prog 160:=⟨Tryz.f160,Tryz.func160,rfl,rfl⟩
theorem vt:ax Tryz.prog 161:=⟨Tryz.f161,Tryz.func161,rfl,rfl⟩
theorem zV:ax Tryz.prog 162:=⟨Tryz.f162,Tryz.func162,rfl,rfl⟩
theorem Dl:ax Tryz.prog 163:=⟨Tryz.f163,Tryz.func163,rfl,rfl⟩
theorem vq:ax Tryz.prog 164:=⟨Tryz.f164,Tryz.func164,rfl,rfl⟩
theorem zT:ax Tryz.prog 165:=⟨Tryz.f165,Tryz.func165,rfl,rfl⟩
theorem zS:ax Tryz.prog 166:=⟨Tryz.f166,Tryz.func166,rfl,rfl⟩
theorem Dk:ax Tryz.prog 167:=⟨Tryz.f167,Tryz.func167,rfl,rfl⟩
theorem vm:ax Tryz.prog 168:=⟨Tryz.f168,Tryz.func168,rfl,rfl⟩
theorem Ht:ax Tryz.prog 169:=⟨Tryz.f169,Tryz.func169,rfl,rfl⟩
theorem Hs:ax Tryz.prog 170:=⟨Tryz.f170,Tryz.func170,rfl,rfl⟩
theorem Hr:ax Tryz.prog 171:=⟨Tryz.f171,Tryz.func171,rfl,rfl⟩
theorem Dj:ax Tryz.prog 172:=⟨Tryz.f172,Tryz.func172,rfl,rfl⟩
theorem zQ:ax Tryz.prog 173:=⟨Tryz.f173,Tryz.func173,rfl,rfl⟩
theorem Hq:ax Tryz.prog 174:=⟨Tryz.f174,Tryz.func174,rfl,rfl⟩
theorem zP:ax Tryz.prog 175:=⟨Tryz.f175,Tryz.func175,rfl,rfl⟩
theorem Hp:ax Tryz.prog 176:=⟨Tryz.f176,Tryz.func176,rfl,rfl⟩
theorem Ho:ax Tryz.prog 202:=⟨Tryz.f202,Tryz.func202,rfl,rfl⟩
theorem Di:ax Tryz.prog 203:=⟨Tryz.f203,Tryz.func203,rfl,rfl⟩
theorem zN:ax Tryz.prog 204:=⟨Tryz.f204,Tryz.func204,rfl,rfl⟩
theorem pN:ax Tryz.prog 205:=⟨Tryz.f205,Tryz.func205,rfl,rfl⟩
theorem Hm:ax Tryz.prog 206:=⟨Tryz.f206,Tryz.func206,rfl,rfl⟩
theorem Hl:ax Tryz.prog 207:=⟨Tryz.f207,Tryz.func207,rfl,rfl⟩
theorem Dh:ax Tryz.prog 208:=⟨Tryz.f208,Tryz.func208,rfl,rfl⟩
theorem zM:ax Tryz.prog 209:=⟨Tryz.f209,Tryz.func209,rfl,rfl⟩
theorem rx:ax Tryz.prog 210:=⟨Tryz.f210,Tryz.func210,rfl,rfl⟩
theorem vl:ax Tryz.prog 211:=⟨Tryz.f211,Tryz.func211,rfl,rfl⟩
theorem zL:ax Tryz.prog 212:=⟨Tryz.f212,Tryz.func212,rfl,rfl⟩
theorem Hk:ax Tryz.prog 213:=⟨Tryz.f213,Tryz.func213,rfl,rfl⟩
theorem zK:ax Tryz.prog 214:=⟨Tryz.f214,Tryz.func214,rfl,rfl⟩
theorem Hj:ax Tryz.prog 215:=⟨Tryz.f215,Tryz.func215,rfl,rfl⟩
theorem Dg:ax Tryz.prog 225:=⟨Tryz.f225,Tryz.func225,rfl,rfl⟩
theorem Hi:ax Tryz.prog 226:=⟨Tryz.f226,Tryz.func226,rfl,rfl⟩
theorem Hh:ax Tryz.prog 227:=⟨Tryz.f227,Tryz.func227,rfl,rfl⟩
theorem Hg:ax Tryz.prog 228:=⟨Tryz.f228,Tryz.func228,rfl,rfl⟩
theorem Df:ax Tryz.prog 229:=⟨Tryz.f229,Tryz.func229,rfl,rfl⟩
theorem zJ:ax Tryz.prog 230:=⟨Tryz.f230,Tryz.func230,rfl,rfl⟩
theorem oI:ax Tryz.prog 231:=⟨Tryz.f231,Tryz.func231,rfl,rfl⟩
theorem De:ax Tryz.prog 232:=⟨Tryz.f232,Tryz.func232,rfl,rfl⟩
theorem Hf:ax Tryz.prog 233:=⟨Tryz.f233,Tryz.func233,rfl,rfl⟩
theorem He:ax Tryz.prog 234:=⟨Tryz.f234,Tryz.func234,rfl,rfl⟩
theorem Hd:ax Tryz.prog 235:=⟨Tryz.f235,Tryz.func235,rfl,rfl⟩
theorem Dd:ax Tryz.prog 238:=⟨Tryz.f238,Tryz.func238,rfl,rfl⟩
theorem Hc:ax Tryz.prog 239:=⟨Tryz.f239,Tryz.func239,rfl,rfl⟩
theorem rv:ax Tryz.prog 240:=⟨Tryz.f240,Tryz.func240,rfl,rfl⟩
theorem ru:ax Tryz.prog 241:=⟨Tryz.f241,Tryz.func241,rfl,rfl⟩
theorem Dc:ax Tryz.prog 242:=⟨Tryz.f242,Tryz.func242,rfl,rfl⟩
theorem Hb:ax Tryz.prog 243:=⟨Tryz.f243,Tryz.func243,rfl,rfl⟩
theorem Ha:ax Tryz.prog 244:=⟨Tryz.f244,Tryz.func244,rfl,rfl⟩
theorem Db:ax Tryz.prog 245:=⟨Tryz.f245,Tryz.func245,rfl,rfl⟩
theorem G9:ax Tryz.prog 246:=⟨Tryz.f246,Tryz.func246,rfl,rfl⟩
theorem Da:ax Tryz.prog 247:=⟨Tryz.f247,Tryz.func247,rfl,rfl⟩
theorem G8:ax Tryz.prog 248:=⟨Tryz.f248,Tryz.func248,rfl,rfl⟩
theorem G7:ax Tryz.prog 253:=⟨Tryz.f253,Tryz.func253,rfl,rfl⟩
theorem zI:ax Tryz.prog 254:=⟨Tryz.f254,Tryz.func254,rfl,rfl⟩
theorem G6:ax Tryz.prog 255:=⟨Tryz.f255,Tryz.func255,rfl,rfl⟩
theorem C9:ax Tryz.prog 256:=⟨Tryz.f256,Tryz.func256,rfl,rfl⟩
theorem G5:ax Tryz.prog 262:=⟨Tryz.f262,Tryz.func262,rfl,rfl⟩
theorem G4:ax Tryz.prog 263:=⟨Tryz.f263,Tryz.func263,rfl,rfl⟩
theorem CZ (b o:Nat)(w:World):(Instr.fieldAt 24 (pV b o) 0).run Tryz.prog w=.ok (pV b o) w:=by kernel_rfl
theorem CY (b o:Nat)(w:World):(Instr.fieldAt 24 (pV b o) 1).run Tryz.prog w=.ok (.pointer (some ⟨b,o+1,none⟩)) w:=by kernel_rfl
theorem GV (b o:Nat)(w:World):(Instr.fieldAt 24 (pV b o) 2).run Tryz.prog w=.ok (.pointer (some ⟨b,o+2,none⟩)) w:=by kernel_rfl
theorem md (b o:Nat)(w:World):(Instr.fieldAt 30 (pV b o) 0).run Tryz.prog w=.ok (pV b o) w:=by kernel_rfl
theorem vd (b o:Nat)(w:World):(Instr.fieldAt 30 (pV b o) 1).run Tryz.prog w=.ok (.pointer (some ⟨b,o+1,none⟩)) w:=by kernel_rfl
theorem GU (b o:Nat)(w:World):(Instr.fieldAt 30 (pV b o) 2).run Tryz.prog w=.ok (.pointer (some ⟨b,o+2,none⟩)) w:=by kernel_rfl
theorem CX (b o:Nat)(w:World):(Instr.fieldAt 32 (pV b o) 0).run Tryz.prog w=.ok (pV b o) w:=by kernel_rfl
theorem CW (b o:Nat)(w:World):(Instr.fieldAt 32 (pV b o) 1).run Tryz.prog w=.ok (.pointer (some ⟨b,o+1,none⟩)) w:=by kernel_rfl
theorem GT (b o:Nat)(w:World):(Instr.fieldAt 32 (pV b o) 2).run Tryz.prog w=.ok (.pointer (some ⟨b,o+2,none⟩)) w:=by kernel_rfl
theorem CV (b o:Nat)(w:World):(Instr.fieldAt 32 (pV b o) 3).run Tryz.prog w=.ok (.pointer (some ⟨b,o+5,none⟩)) w:=by kernel_rfl
theorem CU (b o:Nat)(w:World):(Instr.fieldAt 32 (pV b o) 4).run Tryz.prog w=.ok (.pointer (some ⟨b,o+8,none⟩)) w:=by kernel_rfl
theorem zs (b o:Nat)(w:World):(Instr.fieldAt 42 (pV b o) 0).run Tryz.prog w=.ok (pV b o) w:=by kernel_rfl
theorem zr (b o:Nat)(w:World):(Instr.fieldAt 42 (pV b o) 1).run Tryz.prog w=.ok (.pointer (some ⟨b,o+3,none⟩)) w:=by kernel_rfl
theorem GS (b o:Nat)(w:World):(Instr.fieldAt 42 (pV b o) 2).run Tryz.prog w=.ok (.pointer (some ⟨b,o+4,none⟩)) w:=by kernel_rfl
theorem vc (b o:Nat)(w:World):(Instr.fieldAt 42 (pV b o) 3).run Tryz.prog w=.ok (.pointer (some ⟨b,o+7,none⟩)) w:=by kernel_rfl
theorem vb (b o:Nat)(w:World):(Instr.fieldAt 42 (pV b o) 4).run Tryz.prog w=.ok (.pointer (some ⟨b,o+10,none⟩)) w:=by kernel_rfl
theorem GR (b o:Nat)(w:World):(Instr.fieldAt 52 (pV b o) 0).run Tryz.prog w=.ok (pV b o) w:=by kernel_rfl
theorem GQ (b o:Nat)(w:World):(Instr.fieldAt 52 (pV b o) 1).run Tryz.prog w=.ok (.pointer (some ⟨b,o+1,none⟩)) w:=by kernel_rfl
theorem rq (b o:Nat)(w:World):(Instr.fieldAt 52 (pV b o) 2).run Tryz.prog w=.ok (.pointer (some ⟨b,o+2,none⟩)) w:=by kernel_rfl
theorem CT (b o:Nat)(w:World):(Instr.fieldAt 52 (pV b o) 3).run Tryz.prog w=.ok (.pointer (some ⟨b,o+5,none⟩)) w:=by kernel_rfl
theorem GP (b o:Nat)(w:World):(Instr.fieldAt 52 (pV b o) 4).run Tryz.prog w=.ok (.pointer (some ⟨b,o+16,none⟩)) w:=by kernel_rfl
theorem GO (b o:Nat)(w:World):(Instr.fieldAt 57 (pV b o) 0).run Tryz.prog w=.ok (pV b o) w:=by kernel_rfl
theorem GN (b o:Nat)(w:World):(Instr.fieldAt 57 (pV b o) 1).run Tryz.prog w=.ok (.pointer (some ⟨b,o+1,none⟩)) w:=by kernel_rfl
theorem GM (b o:Nat)(w:World):(Instr.fieldAt 57 (pV b o) 2).run Tryz.prog w=.ok (.pointer (some ⟨b,o+2,none⟩)) w:=by kernel_rfl
theorem CS (b o:Nat)(w:World):(Instr.fieldAt 57 (pV b o) 3).run Tryz.prog w=.ok (.pointer (some ⟨b,o+3,none⟩)) w:=by kernel_rfl
theorem GL (b o:Nat)(w:World):(Instr.fieldAt 57 (pV b o) 4).run Tryz.prog w=.ok (.pointer (some ⟨b,o+4,none⟩)) w:=by kernel_rfl
theorem GK (b o:Nat)(w:World):(Instr.fieldAt 57 (pV b o) 5).run Tryz.prog w=.ok (.pointer (some ⟨b,o+5,none⟩)) w:=by kernel_rfl
theorem GJ (b o:Nat)(w:World):(Instr.fieldAt 57 (pV b o) 6).run Tryz.prog w=.ok (.pointer (some ⟨b,o+6,none⟩)) w:=by kernel_rfl
theorem Bd (b o:Nat)(w:World):(Instr.fieldAt 138 (pV b o) 0).run Tryz.prog w=.ok (pV b o) w:=by kernel_rfl
theorem mr (b o:Nat)(w:World):(Instr.fieldAt 138 (pV b o) 1).run Tryz.prog w=.ok (.pointer (some ⟨b,o+1,none⟩)) w:=by kernel_rfl
theorem Bc (b o:Nat)(w:World):(Instr.fieldAt 138 (pV b o) 2).run Tryz.prog w=.ok (.pointer (some ⟨b,o+2,none⟩)) w:=by kernel_rfl
theorem lq (b o:Nat)(w:World):(Instr.fieldAt 138 (pV b o) 3).run Tryz.prog w=.ok (.pointer (some ⟨b,o+3,none⟩)) w:=by kernel_rfl
theorem jv (b o:Nat)(w:World):(Instr.fieldAt 138 (pV b o) 4).run Tryz.prog w=.ok (.pointer (some ⟨b,o+4,none⟩)) w:=by kernel_rfl
theorem nR (b o:Nat)(w:World):(Instr.fieldAt 138 (pV b o) 5).run Tryz.prog w=.ok (.pointer (some ⟨b,o+5,none⟩)) w:=by kernel_rfl
theorem fA (b o:Nat)(w:World):(Instr.fieldAt 140 (pV b o) 0).run Tryz.prog w=.ok (pV b o) w:=by kernel_rfl
theorem nQ (b o:Nat)(w:World):(Instr.fieldAt 140 (pV b o) 1).run Tryz.prog w=.ok (.pointer (some ⟨b,o+6,none⟩)) w:=by kernel_rfl
theorem Bb (b o:Nat)(w:World):(Instr.fieldAt 140 (pV b o) 2).run Tryz.prog w=.ok (.pointer (some ⟨b,o+7,none⟩)) w:=by kernel_rfl
theorem Ba (b o:Nat)(w:World):(Instr.fieldAt 147 (pV b o) 1).run Tryz.prog w=.ok (.pointer (some ⟨b,o+1,none⟩)) w:=by kernel_rfl
theorem AZ (b o:Nat)(w:World):(Instr.fieldAt 151 (pV b o) 0).run Tryz.prog w=.ok (pV b o) w:=by kernel_rfl
theorem AY (b o:Nat)(w:World):(Instr.fieldAt 151 (pV b o) 1).run Tryz.prog w=.ok (.pointer (some ⟨b,o+3,none⟩)) w:=by kernel_rfl
theorem kf (b o:Nat)(w:World):(Instr.fieldAt 151 (pV b o) 3).run Tryz.prog w=.ok (.pointer (some ⟨b,o+11,none⟩)) w:=by kernel_rfl
theorem Fd (b o:Nat)(w:World):(Instr.fieldAt 151 (pV b o) 4).run Tryz.prog w=.ok (.pointer (some ⟨b,o+12,none⟩)) w:=by kernel_rfl
theorem Fb (b o:Nat)(w:World):(Instr.fieldAt 151 (pV b o) 6).run Tryz.prog w=.ok (.pointer (some ⟨b,o+14,none⟩)) w:=by kernel_rfl
theorem wA (b o:Nat)(w:World):(Instr.fieldAt 197 (pV b o) 0).run Tryz.prog w=.ok (pV b o) w:=by kernel_rfl
theorem Fa (b o:Nat)(w:World):(Instr.fieldAt 197 (pV b o) 1).run Tryz.prog w=.ok (.pointer (some ⟨b,o+1,none⟩)) w:=by kernel_rfl
theorem wz (b o:Nat)(w:World):(Instr.fieldAt 199 (pV b o) 0).run Tryz.prog w=.ok (pV b o) w:=by kernel_rfl
theorem wy (b o:Nat)(w:World):(Instr.fieldAt 199 (pV b o) 1).run Tryz.prog w=.ok (.pointer (some ⟨b,o+2,none⟩)) w:=by kernel_rfl
theorem qJ (b o:Nat)(w:World):(Instr.fieldAt 199 (pV b o) 3).run Tryz.prog w=.ok (.pointer (some ⟨b,o+4,none⟩)) w:=by kernel_rfl
theorem sZ (b o:Nat)(w:World):(Instr.fieldAt 201 (pV b o) 0).run Tryz.prog w=.ok (pV b o) w:=by kernel_rfl
theorem sY (b o:Nat)(w:World):(Instr.fieldAt 201 (pV b o) 1).run Tryz.prog w=.ok (.pointer (some ⟨b,o+1,none⟩)) w:=by kernel_rfl
theorem ph (b o:Nat)(w:World):(Instr.fieldAt 201 (pV b o) 2).run Tryz.prog w=.ok (.pointer (some ⟨b,o+4,none⟩)) w:=by kernel_rfl
theorem sX (b o:Nat)(w:World):(Instr.fieldAt 201 (pV b o) 3).run Tryz.prog w=.ok (.pointer (some ⟨b,o+5,none⟩)) w:=by kernel_rfl
theorem pf (b o:Nat)(w:World):(Instr.fieldAt 205 (pV b o) 0).run Tryz.prog w=.ok (pV b o) w:=by kernel_rfl
theorem wx (b o:Nat)(w:World):(Instr.fieldAt 205 (pV b o) 1).run Tryz.prog w=.ok (.pointer (some ⟨b,o+1,none⟩)) w:=by kernel_rfl
theorem E9 (b o:Nat)(w:World):(Instr.fieldAt 247 (pV b o) 0).run Tryz.prog w=.ok (pV b o) w:=by kernel_rfl
theorem dH:i3 Tryz.prog 3=true:=by kernel_rfl
theorem BN:i3 Tryz.prog 4=true:=by kernel_rfl
theorem JR:i3 Tryz.prog 9=true:=by kernel_rfl
theorem uq:i3 Tryz.prog 36=true:=by kernel_rfl
theorem gW:i3 Tryz.prog 38=true:=by kernel_rfl
theorem H5:i3 Tryz.prog 67=true:=by kernel_rfl
theorem lb:i3 Tryz.prog 142=true:=by kernel_rfl
theorem ES:i3 Tryz.prog 144=true:=by kernel_rfl
theorem tH:i3 Tryz.prog 193=true:=by kernel_rfl
theorem zd:i3 Tryz.prog 195=true:=by kernel_rfl
theorem nI:i3 Tryz.prog 202=true:=by kernel_rfl
theorem BO:i3 Tryz.prog 203=true:=by kernel_rfl
theorem Iw:i3 Tryz.prog 211=true:=by kernel_rfl
theorem Iv:i3 Tryz.prog 245=true:=by kernel_rfl
theorem bI:ql Tryz.prog 24 3=true:=by kernel_rfl
theorem aN:ql Tryz.prog 30 3=true:=by kernel_rfl
theorem df:ql Tryz.prog 32 11=true:=by kernel_rfl
theorem eM:ql Tryz.prog 42 13=true:=by kernel_rfl
theorem Ig:ql Tryz.prog 52 19=true:=by kernel_rfl
theorem If:ql Tryz.prog 57 7=true:=by kernel_rfl
theorem cb:ql Tryz.prog 138 6=true:=by kernel_rfl
theorem FO:ql Tryz.prog 197 2=true:=by kernel_rfl
theorem oZ:ql Tryz.prog 201 6=true:=by kernel_rfl
theorem il:fv Tryz.prog 3 1=true:=by kernel_rfl
theorem vG:fv Tryz.prog 4 1=true:=by kernel_rfl
theorem cY:fv Tryz.prog 24 3=true:=by kernel_rfl
theorem be:fv Tryz.prog 30 3=true:=by kernel_rfl
theorem vH:fv Tryz.prog 32 11=true:=by kernel_rfl
theorem nC:fv Tryz.prog 38 1=true:=by kernel_rfl
theorem dh:fv Tryz.prog 42 13=true:=by kernel_rfl
theorem yM:fv Tryz.prog 52 19=true:=by kernel_rfl
theorem BG:fv Tryz.prog 67 1=true:=by kernel_rfl
theorem dq:fv Tryz.prog 138 6=true:=by kernel_rfl
theorem Gh:fv Tryz.prog 195 1=true:=by kernel_rfl
theorem dJ:fv Tryz.prog 201 6=true:=by kernel_rfl
theorem Gg:fv Tryz.prog 202 1=true:=by kernel_rfl
theorem Gf:fv Tryz.prog 211 1=true:=by kernel_rfl
theorem Jh (w:World):(zeroValue 3).run Tryz.prog w=.ok (iV 0) w:=by kernel_rfl
theorem HY (w:World):(zeroValue 4).run Tryz.prog w=.ok (.bool false) w:=by kernel_rfl
theorem vB (w:World):(zeroValue 24).run Tryz.prog w=.ok (.agg #[iV 0,iV 0,.string ⟨#[]⟩]) w:=by kernel_rfl
theorem eA (w:World):(zeroValue 30).run Tryz.prog w=.ok (.agg #[iV 0,iV 0,.string ⟨#[]⟩]) w:=by kernel_rfl
theorem yE (w:World):(zeroValue 32).run Tryz.prog w=.ok (.agg #[iV 0,iV 0,iV 0,iV 0,.string ⟨#[]⟩,iV 0,iV 0,.string ⟨#[]⟩,iV 0,iV 0,.string ⟨#[]⟩]) w:=by kernel_rfl
theorem fq (w:World):(zeroValue 42).run Tryz.prog w=.ok (.agg #[iV 0,iV 0,.string ⟨#[]⟩,iV 0,iV 0,iV 0,.string ⟨#[]⟩,iV 0,iV 0,.string ⟨#[]⟩,iV 0,iV 0,.string ⟨#[]⟩]) w:=by kernel_rfl
theorem Er (w:World):(zeroValue 52).run Tryz.prog w=.ok (.agg #[iV 0,iV 0,iV 0,iV 0,.string ⟨#[]⟩,iV 0,iV 0,iV 0,iV 0,.string ⟨#[]⟩,iV 0,iV 0,.string ⟨#[]⟩,iV 0,iV 0,.string ⟨#[]⟩,iV 0,iV 0,.string ⟨#[]⟩]) w:=by kernel_rfl
theorem Io (w:World):(zeroValue 67).run Tryz.prog w=.ok (U none 0 0) w:=by kernel_rfl
theorem gC (w:World):(zeroValue 138).run Tryz.prog w=.ok (.agg #[iV 0,iV 0,iV 0,iV 0,U none 0 0,U none 0 0]) w:=by kernel_rfl
theorem pA (w:World):(zeroValue 201).run Tryz.prog w=.ok (.agg #[iV 0,iV 0,iV 0,.string ⟨#[]⟩,iV 0,iV 0]) w:=by kernel_rfl
theorem F3 (w:World):(zeroValue 211).run Tryz.prog w=.ok (U none 0 0) w:=by kernel_rfl
theorem D5 (x0_:Int)(x1_:Int)(x2_:Int)(x3_:Int)(x4_a:Option Addr)(x4_n x4_c:Nat)(x5_a:Option Addr)(x5_n x5_c:Nat)(w:World):(Instr.field 138 (.agg #[iV x0_,iV x1_,iV x2_,iV x3_,.slice x4_a x4_n x4_c,.slice x5_a x5_n x5_c]) 0).run Tryz.prog w=.ok (iV x0_) w:=by kernel_rfl
theorem wY (x0_:Int)(x1_:Int)(w:World):(Instr.build 24 #[(0,iV x0_),(1,iV x1_)]).run Tryz.prog w=.ok (.agg #[iV x0_,iV x1_,.string ⟨#[]⟩]) w:=by kernel_rfl
theorem wX (x0_:Int)(x2_:ByteArray)(w:World):(Instr.build 24 #[(0,iV x0_),(2,.string x2_)]).run Tryz.prog w=.ok (.agg #[iV x0_,iV 0,.string x2_]) w:=by kernel_rfl
theorem gu  (w:World):(Instr.build 30 #[]).run Tryz.prog w=.ok (.agg #[iV 0,iV 0,.string ⟨#[]⟩]) w:=by kernel_rfl
theorem wW (x0_:Int)(w:World):(Instr.build 30 #[(0,iV x0_)]).run Tryz.prog w=.ok (.agg #[iV x0_,iV 0,.string ⟨#[]⟩]) w:=by kernel_rfl
theorem lW (x0_:Int)(x1_:Int)(w:World):(Instr.build 30 #[(0,iV x0_),(1,iV x1_)]).run Tryz.prog w=.ok (.agg #[iV x0_,iV x1_,.string ⟨#[]⟩]) w:=by kernel_rfl
theorem tn (x0_:Int)(x1_:Int)(x2_0_:Int)(x2_1_:Int)(x2_2_:ByteArray)(w:World):(Instr.build 32 #[(0,iV x0_),(1,iV x1_),(2,.agg #[iV x2_0_,iV x2_1_,.string x2_2_])]).run Tryz.prog w=.ok (.agg #[iV x0_,iV x1_,iV x2_0_,iV x2_1_,.string x2_2_,iV 0,iV 0,.string ⟨#[]⟩,iV 0,iV 0,.string ⟨#[]⟩]) w:=by kernel_rfl
theorem wV (x0_:Int)(x1_:Int)(x3_0_:Int)(x3_1_:Int)(x3_2_:ByteArray)(x4_0_:Int)(x4_1_:Int)(x4_2_:ByteArray)(w:World):(Instr.build 32 #[(0,iV x0_),(1,iV x1_),(3,.agg #[iV x3_0_,iV x3_1_,.string x3_2_]),(4,.agg #[iV x4_0_,iV x4_1_,.string x4_2_])]).run Tryz.prog w=.ok (.agg #[iV x0_,iV x1_,iV 0,iV 0,.string ⟨#[]⟩,iV x3_0_,iV x3_1_,.string x3_2_,iV x4_0_,iV x4_1_,.string x4_2_]) w:=by kernel_rfl
theorem rA  (w:World):(Instr.build 42 #[]).run Tryz.prog w=.ok (.agg #[iV 0,iV 0,.string ⟨#[]⟩,iV 0,iV 0,iV 0,.string ⟨#[]⟩,iV 0,iV 0,.string ⟨#[]⟩,iV 0,iV 0,.string ⟨#[]⟩]) w:=by kernel_rfl
theorem FG (x0_0_:Int)(x0_1_:Int)(x0_2_:ByteArray)(w:World):(Instr.build 42 #[(0,.agg #[iV x0_0_,iV x0_1_,.string x0_2_])]).run Tryz.prog w=.ok (.agg #[iV x0_0_,iV x0_1_,.string x0_2_,iV 0,iV 0,iV 0,.string ⟨#[]⟩,iV 0,iV 0,.string ⟨#[]⟩,iV 0,iV 0,.string ⟨#[]⟩]) w:=by kernel_rfl
theorem Cr (x0_0_:Int)(x0_1_:Int)(x0_2_:ByteArray)(x1_:Int)(w:World):(Instr.build 42 #[(0,.agg #[iV x0_0_,iV x0_1_,.string x0_2_]),(1,iV x1_)]).run Tryz.prog w=.ok (.agg #[iV x0_0_,iV x0_1_,.string x0_2_,iV x1_,iV 0,iV 0,.string ⟨#[]⟩,iV 0,iV 0,.string ⟨#[]⟩,iV 0,iV 0,.string ⟨#[]⟩]) w:=by kernel_rfl
theorem pP (x0_0_:Int)(x0_1_:Int)(x0_2_:ByteArray)(x1_:Int)(x2_0_:Int)(x2_1_:Int)(x2_2_:ByteArray)(w:World):(Instr.build 42 #[(0,.agg #[iV x0_0_,iV x0_1_,.string x0_2_]),(1,iV x1_),(2,.agg #[iV x2_0_,iV x2_1_,.string x2_2_])]).run Tryz.prog w=.ok (.agg #[iV x0_0_,iV x0_1_,.string x0_2_,iV x1_,iV x2_0_,iV x2_1_,.string x2_2_,iV 0,iV 0,.string ⟨#[]⟩,iV 0,iV 0,.string ⟨#[]⟩]) w:=by kernel_rfl
theorem zZ (x1_:Int)(x2_:Int)(x3_:Int)(w:World):(Instr.build 57 #[(1,iV x1_),(2,iV x2_),(3,iV x3_)]).run Tryz.prog w=.ok (.agg #[iV 0,iV x1_,iV x2_,iV x3_,iV 0,iV 0,iV 0]) w:=by kernel_rfl
theorem wZ  (w:World):(Instr.build 138 #[]).run Tryz.prog w=.ok (.agg #[iV 0,iV 0,iV 0,iV 0,U none 0 0,U none 0 0]) w:=by kernel_rfl
theorem yy (x0_:Int)(w:World):(Instr.build 138 #[(0,iV x0_)]).run Tryz.prog w=.ok (.agg #[iV x0_,iV 0,iV 0,iV 0,U none 0 0,U none 0 0]) w:=by kernel_rfl
theorem xP (x0_:Int)(x2_:Int)(x4_a:Option Addr)(x4_n x4_c:Nat)(w:World):(Instr.build 138 #[(0,iV x0_),(2,iV x2_),(4,.slice x4_a x4_n x4_c)]).run Tryz.prog w=.ok (.agg #[iV x0_,iV 0,iV x2_,iV 0,.slice x4_a x4_n x4_c,U none 0 0]) w:=by kernel_rfl
theorem qd (x0_:Int)(x2_:Int)(x4_a:Option Addr)(x4_n x4_c:Nat)(x5_a:Option Addr)(x5_n x5_c:Nat)(w:World):(Instr.build 138 #[(0,iV x0_),(2,iV x2_),(4,.slice x4_a x4_n x4_c),(5,.slice x5_a x5_n x5_c)]).run Tryz.prog w=.ok (.agg #[iV x0_,iV 0,iV x2_,iV 0,.slice x4_a x4_n x4_c,.slice x5_a x5_n x5_c]) w:=by kernel_rfl
theorem Bp (x0_:Int)(x4_a:Option Addr)(x4_n x4_c:Nat)(w:World):(Instr.build 138 #[(0,iV x0_),(4,.slice x4_a x4_n x4_c)]).run Tryz.prog w=.ok (.agg #[iV x0_,iV 0,iV 0,iV 0,.slice x4_a x4_n x4_c,U none 0 0]) w:=by kernel_rfl
theorem xO (x0_0_:Int)(x0_1_:Int)(x0_2_:Int)(x0_3_:Int)(x0_4_a:Option Addr)(x0_4_n x0_4_c:Nat)(x0_5_a:Option Addr)(x0_5_n x0_5_c:Nat)(x1_:Option Addr)(x2_0_:Int)(x2_1_:Int)(x2_2_:ByteArray)(w:World):(Instr.build 140 #[(0,.agg #[iV x0_0_,iV x0_1_,iV x0_2_,iV x0_3_,.slice x0_4_a x0_4_n x0_4_c,.slice x0_5_a x0_5_n x0_5_c]),(1,.pointer x1_),(2,.agg #[iV x2_0_,iV x2_1_,.string x2_2_])]).run Tryz.prog w=.ok (.agg #[iV x0_0_,iV x0_1_,iV x0_2_,iV x0_3_,.slice x0_4_a x0_4_n x0_4_c,.slice x0_5_a x0_5_n x0_5_c,.pointer x1_,iV x2_0_,iV x2_1_,.string x2_2_]) w:=by kernel_rfl
theorem xM (x1_0_:Int)(x1_1_:Int)(x1_2_:Int)(x1_3_:Int)(x1_4_:Int)(x1_5_:Int)(x1_6_:Int)(x3_:Option Addr)(x4_:Option Addr)(w:World):(Instr.build 151 #[(1,.agg #[iV x1_0_,iV x1_1_,iV x1_2_,iV x1_3_,iV x1_4_,iV x1_5_,iV x1_6_]),(3,.pointer x3_),(4,.pointer x4_)]).run Tryz.prog w=.ok (.agg #[iV 0,iV 0,iV 0,iV x1_0_,iV x1_1_,iV x1_2_,iV x1_3_,iV x1_4_,iV x1_5_,iV x1_6_,.nilIface,.pointer x3_,.pointer x4_,U none 0 0,iV 0,iV 0,iV 0,U none 0 0,U none 0 0]) w:=by kernel_rfl
theorem Ei (x3_:Option Addr)(w:World):(Instr.build 199 #[(3,.pointer x3_)]).run Tryz.prog w=.ok (.agg #[U none 0 0,U none 0 0,U none 0 0,U none 0 0,.pointer x3_]) w:=by kernel_rfl
theorem FH  (w:World):(Instr.build 201 #[]).run Tryz.prog w=.ok (.agg #[iV 0,iV 0,iV 0,.string ⟨#[]⟩,iV 0,iV 0]) w:=by kernel_rfl
theorem Eh (x0_:Int)(w:World):(Instr.build 201 #[(0,iV x0_)]).run Tryz.prog w=.ok (.agg #[iV x0_,iV 0,iV 0,.string ⟨#[]⟩,iV 0,iV 0]) w:=by kernel_rfl
theorem uP (x0_:Int)(x1_0_:Int)(x1_1_:Int)(x1_2_:ByteArray)(x2_:Int)(x3_:Int)(w:World):(Instr.build 201 #[(0,iV x0_),(1,.agg #[iV x1_0_,iV x1_1_,.string x1_2_]),(2,iV x2_),(3,iV x3_)]).run Tryz.prog w=.ok (.agg #[iV x0_,iV x1_0_,iV x1_1_,.string x1_2_,iV x2_,iV x3_]) w:=by kernel_rfl
theorem Bo (x1_0_:Int)(x1_1_:Int)(x1_2_:ByteArray)(x2_:Int)(w:World):(Instr.build 201 #[(1,.agg #[iV x1_0_,iV x1_1_,.string x1_2_]),(2,iV x2_)]).run Tryz.prog w=.ok (.agg #[iV 0,iV x1_0_,iV x1_1_,.string x1_2_,iV x2_,iV 0]) w:=by kernel_rfl
theorem Bn (x0_a:Option Addr)(x0_n x0_c:Nat)(x1_:Option Nat)(w:World):(Instr.build 205 #[(0,.slice x0_a x0_n x0_c),(1,.map x1_)]).run Tryz.prog w=.ok (.agg #[.slice x0_a x0_n x0_c,.map x1_]) w:=by kernel_rfl
theorem Eg (x0_:Option Nat)(w:World):(Instr.build 247 #[(0,.map x0_)]).run Tryz.prog w=.ok (.agg #[.map x0_]) w:=by kernel_rfl
theorem r7 (x0_:Int)(x1_0_:Int)(x1_1_:Int)(x1_2_:ByteArray)(x2_:Int)(w:World):(Instr.build 257 #[(0,iV x0_),(1,.agg #[iV x1_0_,iV x1_1_,.string x1_2_]),(2,iV x2_)]).run Tryz.prog w=.ok (.agg #[iV x0_,iV x1_0_,iV x1_1_,.string x1_2_,iV x2_]) w:=by kernel_rfl
theorem FE  (w:World):(Instr.buildSlice 38 0 #[]).run Tryz.prog w=.ok (.slice (some ⟨w.heap.size,0,none⟩) 0 0) (w.alloc (.cells #[] 30)):=by kernel_rfl
theorem kl (x0_0_:Int)(x0_1_:Int)(x0_2_:ByteArray)(w:World):(Instr.buildSlice 38 1 #[(0,.agg #[iV x0_0_,iV x0_1_,.string x0_2_])]).run Tryz.prog w=.ok (.slice (some ⟨w.heap.size,0,none⟩) 1 1) (w.alloc (.cells #[iV x0_0_,iV x0_1_,.string x0_2_] 30)):=by kernel_rfl
theorem Bk (x0_0_:Int)(x0_1_:Int)(x0_2_:ByteArray)(x1_0_:Int)(x1_1_:Int)(x1_2_:ByteArray)(w:World):(Instr.buildSlice 38 2 #[(0,.agg #[iV x0_0_,iV x0_1_,.string x0_2_]),(1,.agg #[iV x1_0_,iV x1_1_,.string x1_2_])]).run Tryz.prog w=.ok (.slice (some ⟨w.heap.size,0,none⟩) 2 2) (w.alloc (.cells #[iV x0_0_,iV x0_1_,.string x0_2_,iV x1_0_,iV x1_1_,.string x1_2_] 30)):=by kernel_rfl
theorem wU (x0_0_:Int)(x0_1_:Int)(x0_2_:ByteArray)(x1_0_:Int)(x1_1_:Int)(x1_2_:ByteArray)(x2_0_:Int)(x2_1_:Int)(x2_2_:ByteArray)(w:World):(Instr.buildSlice 38 3 #[(0,.agg #[iV x0_0_,iV x0_1_,.string x0_2_]),(1,.agg #[iV x1_0_,iV x1_1_,.string x1_2_]),(2,.agg #[iV x2_0_,iV x2_1_,.string x2_2_])]).run Tryz.prog w=.ok (.slice (some ⟨w.heap.size,0,none⟩) 3 3) (w.alloc (.cells #[iV x0_0_,iV x0_1_,.string x0_2_,iV x1_0_,iV x1_1_,.string x1_2_,iV x2_0_,iV x2_1_,.string x2_2_] 30)):=by kernel_rfl
theorem FD (x0_0_:Int)(x0_1_:Int)(x0_2_:ByteArray)(x1_0_:Int)(x1_1_:Int)(x1_2_:ByteArray)(x2_0_:Int)(x2_1_:Int)(x2_2_:ByteArray)(x3_0_:Int)(x3_1_:Int)(x3_2_:ByteArray)(w:World):(Instr.buildSlice 38 4 #[(0,.agg #[iV x0_0_,iV x0_1_,.string x0_2_]),(1,.agg #[iV x1_0_,iV x1_1_,.string x1_2_]),(2,.agg #[iV x2_0_,iV x2_1_,.string x2_2_]),(3,.agg #[iV x3_0_,iV x3_1_,.string x3_2_])]).run Tryz.prog w=.ok (.slice (some ⟨w.heap.size,0,none⟩) 4 4) (w.alloc (.cells #[iV x0_0_,iV x0_1_,.string x0_2_,iV x1_0_,iV x1_1_,.string x1_2_,iV x2_0_,iV x2_1_,.string x2_2_,iV x3_0_,iV x3_1_,.string x3_2_] 30)):=by kernel_rfl
theorem qU (x0_0_:Int)(x0_1_:Int)(x0_2_:ByteArray)(w:World):(Instr.buildSlice 67 1 #[(0,.agg #[iV x0_0_,iV x0_1_,.string x0_2_])]).run Tryz.prog w=.ok (.slice (some ⟨w.heap.size,0,none⟩) 1 1) (w.alloc (.cells #[iV x0_0_,iV x0_1_,.string x0_2_] 24)):=by kernel_rfl
theorem FC (x0_0_:Int)(x0_1_:Int)(x0_2_:ByteArray)(x1_0_:Int)(x1_1_:Int)(x1_2_:ByteArray)(w:World):(Instr.buildSlice 67 2 #[(0,.agg #[iV x0_0_,iV x0_1_,.string x0_2_]),(1,.agg #[iV x1_0_,iV x1_1_,.string x1_2_])]).run Tryz.prog w=.ok (.slice (some ⟨w.heap.size,0,none⟩) 2 2) (w.alloc (.cells #[iV x0_0_,iV x0_1_,.string x0_2_,iV x1_0_,iV x1_1_,.string x1_2_] 24)):=by kernel_rfl
theorem FB (x0_0_:Int)(x0_1_:Int)(x0_2_:ByteArray)(x1_0_:Int)(x1_1_:Int)(x1_2_:ByteArray)(x2_0_:Int)(x2_1_:Int)(x2_2_:ByteArray)(w:World):(Instr.buildSlice 67 3 #[(0,.agg #[iV x0_0_,iV x0_1_,.string x0_2_]),(1,.agg #[iV x1_0_,iV x1_1_,.string x1_2_]),(2,.agg #[iV x2_0_,iV x2_1_,.string x2_2_])]).run Tryz.prog w=.ok (.slice (some ⟨w.heap.size,0,none⟩) 3 3) (w.alloc (.cells #[iV x0_0_,iV x0_1_,.string x0_2_,iV x1_0_,iV x1_1_,.string x1_2_,iV x2_0_,iV x2_1_,.string x2_2_] 24)):=by kernel_rfl
theorem FA (x0_0_0_:Int)(x0_0_1_:Int)(x0_0_2_:ByteArray)(x0_1_:Int)(x0_2_0_:Int)(x0_2_1_:Int)(x0_2_2_:ByteArray)(x0_3_0_:Int)(x0_3_1_:Int)(x0_3_2_:ByteArray)(x0_4_0_:Int)(x0_4_1_:Int)(x0_4_2_:ByteArray)(w:World):(Instr.buildSlice 82 1 #[(0,.agg #[iV x0_0_0_,iV x0_0_1_,.string x0_0_2_,iV x0_1_,iV x0_2_0_,iV x0_2_1_,.string x0_2_2_,iV x0_3_0_,iV x0_3_1_,.string x0_3_2_,iV x0_4_0_,iV x0_4_1_,.string x0_4_2_])]).run Tryz.prog w=.ok (.slice (some ⟨w.heap.size,0,none⟩) 1 1) (w.alloc (.cells #[iV x0_0_0_,iV x0_0_1_,.string x0_0_2_,iV x0_1_,iV x0_2_0_,iV x0_2_1_,.string x0_2_2_,iV x0_3_0_,iV x0_3_1_,.string x0_3_2_,iV x0_4_0_,iV x0_4_1_,.string x0_4_2_] 42)):=by kernel_rfl
theorem Ee (x0_0_:Int)(x0_1_:Int)(x0_2_:Int)(x0_3_:Int)(x0_4_a:Option Addr)(x0_4_n x0_4_c:Nat)(x0_5_a:Option Addr)(x0_5_n x0_5_c:Nat)(w:World):(Instr.buildSlice 195 1 #[(0,.agg #[iV x0_0_,iV x0_1_,iV x0_2_,iV x0_3_,.slice x0_4_a x0_4_n x0_4_c,.slice x0_5_a x0_5_n x0_5_c])]).run Tryz.prog w=.ok (.slice (some ⟨w.heap.size,0,none⟩) 1 1) (w.alloc (.cells #[iV x0_0_,iV x0_1_,iV x0_2_,iV x0_3_,.slice x0_4_a x0_4_n x0_4_c,.slice x0_5_a x0_5_n x0_5_c] 138)):=by kernel_rfl
theorem t5 (x0_0_:Int)(x0_1_0_:Int)(x0_1_1_:Int)(x0_1_2_:ByteArray)(x0_2_:Int)(x0_3_:Int)(w:World):(Instr.buildSlice 202 1 #[(0,.agg #[iV x0_0_,iV x0_1_0_,iV x0_1_1_,.string x0_1_2_,iV x0_2_,iV x0_3_])]).run Tryz.prog w=.ok (.slice (some ⟨w.heap.size,0,none⟩) 1 1) (w.alloc (.cells #[iV x0_0_,iV x0_1_0_,iV x0_1_1_,.string x0_1_2_,iV x0_2_,iV x0_3_] 201)):=by kernel_rfl
theorem yx (x0_:Int)(w:World):(Instr.buildSlice 211 1 #[(0,iV x0_)]).run Tryz.prog w=.ok (.slice (some ⟨w.heap.size,0,none⟩) 1 1) (w.alloc (.cells #[iV x0_] 3)):=by kernel_rfl
theorem J4:o4 Tryz.prog 3 1 8=true:=by kernel_rfl
theorem Es:o4 Tryz.prog 24 3 32=true:=by kernel_rfl
theorem Ag:o4 Tryz.prog 30 3 32=true:=by kernel_rfl
theorem JM:o4 Tryz.prog 42 13 136=true:=by kernel_rfl
theorem Jj:o4 Tryz.prog 138 6 80=true:=by kernel_rfl
theorem Ji:o4 Tryz.prog 201 6 56=true:=by kernel_rfl
instance:Fc (i3 Tryz.prog 3=true):=⟨dH⟩
instance:Fc (i3 Tryz.prog 4=true):=⟨BN⟩
instance:Fc (i3 Tryz.prog 9=true):=⟨JR⟩
instance:Fc (i3 Tryz.prog 36=true):=⟨uq⟩
instance:Fc (i3 Tryz.prog 38=true):=⟨gW⟩
instance:Fc (i3 Tryz.prog 67=true):=⟨H5⟩
instance:Fc (i3 Tryz.prog 142=true):=⟨lb⟩
instance:Fc (i3 Tryz.prog 144=true):=⟨ES⟩
instance:Fc (i3 Tryz.prog 193=true):=⟨tH⟩
instance:Fc (i3 Tryz.prog 195=true):=⟨zd⟩
instance:Fc (i3 Tryz.prog 202=true):=⟨nI⟩
instance:Fc (i3 Tryz.prog 203=true):=⟨BO⟩
instance:Fc (i3 Tryz.prog 211=true):=⟨Iw⟩
instance:Fc (i3 Tryz.prog 245=true):=⟨Iv⟩
instance:FcA0 Tryz.prog 24 0:=⟨CZ⟩
instance:FcA Tryz.prog 24 1 1:=⟨CY⟩
instance:FcA Tryz.prog 24 2 2:=⟨GV⟩
instance:FcA0 Tryz.prog 30 0:=⟨md⟩
instance:FcA Tryz.prog 30 1 1:=⟨vd⟩
instance:FcA Tryz.prog 30 2 2:=⟨GU⟩
instance:FcA0 Tryz.prog 32 0:=⟨CX⟩
instance:FcA Tryz.prog 32 1 1:=⟨CW⟩
instance:FcA Tryz.prog 32 2 2:=⟨GT⟩
instance:FcA Tryz.prog 32 3 5:=⟨CV⟩
instance:FcA Tryz.prog 32 4 8:=⟨CU⟩
instance:FcA0 Tryz.prog 42 0:=⟨zs⟩
instance:FcA Tryz.prog 42 1 3:=⟨zr⟩
instance:FcA Tryz.prog 42 2 4:=⟨GS⟩
instance:FcA Tryz.prog 42 3 7:=⟨vc⟩
instance:FcA Tryz.prog 42 4 10:=⟨vb⟩
instance:FcA0 Tryz.prog 52 0:=⟨GR⟩
instance:FcA Tryz.prog 52 1 1:=⟨GQ⟩
instance:FcA Tryz.prog 52 2 2:=⟨rq⟩
instance:FcA Tryz.prog 52 3 5:=⟨CT⟩
instance:FcA Tryz.prog 52 4 16:=⟨GP⟩
instance:FcA0 Tryz.prog 57 0:=⟨GO⟩
instance:FcA Tryz.prog 57 1 1:=⟨GN⟩
instance:FcA Tryz.prog 57 2 2:=⟨GM⟩
instance:FcA Tryz.prog 57 3 3:=⟨CS⟩
instance:FcA Tryz.prog 57 4 4:=⟨GL⟩
instance:FcA Tryz.prog 57 5 5:=⟨GK⟩
instance:FcA Tryz.prog 57 6 6:=⟨GJ⟩
instance:FcA0 Tryz.prog 138 0:=⟨Bd⟩
instance:FcA Tryz.prog 138 1 1:=⟨mr⟩
instance:FcA Tryz.prog 138 2 2:=⟨Bc⟩
instance:FcA Tryz.prog 138 3 3:=⟨lq⟩
instance:FcA Tryz.prog 138 4 4:=⟨jv⟩
instance:FcA Tryz.prog 138 5 5:=⟨nR⟩
instance:FcA0 Tryz.prog 140 0:=⟨fA⟩
instance:FcA Tryz.prog 140 1 6:=⟨nQ⟩
instance:FcA Tryz.prog 140 2 7:=⟨Bb⟩
instance:FcA Tryz.prog 147 1 1:=⟨Ba⟩
instance:FcA0 Tryz.prog 151 0:=⟨AZ⟩
instance:FcA Tryz.prog 151 1 3:=⟨AY⟩
instance:FcA Tryz.prog 151 3 11:=⟨kf⟩
instance:FcA Tryz.prog 151 4 12:=⟨Fd⟩
instance:FcA Tryz.prog 151 6 14:=⟨Fb⟩
instance:FcA0 Tryz.prog 197 0:=⟨wA⟩
instance:FcA Tryz.prog 197 1 1:=⟨Fa⟩
instance:FcA0 Tryz.prog 199 0:=⟨wz⟩
instance:FcA Tryz.prog 199 1 2:=⟨wy⟩
instance:FcA Tryz.prog 199 3 4:=⟨qJ⟩
instance:FcA0 Tryz.prog 201 0:=⟨sZ⟩
instance:FcA Tryz.prog 201 1 1:=⟨sY⟩
instance:FcA Tryz.prog 201 2 4:=⟨ph⟩
instance:FcA Tryz.prog 201 3 5:=⟨sX⟩
instance:FcA0 Tryz.prog 205 0:=⟨pf⟩
instance:FcA Tryz.prog 205 1 1:=⟨wx⟩
instance:FcA0 Tryz.prog 247 0:=⟨E9⟩
theorem yj:Tryz.prog.eqGuardType Tryz.prog.depth 24=false:=by kernel_rfl
theorem C3 (x y:Lj)(w:World):(Op.equalIn 10000 24 (.agg #[iV x.Kind,iV x.N,.string x.S]) (.agg #[iV y.Kind,iV y.N,.string y.S])).run Tryz.prog w=.ok (decide (x=y)) w:=by
 obtain ⟨xKind,xN,xS⟩:=x;obtain ⟨yKind,yN,yS⟩:=y;show (Op.equalIn 10000 24 (.agg #[iV xKind,iV xN,.string xS]) (.agg #[iV yKind,iV yN,.string yS])).run Tryz.prog w=_
 go_simp
 simp only [qT];by_cases h0:xKind=yKind<;>by_cases h1:xN=yN<;>by_cases h2:xS=yS<;>simp [h0,h1,h2]
theorem ta {s:cB}{C:World→Prop}{d:Option Nat}{ty u:TypeId}{pos:String}{af:Array Edge}{gd:Option (Nat×Bool)}{a b:Operand}{x y:Lj}(hx:cu s a=some (.agg #[iV x.Kind,iV x.N,.string x.S]))(hy:cu s b=some (.agg #[iV y.Kind,iV y.N,.string y.S])):Ev Tryz.prog s C ⟨d,.binOp .eql 24 a b u,ty,pos,af,gd⟩ (.bool (decide (x=y))):=
 eB hx hy fun w=>by
  rw [Sem.run_bind,run_eqGuard_agg w _ _ _ _ _ _ yj];simp only [Result.andThen_ok];rw [run_eql_struct,C3];rfl
theorem D9 {s:cB}{C:World→Prop}{d:Option Nat}{ty u:TypeId}{pos:String}{af:Array Edge}{gd:Option (Nat×Bool)}{a b:Operand}{x y:Lj}(hx:cu s a=some (.agg #[iV x.Kind,iV x.N,.string x.S]))(hy:cu s b=some (.agg #[iV y.Kind,iV y.N,.string y.S])):Ev Tryz.prog s C ⟨d,.binOp .neq 24 a b u,ty,pos,af,gd⟩ (.bool (!decide (x=y))):=
 eB hx hy fun w=>by
  rw [Sem.run_bind,run_eqGuard_agg w _ _ _ _ _ _ yj];simp only [Result.andThen_ok];rw [run_neq_struct,C3];rfl
theorem yi:Tryz.prog.eqGuardType Tryz.prog.depth 30=false:=by kernel_rfl
theorem C2 (x y:Lf)(w:World):(Op.equalIn 10000 30 (.agg #[iV x.Kind,iV x.N,.string x.S]) (.agg #[iV y.Kind,iV y.N,.string y.S])).run Tryz.prog w=.ok (decide (x=y)) w:=by
 obtain ⟨xKind,xN,xS⟩:=x;obtain ⟨yKind,yN,yS⟩:=y;show (Op.equalIn 10000 30 (.agg #[iV xKind,iV xN,.string xS]) (.agg #[iV yKind,iV yN,.string yS])).run Tryz.prog w=_
 go_simp
 simp only [qT];by_cases h0:xKind=yKind<;>by_cases h1:xN=yN<;>by_cases h2:xS=yS<;>simp [h0,h1,h2]
theorem pm {s:cB}{C:World→Prop}{d:Option Nat}{ty u:TypeId}{pos:String}{af:Array Edge}{gd:Option (Nat×Bool)}{a b:Operand}{x y:Lf}(hx:cu s a=some (.agg #[iV x.Kind,iV x.N,.string x.S]))(hy:cu s b=some (.agg #[iV y.Kind,iV y.N,.string y.S])):Ev Tryz.prog s C ⟨d,.binOp .eql 30 a b u,ty,pos,af,gd⟩ (.bool (decide (x=y))):=
 eB hx hy fun w=>by
  rw [Sem.run_bind,run_eqGuard_agg w _ _ _ _ _ _ yi];simp only [Result.andThen_ok];rw [run_eql_struct,C2];rfl
theorem tV {s:cB}{C:World→Prop}{d:Option Nat}{ty u:TypeId}{pos:String}{af:Array Edge}{gd:Option (Nat×Bool)}{a b:Operand}{x y:Lf}(hx:cu s a=some (.agg #[iV x.Kind,iV x.N,.string x.S]))(hy:cu s b=some (.agg #[iV y.Kind,iV y.N,.string y.S])):Ev Tryz.prog s C ⟨d,.binOp .neq 30 a b u,ty,pos,af,gd⟩ (.bool (!decide (x=y))):=
 eB hx hy fun w=>by
  rw [Sem.run_bind,run_eqGuard_agg w _ _ _ _ _ _ yi];simp only [Result.andThen_ok];rw [run_neq_struct,C2];rfl
theorem D1:Tryz.prog.eqGuardType Tryz.prog.depth 42=false:=by kernel_rfl
theorem GY (x y:K4)(w:World):(Op.equalIn 10000 42 ((cU x)) ((cU y))).run Tryz.prog w=.ok (decide (x=y)) w:=by
 obtain ⟨⟨xKeyKind,xKeyN,xKeyS⟩,xAttrs,⟨xValueKind,xValueN,xValueS⟩,⟨xGetKind,xGetN,xGetS⟩,⟨xSetKind,xSetN,xSetS⟩⟩:=x;obtain ⟨⟨yKeyKind,yKeyN,yKeyS⟩,yAttrs,⟨yValueKind,yValueN,yValueS⟩,⟨yGetKind,yGetN,yGetS⟩,⟨ySetKind,ySetN,ySetS⟩⟩:=y;show (Op.equalIn 10000 42 (.agg #[iV xKeyKind,iV xKeyN,.string xKeyS,iV xAttrs,iV xValueKind,iV xValueN,.string xValueS,iV xGetKind,iV xGetN,.string xGetS,iV xSetKind,iV xSetN,.string xSetS]) (.agg #[iV yKeyKind,iV yKeyN,.string yKeyS,iV yAttrs,iV yValueKind,iV yValueN,.string yValueS,iV yGetKind,iV yGetN,.string yGetS,iV ySetKind,iV ySetN,.string ySetS])).run Tryz.prog w=_
 go_simp
 simp only [qT];by_cases h0:xKeyKind=yKeyKind
 rotate_left
 ·simp [h0]
 by_cases h1:xKeyN=yKeyN
 rotate_left
 ·simp [h0,h1]
 by_cases h2:xKeyS=yKeyS
 rotate_left
 ·simp [h0,h1,h2]
 by_cases h3:xAttrs=yAttrs
 rotate_left
 ·simp [h0,h1,h2,h3]
 by_cases h4:xValueKind=yValueKind
 rotate_left
 ·simp [h0,h1,h2,h3,h4]
 by_cases h5:xValueN=yValueN
 rotate_left
 ·simp [h0,h1,h2,h3,h4,h5]
 by_cases h6:xValueS=yValueS
 rotate_left
 ·simp [h0,h1,h2,h3,h4,h5,h6]
 by_cases h7:xGetKind=yGetKind
 rotate_left
 ·simp [h0,h1,h2,h3,h4,h5,h6,h7]
 by_cases h8:xGetN=yGetN
 rotate_left
 ·simp [h0,h1,h2,h3,h4,h5,h6,h7,h8]
 by_cases h9:xGetS=yGetS
 rotate_left
 ·simp [h0,h1,h2,h3,h4,h5,h6,h7,h8,h9]
 by_cases h10:xSetKind=ySetKind
 rotate_left
 ·simp [h0,h1,h2,h3,h4,h5,h6,h7,h8,h9,h10]
 by_cases h11:xSetN=ySetN
 rotate_left
 ·simp [h0,h1,h2,h3,h4,h5,h6,h7,h8,h9,h10,h11]
 by_cases h12:xSetS=ySetS
 rotate_left
 ·simp [h0,h1,h2,h3,h4,h5,h6,h7,h8,h9,h10,h11,h12]
 simp [h0,h1,h2,h3,h4,h5,h6,h7,h8,h9,h10,h11,h12]
theorem D8 {s:cB}{C:World→Prop}{d:Option Nat}{ty u:TypeId}{pos:String}{af:Array Edge}{gd:Option (Nat×Bool)}{a b:Operand}{x y:K4}(hx:cu s a=some ((cU x)))(hy:cu s b=some ((cU y))):Ev Tryz.prog s C ⟨d,.binOp .neq 42 a b u,ty,pos,af,gd⟩ (.bool (!decide (x=y))):=
 eB hx hy fun w=>by
  rw [Sem.run_bind,run_eqGuard_agg w _ _ _ _ _ _ D1];simp only [Result.andThen_ok];rw [run_neq_struct,GY];rfl
theorem Ff (x y:Lb)(w:World):(Op.equalIn 10000 257 ((E8 x)) ((E8 y))).run Tryz.prog w=.ok (decide (x=y)) w:=by
 obtain ⟨xup_,⟨xkey_Kind,xkey_N,xkey_S⟩,xattrs_⟩:=x;obtain ⟨yup_,⟨ykey_Kind,ykey_N,ykey_S⟩,yattrs_⟩:=y;show (Op.equalIn 10000 257 (.agg #[iV xup_,iV xkey_Kind,iV xkey_N,.string xkey_S,iV xattrs_]) (.agg #[iV yup_,iV ykey_Kind,iV ykey_N,.string ykey_S,iV yattrs_])).run Tryz.prog w=_
 go_simp
 simp only [qT];by_cases h0:xup_=yup_
 rotate_left
 ·simp [h0]
 by_cases h1:xkey_Kind=ykey_Kind
 rotate_left
 ·simp [h0,h1]
 by_cases h2:xkey_N=ykey_N
 rotate_left
 ·simp [h0,h1,h2]
 by_cases h3:xkey_S=ykey_S
 rotate_left
 ·simp [h0,h1,h2,h3]
 by_cases h4:xattrs_=yattrs_
 rotate_left
 ·simp [h0,h1,h2,h3,h4]
 simp [h0,h1,h2,h3,h4]
def aL (x:Lb):Value:=.agg #[iV x.up_,iV x.key_.Kind,iV x.key_.N,.string x.key_.S,iV x.attrs_]
theorem wt:KeyOk Tryz.prog 257 aL where
 und:=⟨_,Tryz.underlying257,fun a b=> .inl rfl⟩
 eq:=fun a b w=>Ff a b w
 check:=fun e a w=>by
  obtain ⟨xup_,⟨xkey_Kind,xkey_N,xkey_S⟩,xattrs_⟩:=a;kernel_rfl
 bits:=fun a=>by
  obtain ⟨xup_,⟨xkey_Kind,xkey_N,xkey_S⟩,xattrs_⟩:=a;simp [aL,Instr.sameBits,Cs]
def ns (N:Nat)(a0:Lf):Option Bool:=
 (bif decide (a0.Kind<0) then (some true) else (some (decide (9<a0.Kind)))).bind fun b2=>bif b2 then (some false) else (bif decide (a0.Kind=5) then ((bif decide (a0.N=0) then (some (decide ((a0.S.size:Int)≤65536))) else (some false)).bind fun b5=>some b5) else (bif !(a0.S.toList==(⟨#[]⟩:ByteArray).toList) then (some false) else (bif decide (a0.Kind=2) then ((bif decide (a0.N=0) then (some true) else (some (decide (a0.N=1)))).bind fun b8=>some b8) else (bif decide (a0.Kind=3) then ((bif decide ((-9007199254740992)≤a0.N) then (some (decide (a0.N≤9007199254740992))) else (some false)).bind fun b10=>some b10) else ((bif decide (a0.Kind=6) then (some true) else (some (decide (a0.Kind=7)))).bind fun b11=>(bif b11 then (some true) else (some (decide (a0.Kind=9)))).bind fun b12=>bif b12 then (some (decide (1≤a0.N))) else (some (decide (a0.N=0))))))))
set_option maxHeartbeats 4000000 in
theorem BM {N:Nat}{a0:Lf}{r:Bool}(h:ns N a0=some r):Okc Tryz.prog 60 [(bQ a0)] ([]) (fun u post=>u=.bool r∧post=[]):=by
 refine bB Tryz.func60 J J ?_;simp only [ba];refine W ?_;refine gD (aT J J) ?_;rintro _ _ ⟨B1,rfl,rfl⟩;refine W ?_;refine aB ?_;refine W ?_;obtain ⟨b2,hb2,h⟩:=aa h;refine aH 4 10 b2 ?_ ?_
 ·clear h;refine aD 6 J (fun g2=> ?_) (fun g2=> ?_)
  ·have h:=ad g2 hb2;refine W ?_;obtain rfl:=ao h;exact ab sA (cS [0] 1)
  have h:=ae g2 hb2;refine W ?_;obtain rfl:=ao h;exact ab sA (cS [0] 1)
 refine W ?_;refine av J (fun g3=> ?_) (fun g3=> ?_)
 ·replace h:=ad g3 h;refine W ?_;obtain rfl:=ao h;exact aO J J (cS [] 1) ⟨J,J⟩
 replace h:=ae g3 h;refine W ?_;refine aB ?_;refine W ?_;refine av J (fun g4=> ?_) (fun g4=> ?_)
 ·replace h:=ad g4 h;refine W ?_;obtain ⟨b5,hb5,h⟩:=aa h;refine aH 5 22 b5 ?_ ?_
  ·clear h;refine aD 17 J (fun g5=> ?_) (fun g5=> ?_)
   ·have h:=ad g5 hb5;refine W ?_;refine eR (lr J Ex) J (bi g5 J) J ?_;refine W ?_;obtain rfl:=ao h;exact ab sA (cS [0] 1)
   have h:=ae g5 hb5;refine W ?_;obtain rfl:=ao h;exact ab sA (cS [0] 1)
  refine W ?_;obtain rfl:=ao h;exact aO J J (cS [] 1) ⟨J,J⟩
 replace h:=ae g4 h;refine W ?_;refine aB ?_;refine W ?_;refine gE (wB J J) ?_;refine W ?_;refine av J (fun g6=> ?_) (fun g6=> ?_)
 ·replace h:=ad g6 h;refine W ?_;obtain rfl:=ao h;exact aO J J (cS [] 1) ⟨J,J⟩
 replace h:=ae g6 h;refine W ?_;refine aB ?_;refine W ?_;refine av J (fun g7=> ?_) (fun g7=> ?_)
 ·replace h:=ad g7 h;refine W ?_;obtain ⟨b8,hb8,h⟩:=aa h;refine aH 4 36 b8 ?_ ?_
  ·clear h;refine aD 32 J (fun g8=> ?_) (fun g8=> ?_)
   ·have h:=ad g8 hb8;refine W ?_;obtain rfl:=ao h;exact ab sA (cS [0] 1)
   have h:=ae g8 hb8;refine W ?_;obtain rfl:=ao h;exact ab sA (cS [0] 1)
  refine W ?_;obtain rfl:=ao h;exact aO J J (cS [] 1) ⟨J,J⟩
 replace h:=ae g7 h;refine W ?_;refine aB ?_;refine W ?_;refine av J (fun g9=> ?_) (fun g9=> ?_)
 ·replace h:=ad g9 h;refine W ?_;obtain ⟨b10,hb10,h⟩:=aa h;refine aH 4 47 b10 ?_ ?_
  ·clear h;refine aD 43 J (fun g10=> ?_) (fun g10=> ?_)
   ·have h:=ad g10 hb10;refine W ?_;obtain rfl:=ao h;exact ab sA (cS [0] 1)
   have h:=ae g10 hb10;refine W ?_;obtain rfl:=ao h;exact ab sA (cS [0] 1)
  refine W ?_;obtain rfl:=ao h;exact aO J J (cS [] 1) ⟨J,J⟩
 replace h:=ae g9 h;refine W ?_;refine aB ?_;refine W ?_;obtain ⟨b11,hb11,h⟩:=aa h;refine aH 4 55 b11 ?_ ?_
 ·clear h;refine aD 51 J (fun g11=> ?_) (fun g11=> ?_)
  ·have h:=ad g11 hb11;refine W ?_;obtain rfl:=ao h;exact ab sA (cS [0] 1)
  have h:=ae g11 hb11;refine W ?_;obtain rfl:=ao h;exact ab sA (cS [0] 1)
 refine W ?_;obtain ⟨b12,hb12,h⟩:=aa h;refine aH 4 60 b12 ?_ ?_
 ·clear h;refine aD 56 J (fun g12=> ?_) (fun g12=> ?_)
  ·have h:=ad g12 hb12;refine W ?_;obtain rfl:=ao h;exact ab sA (cS [0] 1)
  have h:=ae g12 hb12;refine W ?_;obtain rfl:=ao h;exact ab sA (cS [0] 1)
 refine W ?_;refine av J (fun g13=> ?_) (fun g13=> ?_)
 ·replace h:=ad g13 h;refine W ?_;obtain rfl:=ao h;exact aO J J (cS [] 1) ⟨J,J⟩
 replace h:=ae g13 h;refine W ?_;obtain rfl:=ao h;exact aO J J (cS [] 1) ⟨J,J⟩
theorem yY {r:Bool}: ∀v post,((fun (u:Value) (post:List Chunk)=>u=.bool r∧post=[])) v post→ ∀c∈post,cF c:=by
 rintro _ _ ⟨rfl,rfl⟩;exact ai
def se (N:Nat):Option Lf:=
 some (⟨8,0,⟨#[]⟩⟩:Lf)
theorem qD {N:Nat}{r:Lf}(h:se N=some r):Okc Tryz.prog 92 [] ([]) (fun u post=>u=(bQ r)∧post=[]):=by
 refine bB Tryz.func92 J J ?_;simp only [ba];refine W ?_;refine gD (aM eA J) ?_;rintro _ _ ⟨B1,rfl,rfl⟩;refine W ?_;refine gE (bg J (wW _)) ?_;refine gO (aw (us:=[iV 8,iV 0,.string (⟨#[]⟩)]) (cs':=[iV 8,iV 0,.string (⟨#[]⟩)]) 0 J J J J be J J J) ?_;rintro _ _ rfl;refine W ?_;obtain rfl:=ao h;exact cG (rs:=[.cell 0 30]) (vs:=[.agg #[iV 8,iV 0,.string (⟨#[]⟩)]]) J (.cons (bA 0 J J aN) .nil) J (cS [] 1) ⟨J,J⟩
theorem oO {r:Lf}: ∀v post,((fun (u:Value) (post:List Chunk)=>u=(bQ r)∧post=[])) v post→ ∀c∈post,cF c:=by
 rintro _ _ ⟨rfl,rfl⟩;exact ai
def kr (N:Nat)(a0:Lf):Option Bool:=
 (bif decide (a0.Kind<7) then ((ns N a0).bind fun y3=>some y3) else (some false)).bind fun b2=>(bif b2 then (some true) else ((se N).bind fun y5=>some (decide (a0=y5)))).bind fun b4=>some b4
theorem oh {N:Nat}{a0:Lf}{r:Bool}(h:kr N a0=some r):Okc Tryz.prog 91 [(bQ a0)] ([]) (fun u post=>u=.bool r∧post=[]):=by
 refine bB Tryz.func91 J J ?_;simp only [ba];refine W ?_;refine gD (aT J J) ?_;rintro _ _ ⟨B1,rfl,rfl⟩;refine W ?_;refine aB ?_;refine bx O _ (ac _) ?_;refine zE 0 J (dD J md) ?_;refine zR 1 J (aW 0 J J dH J) ?_;refine zE 2 J (wE J J) ?_;refine zE 3 J (au J) ?_;obtain ⟨b2,hb2,h⟩:=aa h;refine iU (fun l=>(((l.setIfInBounds 4 true).setIfInBounds 5 true).setIfInBounds 6 true)) 6 9 b2 (fun rest=> ?_) ?_
 ·clear h;refine kq 6 J (fun g2=> ?_) (fun g2=> ?_)
  ·have h:=ad g2 hb2;refine jA 4 J O (aj (us:=aE a0) 0 J J aN J) (bi g2 J) J ?_;obtain ⟨y3,hy3,h⟩:=aa h;refine lA 5 J O (ap (BM hy3) IY J (ai) yY) J (bi g2 J) J ?_;rintro _ _ ⟨_,⟨rfl,rfl⟩,rfl⟩;refine ⟨_,ac _,ac _,?_⟩;refine zE 6 J (dX g2 J J) ?_;obtain rfl:=ao h;exact fL rest (dm J (ay (ay (ay cj J) J) J)) (ac _) (ac _)
  have h:=ae g2 hb2;refine cH 4 J O (fF g2 J) J ?_;refine cH 5 J O (fF g2 J) J ?_;refine zE 6 J (dY g2 J J) ?_;obtain rfl:=ao h;exact fL rest (dm J (ay (ay (ay cj J) J) J)) (ac _) (ac _)
 refine zE 7 J (au J) ?_;obtain ⟨b4,hb4,h⟩:=aa h;refine iU (fun l=>((((l.setIfInBounds 8 true).setIfInBounds 9 true).setIfInBounds 10 true).setIfInBounds 11 true)) 1 14 b4 (fun rest=> ?_) ?_
 ·clear h;refine kq 10 J (fun g4=> ?_) (fun g4=> ?_)
  ·have h:=ad g4 hb4;refine cH 8 J O (mq g4 J) J ?_;refine cH 9 J O (mq g4 J) J ?_;refine cH 10 J O (mq g4 J) J ?_;refine zE 11 J (dX g4 J J) ?_;obtain rfl:=ao h;exact fL rest (dm J (ay (ay (ay (ay cj J) J) J) J)) (ac _) (ac _)
  have h:=ae g4 hb4;refine jA 8 J O (aj (us:=aE a0) 0 J J aN J) (co g4 J) J ?_;obtain ⟨y5,hy5,h⟩:=aa h;refine lA 9 J O (ap (qD hy5) Ci J (ai) oO) J (co g4 J) J ?_;rintro _ _ ⟨_,⟨rfl,rfl⟩,rfl⟩;refine ⟨_,ac _,ac _,?_⟩;refine eW 10 J O (pm (x:=a0) (y:=y5) J J) (co g4 J) J ?_;refine zE 11 J (dY g4 J J) ?_;obtain rfl:=ao h;exact fL rest (dm J (ay (ay (ay (ay cj J) J) J) J)) (ac _) (ac _)
 refine zE 12 J (aS J) ?_;refine bj O ?_;refine W ?_;obtain rfl:=ao h;exact aO J J (cS [] 1) ⟨J,J⟩
theorem lZ {r:Bool}: ∀v post,((fun (u:Value) (post:List Chunk)=>u=.bool r∧post=[])) v post→ ∀c∈post,cF c:=by
 rintro _ _ ⟨rfl,rfl⟩;exact ai
def ud (N:Nat):Option Bool:=
 some true
def om (N:Nat)(a0:(List K7)):Nat→Int→Option Bool
 |0,_=>none
 |m3+1,p4=>(bif decide (p4<(a0.length:Int)) then (some (decide (p4<40))) else (some false)).bind fun b5=>bif b5 then ((bE a0 p4).bind fun x7=>(kr N x7.V).bind fun y9=>(bif !y9 then (some true) else ((kr N x7.D.Value).bind fun y11=>some (!y11))).bind fun b10=>(bif b10 then (some true) else ((kr N x7.D.Get).bind fun y13=>some (!y13))).bind fun b12=>(bif b12 then (some true) else ((kr N x7.D.Set).bind fun y15=>some (!y15))).bind fun b14=>(bif b14 then (some true) else (some (decide (2000<(x7.K.S.size:Int))))).bind fun b16=>bif b16 then (some false) else ((bif decide (2000<x7.N) then (some (decide (x7.N≤4096))) else (some false)).bind fun b18=>(bif b18 then (some true) else ((bif decide (2000<x7.K.N) then (some (decide (x7.K.N<4096))) else (some false)).bind fun b20=>some b20)).bind fun b19=>(bif b19 then (some true) else ((bif decide (2000<x7.D.Value.N) then (some (decide (x7.D.Value.N≤4096))) else (some false)).bind fun b22=>some b22)).bind fun b21=>bif b21 then (some false) else (cV (bC (p4+1)) ((om N a0 m3) (p4+1))))) else (ud N)
def sa (N:Nat)(a0:(List K7)):Option Bool:=
 om N a0 N 0
set_option maxHeartbeats 4000000 in
theorem Ak {N:Nat}{a0:(List K7)}{r:Bool}(h:sa N a0=some r):Okc Tryz.prog 22 [U A1 n1 c1] ([kS qC (U A1 n1 c1) a0]) (fun u post=>u=.bool r∧post=[]):=by
 refine bB Tryz.func22 J J ?_;simp only [ba];refine W ?_;refine bc (fun s L=>ud N=some r∧s=[(2,.bool false)]∧L=[]) ?_ ?_
 ·refine W ?_;refine cv (fun m s L=> ∃p4,om N a0 m p4=some r∧s=[(0,U A1 n1 c1),(2,.bool false),(3,iV p4)]∧L=[kS qC (U A1 n1 c1) a0]) N _ _ ⟨0,h,J,J⟩ sA (cS [0] 1) ?_;rintro (_|m3) _ _ ⟨p4,h,rfl,rfl⟩
  ·exact bq h
  rw [om.eq_2] at h;refine aB ?_;refine W ?_;refine gR (bJ 0 J aQ J EM) ?_;refine W ?_;obtain ⟨b5,hb5,h⟩:=aa h;refine aH 3 12 b5 ?_ ?_
  ·clear h;refine aD 9 J (fun g5=> ?_) (fun g5=> ?_)
   ·have h:=ad g5 hb5;refine W ?_;obtain rfl:=ao h;exact ab sA (cS [0] 1)
   have h:=ae g5 hb5;refine W ?_;obtain rfl:=ao h;exact ab sA (cS [0] 1)
  refine W ?_;refine av J (fun g6=> ?_) (fun g6=> ?_)
  ·replace h:=ad g6 h;refine W ?_;refine aB ?_;refine W ?_;obtain ⟨x7,hx7,h⟩:=aa h;obtain ⟨lx7,ux7,hx7⟩:=aJ hx7;refine gR (bn 0 J aQ J J EM yM lx7 ux7) ?_;refine gR (br (us:=rW x7) 0 J aQ J hx7 Ig (fun _ _ _ h=>by rw [show _=_ from h];rfl)) ?_;refine gD (aM Er J) ?_;rintro _ _ ⟨B8,rfl,rfl⟩;refine gO (aw (us:=rW x7) (cs':=rW x7) 0 J J J J yM J J J) ?_;rintro _ _ rfl;refine W ?_;refine aB ?_;refine W ?_;refine gR (aj (us:=aE x7.V) 0 J J aN J) ?_;obtain ⟨y9,hy9,h⟩:=aa h;refine gD (ap (oh hy9) zG J (ai) lZ) ?_;rintro _ _ ⟨_,⟨rfl,rfl⟩,rfl⟩;refine W ?_;obtain ⟨b10,hb10,h⟩:=aa h;refine aH 6 29 b10 ?_ ?_
   ·clear h;refine aD 23 J (fun g10=> ?_) (fun g10=> ?_)
    ·have h:=ad g10 hb10;refine W ?_;obtain rfl:=ao h;exact ab sA (cS [0,1] 2)
    have h:=ae g10 hb10;refine W ?_;refine bY (aj (us:=aE x7.D.Value) 0 J J aN J) J (co g10 J) J ?_;obtain ⟨y11,hy11,h⟩:=aa h;refine cc (ap (oh hy11) zG J (ai) lZ) J (co g10 J) J ?_;rintro _ _ ⟨_,⟨rfl,rfl⟩,rfl⟩;refine W ?_;obtain rfl:=ao h;exact ab sA (cS [0,1] 2)
   refine W ?_;obtain ⟨b12,hb12,h⟩:=aa h;refine aH 6 36 b12 ?_ ?_
   ·clear h;refine aD 30 J (fun g12=> ?_) (fun g12=> ?_)
    ·have h:=ad g12 hb12;refine W ?_;obtain rfl:=ao h;exact ab sA (cS [0,1] 2)
    have h:=ae g12 hb12;refine W ?_;refine bY (aj (us:=aE x7.D.Get) 0 J J aN J) J (co g12 J) J ?_;obtain ⟨y13,hy13,h⟩:=aa h;refine cc (ap (oh hy13) zG J (ai) lZ) J (co g12 J) J ?_;rintro _ _ ⟨_,⟨rfl,rfl⟩,rfl⟩;refine W ?_;obtain rfl:=ao h;exact ab sA (cS [0,1] 2)
   refine W ?_;obtain ⟨b14,hb14,h⟩:=aa h;refine aH 6 43 b14 ?_ ?_
   ·clear h;refine aD 37 J (fun g14=> ?_) (fun g14=> ?_)
    ·have h:=ad g14 hb14;refine W ?_;obtain rfl:=ao h;exact ab sA (cS [0,1] 2)
    have h:=ae g14 hb14;refine W ?_;refine bY (aj (us:=aE x7.D.Set) 0 J J aN J) J (co g14 J) J ?_;obtain ⟨y15,hy15,h⟩:=aa h;refine cc (ap (oh hy15) zG J (ai) lZ) J (co g14 J) J ?_;rintro _ _ ⟨_,⟨rfl,rfl⟩,rfl⟩;refine W ?_;obtain rfl:=ao h;exact ab sA (cS [0,1] 2)
   refine W ?_;obtain ⟨b16,hb16,h⟩:=aa h;refine aH 6 50 b16 ?_ ?_
   ·clear h;refine aD 44 J (fun g16=> ?_) (fun g16=> ?_)
    ·have h:=ad g16 hb16;refine W ?_;obtain rfl:=ao h;exact ab sA (cS [0,1] 2)
    have h:=ae g16 hb16;refine W ?_;refine eR (lr J Ex) J (co g16 J) J ?_;refine W ?_;obtain rfl:=ao h;exact ab sA (cS [0,1] 2)
   refine W ?_;refine av J (fun g17=> ?_) (fun g17=> ?_)
   ·replace h:=ad g17 h;refine W ?_;obtain rfl:=ao h;exact aO J J (cS [] 2) ⟨J,J⟩
   replace h:=ae g17 h;refine W ?_;obtain ⟨b18,hb18,h⟩:=aa h;refine aH 4 58 b18 ?_ ?_
   ·clear h;refine aD 54 J (fun g18=> ?_) (fun g18=> ?_)
    ·have h:=ad g18 hb18;refine W ?_;obtain rfl:=ao h;exact ab sA (cS [0,1] 2)
    have h:=ae g18 hb18;refine W ?_;obtain rfl:=ao h;exact ab sA (cS [0,1] 2)
   refine W ?_;obtain ⟨b19,hb19,h⟩:=aa h;refine aH 11 70 b19 ?_ ?_
   ·clear h;refine aD 59 J (fun g19=> ?_) (fun g19=> ?_)
    ·have h:=ad g19 hb19;refine W ?_;obtain rfl:=ao h;exact ab sA (cS [0,1] 2)
    have h:=ae g19 hb19;refine W ?_;obtain ⟨b20,hb20,h⟩:=aa h;refine aH 5 69 b20 ?_ ?_
    ·clear h;refine aD 64 J (fun g20=> ?_) (fun g20=> ?_)
     ·have h:=ad g20 hb20;refine W ?_;obtain rfl:=ao h;exact ab sA (cS [0,1] 2)
     have h:=ae g20 hb20;refine W ?_;obtain rfl:=ao h;exact ab sA (cS [0,1] 2)
    refine W ?_;obtain rfl:=ao h;exact ab sA (cS [0,1] 2)
   refine W ?_;obtain ⟨b21,hb21,h⟩:=aa h;refine aH 13 84 b21 ?_ ?_
   ·clear h;refine aD 71 J (fun g21=> ?_) (fun g21=> ?_)
    ·have h:=ad g21 hb21;refine W ?_;obtain rfl:=ao h;exact ab sA (cS [0,1] 2)
    have h:=ae g21 hb21;refine W ?_;obtain ⟨b22,hb22,h⟩:=aa h;refine aH 6 83 b22 ?_ ?_
    ·clear h;refine aD 77 J (fun g22=> ?_) (fun g22=> ?_)
     ·have h:=ad g22 hb22;refine W ?_;obtain rfl:=ao h;exact ab sA (cS [0,1] 2)
     have h:=ae g22 hb22;refine W ?_;obtain rfl:=ao h;exact ab sA (cS [0,1] 2)
    refine W ?_;obtain rfl:=ao h;exact ab sA (cS [0,1] 2)
   refine W ?_;refine av J (fun g23=> ?_) (fun g23=> ?_)
   ·replace h:=ad g23 h;refine W ?_;obtain rfl:=ao h;exact aO J J (cS [] 2) ⟨J,J⟩
   replace h:=ae g23 h;refine W ?_;obtain ⟨q24,h⟩:=aA h;refine gE (bF J J q24.1 q24.2) ?_;refine W ?_;exact ⟨m3,_,_,Lo _,⟨p4+1,h,J,J⟩,sA,cS [1] 2⟩
  replace h:=ae g6 h;refine W ?_;exact ⟨_,_,⟨h,J,J⟩,sA,cS [] 1⟩
 rintro _ _ ⟨h,rfl,rfl⟩;refine W ?_;obtain rfl:=ao h;exact aO J J (cS [] 0) ⟨J,J⟩
theorem xp {r:Bool}: ∀v post,((fun (u:Value) (post:List Chunk)=>u=.bool r∧post=[])) v post→ ∀c∈post,cF c:=by
 rintro _ _ ⟨rfl,rfl⟩;exact ai
def ep (N:Nat)(a0:Int)(a1:Int)(a2:Int):Option Bool:=
 (bif decide (a1≤a0) then (some (decide (a0≤a2))) else (some false)).bind fun b1=>some b1
theorem eI {N:Nat}{a0:Int}{a1:Int}{a2:Int}{r:Bool}(h:ep N a0 a1 a2=some r):Okc Tryz.prog 147 [iV a0,iV a1,iV a2] ([]) (fun u post=>u=.bool r∧post=[]):=by
 refine bB Tryz.func147 J J ?_;simp only [ba];refine W ?_;obtain ⟨b1,hb1,h⟩:=aa h;refine aH 4 14 b1 ?_ ?_
 ·clear h;refine aD 10 J (fun g1=> ?_) (fun g1=> ?_)
  ·have h:=ad g1 hb1;refine W ?_;obtain rfl:=ao h;exact ab sA (cS [] 0)
  have h:=ae g1 hb1;refine W ?_;obtain rfl:=ao h;exact ab sA (cS [] 0)
 refine W ?_;obtain rfl:=ao h;exact aO J J (cS [] 0) ⟨J,J⟩
theorem dV {r:Bool}: ∀v post,((fun (u:Value) (post:List Chunk)=>u=.bool r∧post=[])) v post→ ∀c∈post,cF c:=by
 rintro _ _ ⟨rfl,rfl⟩;exact ai
def rO (N:Nat)(a0:Lg):Option Bool:=
 (ep N a0.Way 0 1).bind fun y2=>(bif y2 then ((ep N a0.Steps 0 1073741824).bind fun y4=>some y4) else (some false)).bind fun b3=>(bif b3 then ((ep N a0.Calls 1 200).bind fun y6=>some y6) else (some false)).bind fun b5=>(bif b5 then ((ep N a0.Made 0 1048576).bind fun y8=>some y8) else (some false)).bind fun b7=>(bif b7 then ((ep N a0.Young 0 1073741824).bind fun y10=>some y10) else (some false)).bind fun b9=>(bif b9 then ((ep N a0.Full 0 1073741824).bind fun y12=>some y12) else (some false)).bind fun b11=>(bif b11 then ((ep N a0.Sites 0 4).bind fun y14=>some y14) else (some false)).bind fun b13=>some b13
set_option maxHeartbeats 4000000 in
theorem vM {N:Nat}{a0:Lg}{r:Bool}(h:rO N a0=some r):Okc Tryz.prog 85 [(AW a0)] ([]) (fun u post=>u=.bool r∧post=[]):=by
 refine bB Tryz.func85 J J ?_;simp only [ba];refine W ?_;refine gD (aT J J) ?_;rintro _ _ ⟨B1,rfl,rfl⟩;refine W ?_;obtain ⟨y2,hy2,h⟩:=aa h;refine gD (im (eI hy2) pO J J J (ai) dV) ?_;rintro _ _ ⟨_,⟨rfl,rfl⟩,rfl⟩;refine W ?_;obtain ⟨b3,hb3,h⟩:=aa h;refine aH 5 13 b3 ?_ ?_
 ·clear h;refine aD 8 J (fun g3=> ?_) (fun g3=> ?_)
  ·have h:=ad g3 hb3;refine W ?_;obtain ⟨y4,hy4,h⟩:=aa h;refine cc (im (eI hy4) pO J J J (ai) dV) J (bi g3 J) J ?_;rintro _ _ ⟨_,⟨rfl,rfl⟩,rfl⟩;refine W ?_;obtain rfl:=ao h;exact ab sA (cS [0] 1)
  have h:=ae g3 hb3;refine W ?_;obtain rfl:=ao h;exact ab sA (cS [0] 1)
 refine W ?_;obtain ⟨b5,hb5,h⟩:=aa h;refine aH 5 19 b5 ?_ ?_
 ·clear h;refine aD 14 J (fun g5=> ?_) (fun g5=> ?_)
  ·have h:=ad g5 hb5;refine W ?_;obtain ⟨y6,hy6,h⟩:=aa h;refine cc (im (eI hy6) pO J J J (ai) dV) J (bi g5 J) J ?_;rintro _ _ ⟨_,⟨rfl,rfl⟩,rfl⟩;refine W ?_;obtain rfl:=ao h;exact ab sA (cS [0] 1)
  have h:=ae g5 hb5;refine W ?_;obtain rfl:=ao h;exact ab sA (cS [0] 1)
 refine W ?_;obtain ⟨b7,hb7,h⟩:=aa h;refine aH 5 25 b7 ?_ ?_
 ·clear h;refine aD 20 J (fun g7=> ?_) (fun g7=> ?_)
  ·have h:=ad g7 hb7;refine W ?_;obtain ⟨y8,hy8,h⟩:=aa h;refine cc (im (eI hy8) pO J J J (ai) dV) J (bi g7 J) J ?_;rintro _ _ ⟨_,⟨rfl,rfl⟩,rfl⟩;refine W ?_;obtain rfl:=ao h;exact ab sA (cS [0] 1)
  have h:=ae g7 hb7;refine W ?_;obtain rfl:=ao h;exact ab sA (cS [0] 1)
 refine W ?_;obtain ⟨b9,hb9,h⟩:=aa h;refine aH 5 31 b9 ?_ ?_
 ·clear h;refine aD 26 J (fun g9=> ?_) (fun g9=> ?_)
  ·have h:=ad g9 hb9;refine W ?_;obtain ⟨y10,hy10,h⟩:=aa h;refine cc (im (eI hy10) pO J J J (ai) dV) J (bi g9 J) J ?_;rintro _ _ ⟨_,⟨rfl,rfl⟩,rfl⟩;refine W ?_;obtain rfl:=ao h;exact ab sA (cS [0] 1)
  have h:=ae g9 hb9;refine W ?_;obtain rfl:=ao h;exact ab sA (cS [0] 1)
 refine W ?_;obtain ⟨b11,hb11,h⟩:=aa h;refine aH 5 37 b11 ?_ ?_
 ·clear h;refine aD 32 J (fun g11=> ?_) (fun g11=> ?_)
  ·have h:=ad g11 hb11;refine W ?_;obtain ⟨y12,hy12,h⟩:=aa h;refine cc (im (eI hy12) pO J J J (ai) dV) J (bi g11 J) J ?_;rintro _ _ ⟨_,⟨rfl,rfl⟩,rfl⟩;refine W ?_;obtain rfl:=ao h;exact ab sA (cS [0] 1)
  have h:=ae g11 hb11;refine W ?_;obtain rfl:=ao h;exact ab sA (cS [0] 1)
 refine W ?_;obtain ⟨b13,hb13,h⟩:=aa h;refine aH 5 43 b13 ?_ ?_
 ·clear h;refine aD 38 J (fun g13=> ?_) (fun g13=> ?_)
  ·have h:=ad g13 hb13;refine W ?_;obtain ⟨y14,hy14,h⟩:=aa h;refine cc (im (eI hy14) pO J J J (ai) dV) J (bi g13 J) J ?_;rintro _ _ ⟨_,⟨rfl,rfl⟩,rfl⟩;refine W ?_;obtain rfl:=ao h;exact ab sA (cS [0] 1)
  have h:=ae g13 hb13;refine W ?_;obtain rfl:=ao h;exact ab sA (cS [0] 1)
 refine W ?_;obtain rfl:=ao h;exact aO J J (cS [] 1) ⟨J,J⟩
theorem tx {r:Bool}: ∀v post,((fun (u:Value) (post:List Chunk)=>u=.bool r∧post=[])) v post→ ∀c∈post,cF c:=by
 rintro _ _ ⟨rfl,rfl⟩;exact ai
def sF (N:Nat):Option Lc:=
 some (⟨([]:(List (Int×Bool)))⟩:Lc)
theorem xv {N:Nat}{r:Lc}(h:sF N=some r):Okc Tryz.prog 148 [] ([]) (fun u post=> ∃B0 M1,u=pV B0 0∧post=[al B0 247 [.map (some M1)],aP dG dL M1 r.at_]):=by
 refine bB Tryz.func148 J J ?_;simp only [ba];refine W ?_;refine gD (wa (ek:=dG) (ev:=dL)) ?_;rintro _ _ ⟨M1,rfl,rfl⟩;refine gE (bg J (Eg _)) ?_;refine gD (aT J J) ?_;rintro _ _ ⟨B2,rfl,rfl⟩;refine W ?_;obtain rfl:=ao h;exact aO J J (cS [0,1] 2) ⟨_,_,J,J⟩
def wv (N:Nat):Option K1:=
 (sF N).bind fun y1=>some (⟨(⟨[],[]⟩:K8),[],[],y1⟩:K1)
theorem AT {N:Nat}{r:K1}(h:wv N=some r):Okc Tryz.prog 86 [] ([]) (fun u post=> ∃B0 A1 n1 c1 A2 n2 c2 A3 n3 c3 A4 n4 c4 B5 M6,u=pV B0 0∧post=[al B0 199 [U A1 n1 c1,U A2 n2 c2,U A3 n3 c3,U A4 n4 c4,pV B5 0],bL A1 n1 c1 r.m_.Young,bL A2 n2 c2 r.m_.Old,bh A3 n3 c3 r.roots_,bh A4 n4 c4 r.pending_,al B5 247 [.map (some M6)],aP dG dL M6 r.set_.at_]):=by
 refine bB Tryz.func86 J J ?_;simp only [ba];refine W ?_;obtain ⟨y1,hy1,h⟩:=aa h;refine gD (aI (xv hy1) Hy J (aG [] [] [] 0 J)) ?_;rintro _ _ ⟨_,⟨B2,M3,rfl,rfl⟩,rfl⟩;refine gE (bg J (Ei _)) ?_;refine gD (aT J J) ?_;rintro _ _ ⟨B4,rfl,rfl⟩;refine W ?_;obtain rfl:=ao h;exact aO J J ((gy qB 138 _).trans ((gy qB 138 _).trans ((gy bS 30 _).trans ((gy bS 30 _).trans (cS [4,3,2,1,0,5,6] 7))))) ⟨_,_,_,_,_,_,_,_,_,_,_,_,_,_,_,J,J⟩
def uf (N:Nat):Option K9:=
 some (⟨([(⟨(-1),(⟨0,0,⟨#[]⟩⟩:Lj),0,0⟩:Lh)]:List Lh),([]:(List (Lb×Int)))⟩:K9)
theorem yP {N:Nat}{r:K9}(h:uf N=some r):Okc Tryz.prog 87 [] ([]) (fun u post=> ∃B0 A1 n1 c1 M2,u=pV B0 0∧post=[al B0 205 [U A1 n1 c1,.map (some M2)],d6 A1 n1 c1 r.shapes_,aP aL dE M2 r.next_]):=by
 refine bB Tryz.func87 J J ?_;simp only [ba];refine W ?_;refine gE (bg J (Eh _)) ?_;refine gD (ce (R:=rj) (vss:=[[iV (-1),iV 0,iV 0,.string (⟨#[]⟩),iV 0,iV 0]]) (xs:=[(⟨(-1),(⟨0,0,⟨#[]⟩⟩:Lj),0,0⟩:Lh)]) J (t5 _ _ _ _ _ _) J J (fun _ _ hr=> .cons J All2.nil)) ?_;rintro _ _ ⟨A1,n1,c1,rfl,rfl⟩;refine gD (wa (ek:=aL) (ev:=dE)) ?_;rintro _ _ ⟨M2,rfl,rfl⟩;refine gE (bg J (Bn _ _ _ _)) ?_;refine gD (aT J J) ?_;rintro _ _ ⟨B3,rfl,rfl⟩;refine W ?_;obtain rfl:=ao h;exact aO J J (cS [0,2,1] 3) ⟨_,_,_,_,_,J,J⟩
def cg (N:Nat)(a0:K1):Option Bool:=
 some false
theorem eP {N:Nat}{a0:K1}{r:Bool}(h:cg N a0=some r):Okc Tryz.prog 149 [pV B1 0] ([bd B1 199 [U A2 n2 c2,U A3 n3 c3,U A4 n4 c4,U A5 n5 c5,pV B6 0],qm A2 n2 c2 a0.m_.Young,qm A3 n3 c3 a0.m_.Old,dK A4 n4 c4 a0.roots_,dK A5 n5 c5 a0.pending_,bd B6 247 [.map (some M7)],iM dG dL M7 a0.set_.at_]) (fun u post=>u=.bool r∧post=[]):=by
 refine bB Tryz.func149 J J ?_;simp only [ba];refine W ?_;refine gE (fJ J Tryz.underlying142) ?_;refine W ?_;refine gR (cI 0 J J tH J) ?_;refine gE (fJ J Tryz.underlying193) ?_;refine W ?_;obtain rfl:=ao h;exact aO J J (cS [] 7) ⟨J,J⟩
theorem d7 {r:Bool}: ∀v post,((fun (u:Value) (post:List Chunk)=>u=.bool r∧post=[])) v post→ ∀c∈post,cF c:=by
 rintro _ _ ⟨rfl,rfl⟩;exact ai
def AU (N:Nat):Option Bool:=
 some true
def ir (N:Nat)(a0:K1)(a1:Int):Option Lf:=
 (cg N a0).bind fun y9=>(bif y9 then (some true) else (some (decide (a1<0)))).bind fun b10=>(bif b10 then (some true) else (some (decide ((a0.roots_.length:Int)≤a1)))).bind fun b11=>bif b11 then (some (⟨0,0,⟨#[]⟩⟩:Lf)) else ((bE a0.roots_ a1).bind fun x13=>some x13)
theorem jb {N:Nat}{a0:K1}{a1:Int}{r:Lf}(h:ir N a0 a1=some r):Okc Tryz.prog 95 [pV B1 0,iV a1] ([bd B1 199 [U A2 n2 c2,U A3 n3 c3,U A4 n4 c4,U A5 n5 c5,pV B6 0],qm A2 n2 c2 a0.m_.Young,qm A3 n3 c3 a0.m_.Old,dK A4 n4 c4 a0.roots_,dK A5 n5 c5 a0.pending_,bd B6 247 [.map (some M7)],iM dG dL M7 a0.set_.at_]) (fun u post=>u=(bQ r)∧post=[]):=by
 refine bB Tryz.func95 J J ?_;simp only [ba];refine W ?_;refine gD (aM eA J) ?_;rintro _ _ ⟨B8,rfl,rfl⟩;refine W ?_;refine aB ?_;refine W ?_;obtain ⟨y9,hy9,h⟩:=aa h;refine gD (ap (eP hy9) ry J (hJ (aq (i:=1) J J) (hJ (aq (i:=2) J J) (hJ (aq (i:=3) J J) (hJ (aq (i:=4) J J) (hJ (aq (i:=5) J J) (hJ (aq (i:=6) J J) (hJ (aq (i:=7) J J) ai))))))) d7) ?_;rintro _ _ ⟨_,⟨rfl,rfl⟩,rfl⟩;refine W ?_;obtain ⟨b10,hb10,h⟩:=aa h;refine aH 3 10 b10 ?_ ?_
 ·clear h;refine aD 7 J (fun g10=> ?_) (fun g10=> ?_)
  ·have h:=ad g10 hb10;refine W ?_;obtain rfl:=ao h;exact ab sA (cS [0,1,2,3,4,5,6,7] 8)
  have h:=ae g10 hb10;refine W ?_;obtain rfl:=ao h;exact ab sA (cS [0,1,2,3,4,5,6,7] 8)
 refine W ?_;obtain ⟨b11,hb11,h⟩:=aa h;refine aH 8 19 b11 ?_ ?_
 ·clear h;refine aD 11 J (fun g11=> ?_) (fun g11=> ?_)
  ·have h:=ad g11 hb11;refine W ?_;obtain rfl:=ao h;exact ab sA (cS [0,1,2,3,4,5,6,7] 8)
  have h:=ae g11 hb11;refine W ?_;refine bY (cI 1 J J gW J) J (co g11 J) J ?_;refine bY (bJ 4 J aQ J hU) J (co g11 J) J ?_;refine W ?_;obtain rfl:=ao h;exact ab sA (cS [0,1,2,3,4,5,6,7] 8)
 refine W ?_;refine av J (fun g12=> ?_) (fun g12=> ?_)
 ·replace h:=ad g12 h;refine W ?_;refine gE (bg J (gu)) ?_;refine gO (aw (us:=[iV 0,iV 0,.string (⟨#[]⟩)]) (cs':=[iV 0,iV 0,.string (⟨#[]⟩)]) 0 J J J J be J J J) ?_;rintro _ _ rfl;refine W ?_;obtain rfl:=ao h;exact cG (rs:=[.cell 4 30]) (vs:=[.agg #[iV 0,iV 0,.string (⟨#[]⟩)]]) J (.cons (bA 0 J J aN) .nil) J (cS [] 8) ⟨J,J⟩
 replace h:=ae g12 h;refine W ?_;refine gR (cI 1 J J gW J) ?_;refine W ?_;obtain ⟨x13,hx13,h⟩:=aa h;obtain ⟨lx13,ux13,hx13⟩:=aJ hx13;refine gR (bn 4 J aQ J J hU be lx13 ux13) ?_;refine gR (br (us:=[iV x13.Kind,iV x13.N,.string x13.S]) 4 J aQ J hx13 aN (fun _ _ _ h=>by rw [show _=_ from h];rfl)) ?_;refine gO (aw (us:=[iV x13.Kind,iV x13.N,.string x13.S]) (cs':=[iV x13.Kind,iV x13.N,.string x13.S]) 0 J J J J be J J J) ?_;rintro _ _ rfl;refine W ?_;obtain rfl:=ao h;exact cG (rs:=[.cell 4 30]) (vs:=[.agg #[iV x13.Kind,iV x13.N,.string x13.S]]) J (.cons (bA 0 J J aN) .nil) J (cS [] 8) ⟨J,J⟩
theorem ig {r:Lf}: ∀v post,((fun (u:Value) (post:List Chunk)=>u=(bQ r)∧post=[])) v post→ ∀c∈post,cF c:=by
 rintro _ _ ⟨rfl,rfl⟩;exact ai
def iT (N:Nat){σ:Type}(fy:(Bool×Lf)→σ→Option (Bool×σ))(a1:La):Nat→Int→σ→Option σ
 |0,_,_=>none
 |m15+1,p16,p17=>bif decide (p16<(a1.More.length:Int)) then ((bE a1.More p16).bind fun x19=>(bif !decide (a1.Kind=8) then ((bif !decide (a1.Kind=10) then (some true) else (some (decide (p16.tmod 2=0)))).bind fun b22=>some b22) else (some false)).bind fun b21=>(fy (b21,x19) p17).bind fun y23=>bif !y23.1 then (some y23.2) else (cV (bC (p16+1)) ((iT N fy a1 m15) (p16+1) y23.2))) else (some p17)
def qS (N:Nat){σ:Type}(fy:(Bool×Lf)→σ→Option (Bool×σ))(a1:La)(p5:σ):Option σ:=
 iT N fy a1 N 0 p5
def jy (N:Nat){σ:Type}(fy:(Bool×Lf)→σ→Option (Bool×σ))(a1:La):Nat→Int→σ→Option σ
 |0,_,_=>none
 |m6+1,p7,p8=>bif decide (p7<(a1.Slots.length:Int)) then ((bE a1.Slots p7).bind fun x10=>(fy (true,x10) p8).bind fun y12=>bif !y12.1 then (some y12.2) else (cV (bC (p7+1)) ((jy N fy a1 m6) (p7+1) y12.2))) else (qS N fy a1 p8)
def gU (N:Nat){σ:Type}(a1:La)(fy:(Bool×Lf)→σ→Option (Bool×σ))(s0:σ):Option σ:=
 jy N fy a1 N 0 s0
set_option maxHeartbeats 4000000 in
theorem qR {N:Nat}{σ:Type}{a1:La}{fy:(Bool×Lf)→σ→Option (Bool×σ)}{s0:σ}{r:σ}(h:gU N a1 fy s0=some r){l:Nat}{G:σ→List Chunk}(hY:pT Tryz.prog l G (fun x=> [.bool x.1,.agg #[iV x.2.Kind,iV x.2.N,.string x.2.S]]) fy):Okc Tryz.prog 238 [.func (.yield l) #[] #[],pV B1 0] (bd B1 138 [iV a1.Kind,iV a1.Shape,iV a1.Flags,iV a1.Age,U A2 n2 c2,U A3 n3 c3]::dK A2 n2 c2 a1.Slots::dK A3 n3 c3 a1.More::(G s0)) (fun u post=>u=.tuple #[]∧post=G r):=by
 refine bB Tryz.func238 J J ?_;simp only [ba];refine bc (fun s L=> ∃p5,qS N fy a1 p5=some r∧s=[(0,.func (.yield l) #[] #[]),(1,pV B1 0)]∧L=dK A2 n2 c2 a1.Slots::dK A3 n3 c3 a1.More::bd B1 138 [iV a1.Kind,iV a1.Shape,iV a1.Flags,iV a1.Age,U A2 n2 c2,U A3 n3 c3]::(G p5)) ?_ ?_
 ·refine W ?_;refine gR (cI 0 J J gW J) ?_;refine gR (bJ 1 J aQ J hU) ?_;refine W ?_;refine cv (fun m s L=> ∃p7 p8,jy N fy a1 m p7 p8=some r∧s=[(0,.func (.yield l) #[] #[]),(1,pV B1 0),(9,U A2 n2 c2),(10,iV (a1.Slots.length:Int)),(11,iV p7)]∧L=dK A2 n2 c2 a1.Slots::dK A3 n3 c3 a1.More::bd B1 138 [iV a1.Kind,iV a1.Shape,iV a1.Flags,iV a1.Age,U A2 n2 c2,U A3 n3 c3]::(G p8)) N _ _ ⟨0,s0,h,J,J⟩ sA (cS [1,2,0] 3) ?_;rintro (_|m6) _ _ ⟨p7,p8,h,rfl,rfl⟩
  ·exact bq h
  rw [jy.eq_2] at h;refine W ?_;refine aB ?_;refine av J (fun g9=> ?_) (fun g9=> ?_)
  ·replace h:=ad g9 h;refine W ?_;refine aB ?_;refine W ?_;obtain ⟨x10,hx10,h⟩:=aa h;obtain ⟨lx10,ux10,hx10⟩:=aJ hx10;refine gR (bn 0 J aQ J J hU be lx10 ux10) ?_;refine gR (br (us:=[iV x10.Kind,iV x10.N,.string x10.S]) 0 J aQ J hx10 aN (fun _ _ _ h=>by rw [show _=_ from h];rfl)) ?_;refine gD (aM eA J) ?_;rintro _ _ ⟨B11,rfl,rfl⟩;refine gO (aw (us:=[iV x10.Kind,iV x10.N,.string x10.S]) (cs':=[iV x10.Kind,iV x10.N,.string x10.S]) 0 J J J J be J J J) ?_;rintro _ _ rfl;refine W ?_;refine gR (aj (us:=[iV x10.Kind,iV x10.N,.string x10.S]) 0 J J aN J) ?_;obtain ⟨y12,hy12,h⟩:=aa h;refine gD (tG (a:=(true,x10)) [al B11 30 [iV x10.Kind,iV x10.N,.string x10.S],dK A2 n2 c2 a1.Slots,dK A3 n3 c3 a1.More,bd B1 138 [iV a1.Kind,iV a1.Shape,iV a1.Flags,iV a1.Age,U A2 n2 c2,U A3 n3 c3]] hY hy12 J J) ?_;rintro _ _ ⟨rfl,rfl⟩;refine W ?_;refine av J (fun g13=> ?_) (fun g13=> ?_)
   ·replace h:=ad g13 h;refine W ?_;obtain rfl:=ao h;exact yr J (cS [] 4) ⟨J,J⟩
   replace h:=ae g13 h;refine W ?_;obtain ⟨q14,h⟩:=aA h;refine gE (bF J J q14.1 q14.2) ?_;refine W ?_;exact ⟨m6,_,_,Lo _,⟨p7+1,y12.2,h,J,J⟩,sA,cS [1,2,3] 4⟩
  replace h:=ae g9 h;refine W ?_;exact ⟨_,_,⟨p8,h,J,J⟩,sA,cS [0,1,2] 3⟩
 rintro _ _ ⟨p5,h,rfl,rfl⟩;refine W ?_;refine gR (cI 2 J J gW J) ?_;refine gR (bJ 1 J aQ J hU) ?_;refine W ?_;refine cv (fun m s L=> ∃p16 p17,iT N fy a1 m p16 p17=some r∧s=[(0,.func (.yield l) #[] #[]),(1,pV B1 0),(21,U A3 n3 c3),(22,iV (a1.More.length:Int)),(23,iV p16)]∧L=dK A3 n3 c3 a1.More::dK A2 n2 c2 a1.Slots::bd B1 138 [iV a1.Kind,iV a1.Shape,iV a1.Flags,iV a1.Age,U A2 n2 c2,U A3 n3 c3]::(G p17)) N _ _ ⟨0,p5,h,J,J⟩ sA (cS [1,0,2] 3) ?_;rintro (_|m15) _ _ ⟨p16,p17,h,rfl,rfl⟩
 ·exact bq h
 rw [iT.eq_2] at h;refine W ?_;refine aB ?_;refine av J (fun g18=> ?_) (fun g18=> ?_)
 ·replace h:=ad g18 h;refine W ?_;refine aB ?_;refine W ?_;obtain ⟨x19,hx19,h⟩:=aa h;obtain ⟨lx19,ux19,hx19⟩:=aJ hx19;refine gR (bn 0 J aQ J J hU be lx19 ux19) ?_;refine gR (br (us:=[iV x19.Kind,iV x19.N,.string x19.S]) 0 J aQ J hx19 aN (fun _ _ _ h=>by rw [show _=_ from h];rfl)) ?_;refine gD (aM eA J) ?_;rintro _ _ ⟨B20,rfl,rfl⟩;refine W ?_;refine gO (aw (us:=[iV x19.Kind,iV x19.N,.string x19.S]) (cs':=[iV x19.Kind,iV x19.N,.string x19.S]) 0 J J J J be J J J) ?_;rintro _ _ rfl;refine bG ?_;refine W ?_;refine gR (cI 3 J J dH J) ?_;refine W ?_;obtain ⟨b21,hb21,h⟩:=aa h;refine aH 9 40 b21 ?_ ?_
  ·clear h;refine aD 31 J (fun g21=> ?_) (fun g21=> ?_)
   ·have h:=ad g21 hb21;refine W ?_;refine bY (cI 3 J J dH J) J (bi g21 J) J ?_;refine W ?_;obtain ⟨b22,hb22,h⟩:=aa h;refine aH 4 39 b22 ?_ ?_
    ·clear h;refine aD 35 J (fun g22=> ?_) (fun g22=> ?_)
     ·have h:=ad g22 hb22;refine W ?_;obtain rfl:=ao h;exact ab sA (cS [0,1,2,3] 4)
     have h:=ae g22 hb22;refine W ?_;refine eR (nS J J (by decide)) J (co g22 J) J ?_;refine W ?_;obtain rfl:=ao h;exact ab sA (cS [0,1,2,3] 4)
    refine W ?_;obtain rfl:=ao h;exact ab sA (cS [0,1,2,3] 4)
   have h:=ae g21 hb21;refine W ?_;obtain rfl:=ao h;exact ab sA (cS [0,1,2,3] 4)
  refine W ?_;refine gR (aj (us:=[iV x19.Kind,iV x19.N,.string x19.S]) 0 J J aN J) ?_;obtain ⟨y23,hy23,h⟩:=aa h;refine gD (tG (a:=(b21,x19)) [al B20 30 [iV x19.Kind,iV x19.N,.string x19.S],dK A3 n3 c3 a1.More,dK A2 n2 c2 a1.Slots,bd B1 138 [iV a1.Kind,iV a1.Shape,iV a1.Flags,iV a1.Age,U A2 n2 c2,U A3 n3 c3]] hY hy23 J J) ?_;rintro _ _ ⟨rfl,rfl⟩;refine W ?_;refine av J (fun g24=> ?_) (fun g24=> ?_)
  ·replace h:=ad g24 h;refine W ?_;obtain rfl:=ao h;exact yr J (cS [] 4) ⟨J,J⟩
  replace h:=ae g24 h;refine W ?_;obtain ⟨q25,h⟩:=aA h;refine gE (bF J J q25.1 q25.2) ?_;refine W ?_;exact ⟨m15,_,_,Lo _,⟨p16+1,y23.2,h,J,J⟩,sA,cS [1,2,3] 4⟩
 replace h:=ae g18 h;refine W ?_;obtain rfl:=ao h;exact fW J (cS [] 3) ⟨J,J⟩
def so (N:Nat)(a0:La):Option Unit:=
 some ()
theorem ux {N:Nat}{a0:La}{r:Unit}(h:so N a0=some r):Okc Tryz.prog 225 [.agg #[iV a0.Kind,iV a0.Shape,iV a0.Flags,iV a0.Age,U A1 n1 c1,U A2 n2 c2]] ([dK A1 n1 c1 a0.Slots,dK A2 n2 c2 a0.More]) (fun u post=> ∃B900,u=.func (.func 238) #[] #[pV B900 0]∧post=[al B900 138 [iV a0.Kind,iV a0.Shape,iV a0.Flags,iV a0.Age,U A1 n1 c1,U A2 n2 c2]]):=by
 refine bB Tryz.func225 J J ?_;simp only [ba];refine W ?_;refine gD (aT J J) ?_;rintro _ _ ⟨B3,rfl,rfl⟩;refine W ?_;refine gE (qL J) ?_;refine W ?_;obtain rfl:=ao h;exact aO J J (cS [0] 3) ⟨_,J,J⟩
theorem rZ {a0:La}{A1:Option Addr}{n1:Nat}{c1:Nat}{A2:Option Addr}{n2:Nat}{c2:Nat}: ∀v post,((fun (u:Value) (post:List Chunk)=> ∃B900,u=.func (.func 238) #[] #[pV B900 0]∧post=[al B900 138 [iV a0.Kind,iV a0.Shape,iV a0.Flags,iV a0.Age,U A1 n1 c1,U A2 n2 c2]])) v post→ ∀c∈post,cF c:=by
 rintro _ _ ⟨_,rfl,rfl⟩;exact hJ qH (ai)
def gb (N:Nat)(a0:Lf)(p10:Bool):Option Bool:=
 bif p10 then (some (decide (1≤a0.N))) else ((bif decide (a0.N=0) then (some (decide (0≤a0.Kind))) else (some false)).bind fun b14=>(bif b14 then (some (decide (a0.Kind≤9))) else (some false)).bind fun b15=>some b15)
def gT (N:Nat)(a0:Lf):Option Bool:=
 bif decide (a0.Kind=5) then ((bif decide (a0.N=0) then (some (decide ((a0.S.size:Int)≤65536))) else (some false)).bind fun b3=>some b3) else (bif !(a0.S.toList==(⟨#[]⟩:ByteArray).toList) then (some false) else (bif decide (a0.Kind=2) then ((bif decide (a0.N=0) then (some true) else (some (decide (a0.N=1)))).bind fun b6=>some b6) else (bif decide (a0.Kind=3) then ((bif decide ((-9007199254740992)≤a0.N) then (some (decide (a0.N≤9007199254740992))) else (some false)).bind fun b8=>some b8) else (bif decide (a0.Kind=6) then (gb N a0 (decide (a0.Kind=6))) else (bif decide (a0.Kind=7) then (gb N a0 (decide (a0.Kind=7))) else (gb N a0 (decide (a0.Kind=9))))))))
set_option maxHeartbeats 4000000 in
theorem Bi {N:Nat}{a0:Lf}{r:Bool}(h:gT N a0=some r):Okc Tryz.prog 226 [(bQ a0)] ([]) (fun u post=>u=.bool r∧post=[]):=by
 refine bB Tryz.func226 J J ?_;simp only [ba];refine W ?_;refine gD (aT J J) ?_;rintro _ _ ⟨B1,rfl,rfl⟩;refine W ?_;refine aB ?_;refine W ?_;refine av J (fun g2=> ?_) (fun g2=> ?_)
 ·replace h:=ad g2 h;refine W ?_;obtain ⟨b3,hb3,h⟩:=aa h;refine aH 5 14 b3 ?_ ?_
  ·clear h;refine aD 9 J (fun g3=> ?_) (fun g3=> ?_)
   ·have h:=ad g3 hb3;refine W ?_;refine eR (lr J Ex) J (bi g3 J) J ?_;refine W ?_;obtain rfl:=ao h;exact ab sA (cS [0] 1)
   have h:=ae g3 hb3;refine W ?_;obtain rfl:=ao h;exact ab sA (cS [0] 1)
  refine W ?_;obtain rfl:=ao h;exact aO J J (cS [] 1) ⟨J,J⟩
 replace h:=ae g2 h;refine W ?_;refine aB ?_;refine W ?_;refine gE (wB J J) ?_;refine W ?_;refine av J (fun g4=> ?_) (fun g4=> ?_)
 ·replace h:=ad g4 h;refine W ?_;obtain rfl:=ao h;exact aO J J (cS [] 1) ⟨J,J⟩
 replace h:=ae g4 h;refine W ?_;refine aB ?_;refine W ?_;refine av J (fun g5=> ?_) (fun g5=> ?_)
 ·replace h:=ad g5 h;refine W ?_;obtain ⟨b6,hb6,h⟩:=aa h;refine aH 4 29 b6 ?_ ?_
  ·clear h;refine aD 25 J (fun g6=> ?_) (fun g6=> ?_)
   ·have h:=ad g6 hb6;refine W ?_;obtain rfl:=ao h;exact ab sA (cS [0] 1)
   have h:=ae g6 hb6;refine W ?_;obtain rfl:=ao h;exact ab sA (cS [0] 1)
  refine W ?_;obtain rfl:=ao h;exact aO J J (cS [] 1) ⟨J,J⟩
 replace h:=ae g5 h;refine W ?_;refine av J (fun g7=> ?_) (fun g7=> ?_)
 ·replace h:=ad g7 h;refine W ?_;obtain ⟨b8,hb8,h⟩:=aa h;refine aH 4 39 b8 ?_ ?_
  ·clear h;refine aD 35 J (fun g8=> ?_) (fun g8=> ?_)
   ·have h:=ad g8 hb8;refine W ?_;obtain rfl:=ao h;exact ab sA (cS [0] 1)
   have h:=ae g8 hb8;refine W ?_;obtain rfl:=ao h;exact ab sA (cS [0] 1)
  refine W ?_;obtain rfl:=ao h;exact aO J J (cS [] 1) ⟨J,J⟩
 replace h:=ae g7 h;refine bc (fun s L=> ∃p10,gb N a0 p10=some r∧s=[(1,pV B1 0),(2,.bool false),(40,.bool p10)]∧L=[al B1 30 (aE a0)]) ?_ ?_
 ·refine W ?_;refine av J (fun g11=> ?_) (fun g11=> ?_)
  ·replace h:=ad g11 h;refine W ?_;exact ⟨_,_,⟨decide (a0.Kind=6),h,J,J⟩,sA,cS [0] 1⟩
  replace h:=ae g11 h;refine W ?_;refine av J (fun g12=> ?_) (fun g12=> ?_)
  ·replace h:=ad g12 h;refine W ?_;exact ⟨_,_,⟨decide (a0.Kind=7),h,J,J⟩,sA,cS [0] 1⟩
  replace h:=ae g12 h;refine W ?_;exact ⟨_,_,⟨decide (a0.Kind=9),h,J,J⟩,sA,cS [0] 1⟩
 rintro _ _ ⟨p10,h,rfl,rfl⟩;refine av J (fun g13=> ?_) (fun g13=> ?_)
 ·replace h:=ad g13 h;refine W ?_;obtain rfl:=ao h;exact aO J J (cS [] 1) ⟨J,J⟩
 replace h:=ae g13 h;refine W ?_;obtain ⟨b14,hb14,h⟩:=aa h;refine aH 4 54 b14 ?_ ?_
 ·clear h;refine aD 50 J (fun g14=> ?_) (fun g14=> ?_)
  ·have h:=ad g14 hb14;refine W ?_;obtain rfl:=ao h;exact ab sA (cS [0] 1)
  have h:=ae g14 hb14;refine W ?_;obtain rfl:=ao h;exact ab sA (cS [0] 1)
 refine W ?_;obtain ⟨b15,hb15,h⟩:=aa h;refine aH 4 59 b15 ?_ ?_
 ·clear h;refine aD 55 J (fun g15=> ?_) (fun g15=> ?_)
  ·have h:=ad g15 hb15;refine W ?_;obtain rfl:=ao h;exact ab sA (cS [0] 1)
  have h:=ae g15 hb15;refine W ?_;obtain rfl:=ao h;exact ab sA (cS [0] 1)
 refine W ?_;obtain rfl:=ao h;exact aO J J (cS [] 1) ⟨J,J⟩
theorem xI {r:Bool}: ∀v post,((fun (u:Value) (post:List Chunk)=>u=.bool r∧post=[])) v post→ ∀c∈post,cF c:=by
 rintro _ _ ⟨rfl,rfl⟩;exact ai
def gc (N:Nat)(p2:Bool):Option Bool:=
 bif p2 then (some true) else (some false)
def lU (N:Nat)(a0:Int):Option Bool:=
 bif decide (a0=1) then (gc N (decide (a0=1))) else (bif decide (a0=2) then (gc N (decide (a0=2))) else (bif decide (a0=3) then (gc N (decide (a0=3))) else (bif decide (a0=6) then (gc N (decide (a0=6))) else (bif decide (a0=8) then (gc N (decide (a0=8))) else (bif decide (a0=9) then (gc N (decide (a0=9))) else (gc N (decide (a0=10))))))))
theorem Bj {N:Nat}{a0:Int}{r:Bool}(h:lU N a0=some r):Okc Tryz.prog 239 [iV a0] ([]) (fun u post=>u=.bool r∧post=[]):=by
 refine bB Tryz.func239 J J ?_;simp only [ba];refine W ?_;refine aB ?_;refine W ?_;refine bc (fun s L=> ∃p2,gc N p2=some r∧s=[(2,.bool false),(4,.bool p2)]∧L=[]) ?_ ?_
 ·refine W ?_;refine av J (fun g3=> ?_) (fun g3=> ?_)
  ·replace h:=ad g3 h;refine W ?_;exact ⟨_,_,⟨decide (a0=1),h,J,J⟩,sA,cS [] 0⟩
  replace h:=ae g3 h;refine W ?_;refine av J (fun g4=> ?_) (fun g4=> ?_)
  ·replace h:=ad g4 h;refine W ?_;exact ⟨_,_,⟨decide (a0=2),h,J,J⟩,sA,cS [] 0⟩
  replace h:=ae g4 h;refine W ?_;refine av J (fun g5=> ?_) (fun g5=> ?_)
  ·replace h:=ad g5 h;refine W ?_;exact ⟨_,_,⟨decide (a0=3),h,J,J⟩,sA,cS [] 0⟩
  replace h:=ae g5 h;refine W ?_;refine av J (fun g6=> ?_) (fun g6=> ?_)
  ·replace h:=ad g6 h;refine W ?_;exact ⟨_,_,⟨decide (a0=6),h,J,J⟩,sA,cS [] 0⟩
  replace h:=ae g6 h;refine W ?_;refine av J (fun g7=> ?_) (fun g7=> ?_)
  ·replace h:=ad g7 h;refine W ?_;exact ⟨_,_,⟨decide (a0=8),h,J,J⟩,sA,cS [] 0⟩
  replace h:=ae g7 h;refine W ?_;refine av J (fun g8=> ?_) (fun g8=> ?_)
  ·replace h:=ad g8 h;refine W ?_;exact ⟨_,_,⟨decide (a0=9),h,J,J⟩,sA,cS [] 0⟩
  replace h:=ae g8 h;refine W ?_;exact ⟨_,_,⟨decide (a0=10),h,J,J⟩,sA,cS [] 0⟩
 rintro _ _ ⟨p2,h,rfl,rfl⟩;refine av J (fun g9=> ?_) (fun g9=> ?_)
 ·replace h:=ad g9 h;refine W ?_;obtain rfl:=ao h;exact aO J J (cS [] 0) ⟨J,J⟩
 replace h:=ae g9 h;refine W ?_;obtain rfl:=ao h;exact aO J J (cS [] 0) ⟨J,J⟩
theorem xK {r:Bool}: ∀v post,((fun (u:Value) (post:List Chunk)=>u=.bool r∧post=[])) v post→ ∀c∈post,cF c:=by
 rintro _ _ ⟨rfl,rfl⟩;exact ai
def fk (N:Nat)(a0:Lf)(a1:Int):Option Bool:=
 (bif decide (a0.Kind=0) then (some true) else (some (decide (a0.Kind=a1)))).bind fun b2=>some b2
theorem iv {N:Nat}{a0:Lf}{a1:Int}{r:Bool}(h:fk N a0 a1=some r):Okc Tryz.prog 240 [(bQ a0),iV a1] ([]) (fun u post=>u=.bool r∧post=[]):=by
 refine bB Tryz.func240 J J ?_;simp only [ba];refine W ?_;refine gD (aT J J) ?_;rintro _ _ ⟨B1,rfl,rfl⟩;refine W ?_;obtain ⟨b2,hb2,h⟩:=aa h;refine aH 5 13 b2 ?_ ?_
 ·clear h;refine aD 8 J (fun g2=> ?_) (fun g2=> ?_)
  ·have h:=ad g2 hb2;refine W ?_;obtain rfl:=ao h;exact ab sA (cS [0] 1)
  have h:=ae g2 hb2;refine W ?_;obtain rfl:=ao h;exact ab sA (cS [0] 1)
 refine W ?_;obtain rfl:=ao h;exact aO J J (cS [] 1) ⟨J,J⟩
theorem gg {r:Bool}: ∀v post,((fun (u:Value) (post:List Chunk)=>u=.bool r∧post=[])) v post→ ∀c∈post,cF c:=by
 rintro _ _ ⟨rfl,rfl⟩;exact ai
def eK (N:Nat)(a0:La):Option Bool:=
 (lU N a0.Kind).bind fun y4=>(bif y4 then (some true) else ((bif decide (a0.Kind=7) then (some (decide (0<(a0.Slots.length:Int)))) else (some false)).bind fun b6=>some b6)).bind fun b5=>bif b5 then ((bif decide (1≤(a0.Slots.length:Int)) then (some (decide ((a0.Slots.length:Int)≤1025))) else (some false)).bind fun b8=>(bif b8 then ((bE a0.Slots 0).bind fun x10=>(bif decide (x10.Kind=1) then (some true) else ((bE a0.Slots 0).bind fun x12=>some (decide (x12.Kind=7)))).bind fun b11=>some b11) else (some false)).bind fun b9=>some b9) else (bif decide (a0.Kind=7) then (some (decide (a0.Shape=0))) else ((bif !decide (a0.Shape=0) then (some true) else (some (!decide (a0.Flags=0)))).bind fun b14=>bif b14 then (some false) else (bif decide (a0.Kind=5) then ((bif decide ((a0.Slots.length:Int)=2) then ((bE a0.Slots 0).bind fun x18=>(fk N x18 7).bind fun y19=>some y19) else (some false)).bind fun b17=>(bif b17 then ((bE a0.Slots 1).bind fun x21=>(fk N x21 7).bind fun y22=>some y22) else (some false)).bind fun b20=>some b20) else (some (decide ((a0.Slots.length:Int)=0))))))
set_option maxHeartbeats 4000000 in
theorem sn {N:Nat}{a0:La}{r:Bool}(h:eK N a0=some r):Okc Tryz.prog 227 [.agg #[iV a0.Kind,iV a0.Shape,iV a0.Flags,iV a0.Age,U A1 n1 c1,U A2 n2 c2]] ([dK A1 n1 c1 a0.Slots,dK A2 n2 c2 a0.More]) (fun u post=>u=.bool r∧post=[]):=by
 refine bB Tryz.func227 J J ?_;simp only [ba];refine W ?_;refine gD (aT J J) ?_;rintro _ _ ⟨B3,rfl,rfl⟩;refine W ?_;refine aB ?_;refine W ?_;obtain ⟨y4,hy4,h⟩:=aa h;refine gD (ap (Bj hy4) Hc J (ai) xK) ?_;rintro _ _ ⟨_,⟨rfl,rfl⟩,rfl⟩;refine W ?_;obtain ⟨b5,hb5,h⟩:=aa h;refine aH 10 16 b5 ?_ ?_
 ·clear h;refine aD 6 J (fun g5=> ?_) (fun g5=> ?_)
  ·have h:=ad g5 hb5;refine W ?_;obtain rfl:=ao h;exact ab sA (cS [0,1,2] 3)
  have h:=ae g5 hb5;refine W ?_;obtain ⟨b6,hb6,h⟩:=aa h;refine aH 5 15 b6 ?_ ?_
  ·clear h;refine aD 10 J (fun g6=> ?_) (fun g6=> ?_)
   ·have h:=ad g6 hb6;refine W ?_;refine bY (bJ 1 J aQ J hU) J (bi g6 J) J ?_;refine W ?_;obtain rfl:=ao h;exact ab sA (cS [0,1,2] 3)
   have h:=ae g6 hb6;refine W ?_;obtain rfl:=ao h;exact ab sA (cS [0,1,2] 3)
  refine W ?_;obtain rfl:=ao h;exact ab sA (cS [0,1,2] 3)
 refine W ?_;refine av J (fun g7=> ?_) (fun g7=> ?_)
 ·replace h:=ad g7 h;refine W ?_;refine gR (bJ 1 J aQ J hU) ?_;refine W ?_;obtain ⟨b8,hb8,h⟩:=aa h;refine aH 5 26 b8 ?_ ?_
  ·clear h;refine aD 21 J (fun g8=> ?_) (fun g8=> ?_)
   ·have h:=ad g8 hb8;refine W ?_;refine bY (bJ 1 J aQ J hU) J (bi g8 J) J ?_;refine W ?_;obtain rfl:=ao h;exact ab sA (cS [0,1,2] 3)
   have h:=ae g8 hb8;refine W ?_;obtain rfl:=ao h;exact ab sA (cS [0,1,2] 3)
  refine W ?_;obtain ⟨b9,hb9,h⟩:=aa h;refine aH 15 42 b9 ?_ ?_
  ·clear h;refine aD 27 J (fun g9=> ?_) (fun g9=> ?_)
   ·have h:=ad g9 hb9;refine W ?_;obtain ⟨x10,hx10,h⟩:=aa h;obtain ⟨lx10,ux10,hx10⟩:=aJ hx10;refine bY (bn 1 J aQ J J hU be lx10 ux10) J (bi g9 J) J ?_;refine bY (pE 1 J aQ J (toNat_lt lx10 ux10) md) J (bi g9 J) J ?_;refine bY (eV (u:=iV x10.Kind) 1 J aQ J hx10 dH (fun _ _ _ h=>by rw [show _=_ from h];rfl)) J (bi g9 J) J ?_;refine W ?_;obtain ⟨b11,hb11,h⟩:=aa h;refine aH 7 41 b11 ?_ ?_
    ·clear h;refine aD 34 J (fun g11=> ?_) (fun g11=> ?_)
     ·have h:=ad g11 hb11;refine W ?_;obtain rfl:=ao h;exact ab sA (cS [0,1,2] 3)
     have h:=ae g11 hb11;refine W ?_;obtain ⟨x12,hx12,h⟩:=aa h;obtain ⟨lx12,ux12,hx12⟩:=aJ hx12;refine bY (bn 1 J aQ J J hU be lx12 ux12) J (co g11 J) J ?_;refine bY (pE 1 J aQ J (toNat_lt lx12 ux12) md) J (co g11 J) J ?_;refine bY (eV (u:=iV x12.Kind) 1 J aQ J hx12 dH (fun _ _ _ h=>by rw [show _=_ from h];rfl)) J (co g11 J) J ?_;refine W ?_;obtain rfl:=ao h;exact ab sA (cS [0,1,2] 3)
    refine W ?_;obtain rfl:=ao h;exact ab sA (cS [0,1,2] 3)
   have h:=ae g9 hb9;refine W ?_;obtain rfl:=ao h;exact ab sA (cS [0,1,2] 3)
  refine W ?_;obtain rfl:=ao h;exact aO J J (cS [] 3) ⟨J,J⟩
 replace h:=ae g7 h;refine W ?_;refine aB ?_;refine W ?_;refine av J (fun g13=> ?_) (fun g13=> ?_)
 ·replace h:=ad g13 h;refine W ?_;obtain rfl:=ao h;exact aO J J (cS [] 3) ⟨J,J⟩
 replace h:=ae g13 h;refine W ?_;refine aB ?_;refine W ?_;obtain ⟨b14,hb14,h⟩:=aa h;refine aH 4 56 b14 ?_ ?_
 ·clear h;refine aD 52 J (fun g14=> ?_) (fun g14=> ?_)
  ·have h:=ad g14 hb14;refine W ?_;obtain rfl:=ao h;exact ab sA (cS [0,1,2] 3)
  have h:=ae g14 hb14;refine W ?_;obtain rfl:=ao h;exact ab sA (cS [0,1,2] 3)
 refine W ?_;refine av J (fun g15=> ?_) (fun g15=> ?_)
 ·replace h:=ad g15 h;refine W ?_;obtain rfl:=ao h;exact aO J J (cS [] 3) ⟨J,J⟩
 replace h:=ae g15 h;refine W ?_;refine aB ?_;refine W ?_;refine av J (fun g16=> ?_) (fun g16=> ?_)
 ·replace h:=ad g16 h;refine W ?_;refine gR (bJ 1 J aQ J hU) ?_;refine W ?_;obtain ⟨b17,hb17,h⟩:=aa h;refine aH 6 70 b17 ?_ ?_
  ·clear h;refine aD 64 J (fun g17=> ?_) (fun g17=> ?_)
   ·have h:=ad g17 hb17;refine W ?_;obtain ⟨x18,hx18,h⟩:=aa h;obtain ⟨lx18,ux18,hx18⟩:=aJ hx18;refine bY (bn 1 J aQ J J hU be lx18 ux18) J (bi g17 J) J ?_;refine bY (br (us:=[iV x18.Kind,iV x18.N,.string x18.S]) 1 J aQ J hx18 aN (fun _ _ _ h=>by rw [show _=_ from h];rfl)) J (bi g17 J) J ?_;obtain ⟨y19,hy19,h⟩:=aa h;refine cc (ap (iv hy19) rv J (ai) gg) J (bi g17 J) J ?_;rintro _ _ ⟨_,⟨rfl,rfl⟩,rfl⟩;refine W ?_;obtain rfl:=ao h;exact ab sA (cS [0,1,2] 3)
   have h:=ae g17 hb17;refine W ?_;obtain rfl:=ao h;exact ab sA (cS [0,1,2] 3)
  refine W ?_;obtain ⟨b20,hb20,h⟩:=aa h;refine aH 6 77 b20 ?_ ?_
  ·clear h;refine aD 71 J (fun g20=> ?_) (fun g20=> ?_)
   ·have h:=ad g20 hb20;refine W ?_;obtain ⟨x21,hx21,h⟩:=aa h;obtain ⟨lx21,ux21,hx21⟩:=aJ hx21;refine bY (bn 1 J aQ J J hU be lx21 ux21) J (bi g20 J) J ?_;refine bY (br (us:=[iV x21.Kind,iV x21.N,.string x21.S]) 1 J aQ J hx21 aN (fun _ _ _ h=>by rw [show _=_ from h];rfl)) J (bi g20 J) J ?_;obtain ⟨y22,hy22,h⟩:=aa h;refine cc (ap (iv hy22) rv J (ai) gg) J (bi g20 J) J ?_;rintro _ _ ⟨_,⟨rfl,rfl⟩,rfl⟩;refine W ?_;obtain rfl:=ao h;exact ab sA (cS [0,1,2] 3)
   have h:=ae g20 hb20;refine W ?_;obtain rfl:=ao h;exact ab sA (cS [0,1,2] 3)
  refine W ?_;obtain rfl:=ao h;exact aO J J (cS [] 3) ⟨J,J⟩
 replace h:=ae g16 h;refine W ?_;refine gR (bJ 1 J aQ J hU) ?_;refine W ?_;obtain rfl:=ao h;exact aO J J (cS [] 3) ⟨J,J⟩
theorem qQ {r:Bool}: ∀v post,((fun (u:Value) (post:List Chunk)=>u=.bool r∧post=[])) v post→ ∀c∈post,cF c:=by
 rintro _ _ ⟨rfl,rfl⟩;exact ai
def gS (N:Nat)(a0:Lf)(a1:Int)(a2:Int):Option Bool:=
 (bif decide (a0.Kind=3) then (some (decide (a1≤a0.N))) else (some false)).bind fun b2=>(bif b2 then (some (decide (a0.N≤a2))) else (some false)).bind fun b3=>some b3
theorem iw {N:Nat}{a0:Lf}{a1:Int}{a2:Int}{r:Bool}(h:gS N a0 a1 a2=some r):Okc Tryz.prog 241 [(bQ a0),iV a1,iV a2] ([]) (fun u post=>u=.bool r∧post=[]):=by
 refine bB Tryz.func241 J J ?_;simp only [ba];refine W ?_;refine gD (aT J J) ?_;rintro _ _ ⟨B1,rfl,rfl⟩;refine W ?_;obtain ⟨b2,hb2,h⟩:=aa h;refine aH 5 15 b2 ?_ ?_
 ·clear h;refine aD 10 J (fun g2=> ?_) (fun g2=> ?_)
  ·have h:=ad g2 hb2;refine W ?_;obtain rfl:=ao h;exact ab sA (cS [0] 1)
  have h:=ae g2 hb2;refine W ?_;obtain rfl:=ao h;exact ab sA (cS [0] 1)
 refine W ?_;obtain ⟨b3,hb3,h⟩:=aa h;refine aH 5 21 b3 ?_ ?_
 ·clear h;refine aD 16 J (fun g3=> ?_) (fun g3=> ?_)
  ·have h:=ad g3 hb3;refine W ?_;obtain rfl:=ao h;exact ab sA (cS [0] 1)
  have h:=ae g3 hb3;refine W ?_;obtain rfl:=ao h;exact ab sA (cS [0] 1)
 refine W ?_;obtain rfl:=ao h;exact aO J J (cS [] 1) ⟨J,J⟩
theorem gh {r:Bool}: ∀v post,((fun (u:Value) (post:List Chunk)=>u=.bool r∧post=[])) v post→ ∀c∈post,cF c:=by
 rintro _ _ ⟨rfl,rfl⟩;exact ai
def my (N:Nat){σ:Type}(fy:(List Lf)→σ→Option (Bool×σ))(a1:(List Lf))(a2:Int):Nat→Int→σ→Option σ
 |0,_,_=>none
 |m4+1,p5,p6=>bif decide (p5<(a1.length:Int)) then (cV ((0:Int)≤p5∧p5.toNat≤a1.length∧a1.length≤a1.length) (cV (bC (p5+(min a2 (((a1.drop p5.toNat).take (a1.length - p5.toNat)).length:Int)))) (cV (bC (p5+(min a2 (((a1.drop p5.toNat).take (a1.length - p5.toNat)).length:Int)))) (cV ((0:Int)≤p5∧(0:Int)≤p5+(min a2 (((a1.drop p5.toNat).take (a1.length - p5.toNat)).length:Int))∧p5.toNat≤(p5+(min a2 (((a1.drop p5.toNat).take (a1.length - p5.toNat)).length:Int))).toNat∧(p5+(min a2 (((a1.drop p5.toNat).take (a1.length - p5.toNat)).length:Int))).toNat≤a1.length) ((fy ((a1.drop p5.toNat).take ((p5+(min a2 (((a1.drop p5.toNat).take (a1.length - p5.toNat)).length:Int))).toNat - p5.toNat)) p6).bind fun y14=>bif !y14.1 then (some y14.2) else (cV (bC (p5+a2)) ((my N fy a1 a2 m4) (p5+a2) y14.2))))))) else (some p6)
def qp (N:Nat){σ:Type}(a1:(List Lf))(a2:Int)(fy:(List Lf)→σ→Option (Bool×σ))(s0:σ):Option σ:=
 my N fy a1 a2 N 0 s0
theorem uE {N:Nat}{σ:Type}{a1:(List Lf)}{a2:Int}{fy:(List Lf)→σ→Option (Bool×σ)}{s0:σ}{r:σ}(h:qp N a1 a2 fy s0=some r){l:Nat}{G:σ→List Chunk}(hY:qZ Tryz.prog l G (fun (x:(List Lf)) vs cs=> ∃A0 n0 c0,vs=[U A0 n0 c0]∧cs=[dK A0 n0 c0 x]) fy):Okc Tryz.prog 262 [.func (.yield l) #[] #[],pV B1 0,pV B3 0] (bd B1 38 [U A2 n2 c2]::dK A2 n2 c2 a1::bd B3 3 [iV a2]::(G s0)) (fun u post=>u=.tuple #[]∧post=G r):=by
 refine bB Tryz.func262 J J ?_;simp only [ba];refine W ?_;refine cv (fun m s L=> ∃p5 p6,my N fy a1 a2 m p5 p6=some r∧s=[(0,.func (.yield l) #[] #[]),(1,pV B1 0),(2,pV B3 0),(4,iV p5)]∧L=dK A2 n2 c2 a1::bd B1 38 [U A2 n2 c2]::bd B3 3 [iV a2]::(G p6)) N _ _ ⟨0,s0,h,J,J⟩ sA (cS [1,0,2] 3) ?_;rintro (_|m4) _ _ ⟨p5,p6,h,rfl,rfl⟩
 ·exact bq h
 rw [my.eq_2] at h;refine aB ?_;refine W ?_;refine gR (cI 1 J J gW J) ?_;refine gR (bJ 0 J aQ J hU) ?_;refine W ?_;refine av J (fun g7=> ?_) (fun g7=> ?_)
 ·replace h:=ad g7 h;refine W ?_;refine aB ?_;refine eT ?_;refine aB ?_;refine bx O _ (ac _) ?_;refine zR 0 J (cI 2 J J dH J) ?_;refine zR 1 J (cI 1 J J gW J) ?_;refine zE 2 J (au J) ?_;obtain ⟨q8,h⟩:=aA h;refine FP 0 J (l:=p5.toNat) (h:=a1.length) q8.2.1 q8.2.2 ?_;rintro A9 n9 c9 e9;refine zR 3 J (uT 1 J e9 J hU be J (by rw [Int.toNat_of_nonneg q8.1];rfl) q8.2.1) ?_;refine zR 4 J (bJ 0 J aQ J hU) ?_;refine zE 5 J (IK J J KM KM) ?_;refine zE 6 J (aS J) ?_;refine bj O ?_;refine W ?_;refine gR (cI 2 J J gW J) ?_;refine W ?_;obtain ⟨q10,h⟩:=aA h;refine gE (bF J J q10.1 q10.2) ?_;refine W ?_;obtain ⟨q11,h⟩:=aA h;refine gE (bF J J q11.1 q11.2) ?_;obtain ⟨q12,h⟩:=aA h;refine Jc 1 J (l:=p5.toNat) (h:=(p5+(min a2 (((a1.drop p5.toNat).take (a1.length - p5.toNat)).length:Int))).toNat) q12.2.2.1 q12.2.2.2 ?_;rintro A13 n13 c13 e13;refine gR (Gm 2 J e13 J hU be J (by rw [Int.toNat_of_nonneg q12.1];rfl) (by rw [Int.toNat_of_nonneg q12.2.1];rfl) (by rw [Int.toNat_of_nonneg q12.2.1];rfl) q12.2.2.1 q12.2.2.2) ?_;obtain ⟨y14,hy14,h⟩:=aa h
  refine gD (DP (a:=(a1.drop p5.toNat).take ((p5+(min a2 (((a1.drop p5.toNat).take (a1.length - p5.toNat)).length:Int))).toNat - p5.toNat)) [dK A13 n13 c13 ((a1.drop p5.toNat).take ((p5+(min a2 (((a1.drop p5.toNat).take (a1.length - p5.toNat)).length:Int))).toNat - p5.toNat)),dK A9 n9 c9 ((a1.drop p5.toNat).take (a1.length - p5.toNat)),dK A2 n2 c2 a1,bd B1 38 [U A2 n2 c2],bd B3 3 [iV a2]] hY hy14 J J ⟨_,_,_,J,J⟩ (IR 0 J J)) ?_;rintro _ _ ⟨rfl,rfl⟩;refine W ?_;refine av J (fun g15=> ?_) (fun g15=> ?_)
  ·replace h:=ad g15 h;refine W ?_;obtain rfl:=ao h;exact yr J (cS [] 5) ⟨J,J⟩
  replace h:=ae g15 h;refine W ?_;refine gR (cI 4 J J dH J) ?_;obtain ⟨q16,h⟩:=aA h;refine gE (bF J J q16.1 q16.2) ?_;refine W ?_;exact ⟨m4,_,_,Lo _,⟨p5+a2,y14.2,h,J,J⟩,sA,cS [2,3,4] 5⟩
 replace h:=ae g7 h;refine W ?_;obtain rfl:=ao h;exact fW J (cS [] 3) ⟨J,J⟩
def nB (N:Nat)(a0:(List Lf))(a1:Int):Option Unit:=
 bif decide (a1<1) then none else (some ())
theorem rD {N:Nat}{a0:(List Lf)}{a1:Int}{r:Unit}(h:nB N a0 a1=some r):Okc Tryz.prog 253 [U A1 n1 c1,iV a1] ([dK A1 n1 c1 a0]) (fun u post=> ∃B900 B901,u=.func (.func 262) #[] #[pV B900 0,pV B901 0]∧post=[al B900 38 [U A1 n1 c1],al B901 3 [iV a1]]):=by
 refine bB Tryz.func253 J J ?_;simp only [ba];refine W ?_;refine gD (aT J J) ?_;rintro _ _ ⟨B2,rfl,rfl⟩;refine gD (aT J J) ?_;rintro _ _ ⟨B3,rfl,rfl⟩;refine W ?_;refine aB ?_;refine W ?_;refine av J (fun g4=> ?_) (fun g4=> ?_)
 ·replace h:=ad g4 h;exact bq h
 replace h:=ae g4 h;refine W ?_;refine gE (qL J) ?_;refine W ?_;obtain rfl:=ao h;exact aO J J (cS [1,0] 3) ⟨_,_,J,J⟩
theorem qg {a1:Int}{A1:Option Addr}{n1:Nat}{c1:Nat}: ∀v post,((fun (u:Value) (post:List Chunk)=> ∃B900 B901,u=.func (.func 262) #[] #[pV B900 0,pV B901 0]∧post=[al B900 38 [U A1 n1 c1],al B901 3 [iV a1]])) v post→ ∀c∈post,cF c:=by
 rintro _ _ ⟨_,_,rfl,rfl⟩;exact hJ qH (hJ qH (ai))
end Go.Proofs.YtanojiedimeegaaGreatDoor