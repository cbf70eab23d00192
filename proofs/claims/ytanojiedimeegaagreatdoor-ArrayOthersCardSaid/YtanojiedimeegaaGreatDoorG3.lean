/- Merged texts: part 3. No conditions of their own. -/
import Derived.Test.YtanojiedimeegaaGreatDoorG2
import Derived.Test.YtanojiedimeegaaGreatDoorChecked
import Derived.ProofKit
namespace Go.Proofs.YtanojiedimeegaaGreatDoor
theorem hN:type_of% Tryz.underlying3:=Tryz.underlying3
theorem hJ:type_of% Tryz.underlying9:=Tryz.underlying9
theorem hH:type_of% Tryz.underlying38:=Tryz.underlying38
variable {A1 A2 A3 A4 A5:Option Addr} {B1 B3 B6 M7 c1 c2 c3 c4 c5 n1 n2 n3 n4 n5:Nat}
open Go.RowKit Asn
set_option maxRecDepth 20000
structure Cs where
 Way:Int
 Steps:Int
 Calls:Int
 Made:Int
 Young:Int
 Full:Int
 Sites:Int
 deriving DecidableEq,Inhabited
def AR:Rep Cs:=.flat 7 (fun x=> [iV x.Way,iV x.Steps,iV x.Calls,iV x.Made,iV x.Young,iV x.Full,iV x.Sites]) (fun _=>rfl) (fun _=>rfl)
structure Cq where
 at_:(List (Int×Bool))
 deriving DecidableEq,Inhabited
structure Cp where
 Kind:Int
 N:Int
 S:ByteArray
 deriving DecidableEq,Inhabited
def bA:Rep Cp:=.flat 3 (fun x=> [iV x.Kind,iV x.N,.string x.S]) (fun _=>rfl) (fun _=>rfl)
structure Cl where
 Kind:Int
 Shape:Int
 Flags:Int
 Age:Int
 Slots:(List Cp)
 More:(List Cp)
 deriving DecidableEq,Inhabited
def mB:Rep Cl where
 sz:=6
 rel S w vs x:= ∃A4 n4 c4 A5 n5 c5,vs=[iV x.Kind,iV x.Shape,iV x.Flags,iV x.Age,I A4 n4 c4,I A5 n5 c5]∧SlR bA S w (I A4 n4 c4) x.Slots∧SlR bA S w (I A5 n5 c5) x.More
 loc:=fun h ⟨_,_,_,_,_,_,e,h4,h5⟩=>⟨_,_,_,_,_,_,e,h4.loc h,h5.loc h⟩
 mono:=fun h ⟨_,_,_,_,_,_,e,h4,h5⟩=>⟨_,_,_,_,_,_,e,h4.mono h,h5.mono h⟩
 len:=fun ⟨_,_,_,_,_,_,e,_⟩=>by rw [e];rfl
 one:=fun ⟨_,_,_,_,_,_,e,_⟩=>by rw [e];rfl
theorem qJ (x:Cl):xF mB x fun vs cs=> ∃A4 n4 c4 A5 n5 c5,vs=[iV x.Kind,iV x.Shape,iV x.Flags,iV x.Age,I A4 n4 c4,I A5 n5 c5]∧cs=[iT bA (I A4 n4 c4) x.Slots,iT bA (I A5 n5 c5) x.More]:=fun S w vs ⟨_,_,_,_,_,_,e,h4,h5⟩=>⟨_,⟨_,_,_,_,_,_,e,rfl⟩,hE h4 (hE h5 (ac))⟩
structure Co where
 Young:(List Cl)
 Old:(List Cl)
 deriving DecidableEq,Inhabited
def AQ:Rep Co where
 sz:=2
 rel S w vs x:= ∃A0 n0 c0 A1 n1 c1,vs=[I A0 n0 c0,I A1 n1 c1]∧SlR mB S w (I A0 n0 c0) x.Young∧SlR mB S w (I A1 n1 c1) x.Old
 loc:=fun h ⟨_,_,_,_,_,_,e,h0,h1⟩=>⟨_,_,_,_,_,_,e,h0.loc h,h1.loc h⟩
 mono:=fun h ⟨_,_,_,_,_,_,e,h0,h1⟩=>⟨_,_,_,_,_,_,e,h0.mono h,h1.mono h⟩
 len:=fun ⟨_,_,_,_,_,_,e,_⟩=>by rw [e];rfl
 one:=fun ⟨_,_,_,_,_,_,e,_⟩=>by rw [e];rfl
structure CB where
 m_:Co
 roots_:(List Cp)
 pending_:(List Cp)
 set_:Cq
 deriving DecidableEq,Inhabited
structure CC where
 Kind:Int
 N:Int
 S:ByteArray
 deriving DecidableEq,Inhabited
def fF:Rep CC:=.flat 3 (fun x=> [iV x.Kind,iV x.N,.string x.S]) (fun _=>rfl) (fun _=>rfl)
structure Ct where
 Up:Int
 Key:CC
 Attrs:Int
 Len:Int
 deriving DecidableEq,Inhabited
def nm:Rep Ct:=.flat 6 (fun x=> [iV x.Up,iV x.Key.Kind,iV x.Key.N,.string x.Key.S,iV x.Attrs,iV x.Len]) (fun _=>rfl) (fun _=>rfl)
structure Cy where
 up_:Int
 key_:CC
 attrs_:Int
 deriving DecidableEq,Inhabited
def Bk:Rep Cy:=.flat 5 (fun x=> [iV x.up_,iV x.key_.Kind,iV x.key_.N,.string x.key_.S,iV x.attrs_]) (fun _=>rfl) (fun _=>rfl)
structure Cz where
 shapes_:(List Ct)
 next_:(List (Cy×Int))
 deriving DecidableEq,Inhabited
structure Cu where
 steps_:Int
 made_:Int
 calls_:Int
 deriving DecidableEq,Inhabited
def Bg:Rep Cu:=.flat 3 (fun x=> [iV x.steps_,iV x.made_,iV x.calls_]) (fun _=>rfl) (fun _=>rfl)
structure CD where
 Kind:Int
 Key:CC
 S:ByteArray
 deriving DecidableEq,Inhabited
def uK:Rep CD:=.flat 5 (fun x=> [iV x.Kind,iV x.Key.Kind,iV x.Key.N,.string x.Key.S,.string x.S]) (fun _=>rfl) (fun _=>rfl)
structure Cw where
 spent_:Cu
 config_:Cs
 host_:Unit
 heap_:CB
 shapes_:Cz
 symbols_:(List ByteArray)
 epoch_:Int
 serial_:Int
 sleepers_:Int
 events_:(List CD)
 out_:(List ByteArray)
 deriving DecidableEq,Inhabited
structure Cn where
 Cell:Cl
 w_:Cw
 at_:Cp
 deriving DecidableEq,Inhabited
structure Cr where
 Key:CC
 Attrs:Int
 Value:Cp
 Get:Cp
 Set:Cp
 deriving DecidableEq,Inhabited
def iY:Rep Cr:=.flat 13 (fun x=> [iV x.Key.Kind,iV x.Key.N,.string x.Key.S,iV x.Attrs,iV x.Value.Kind,iV x.Value.N,.string x.Value.S,iV x.Get.Kind,iV x.Get.N,.string x.Get.S,iV x.Set.Kind,iV x.Set.N,.string x.Set.S]) (fun _=>rfl) (fun _=>rfl)
structure Cm where
 Has:Int
 Attrs:Int
 Value:Cp
 Get:Cp
 Set:Cp
 deriving DecidableEq,Inhabited
def zZ:Rep Cm:=.flat 11 (fun x=> [iV x.Has,iV x.Attrs,iV x.Value.Kind,iV x.Value.N,.string x.Value.S,iV x.Get.Kind,iV x.Get.N,.string x.Get.S,iV x.Set.Kind,iV x.Set.N,.string x.Set.S]) (fun _=>rfl) (fun _=>rfl)
structure CA where
 Kind:Int
 N:Int
 K:CC
 D:Cm
 V:Cp
 deriving DecidableEq,Inhabited
def uL:Rep CA:=.flat 19 (fun x=> [iV x.Kind,iV x.N,iV x.K.Kind,iV x.K.N,.string x.K.S,iV x.D.Has,iV x.D.Attrs,iV x.D.Value.Kind,iV x.D.Value.N,.string x.D.Value.S,iV x.D.Get.Kind,iV x.D.Get.N,.string x.D.Get.S,iV x.D.Set.Kind,iV x.D.Set.N,.string x.D.Set.S,iV x.V.Kind,iV x.V.N,.string x.V.S]) (fun _=>rfl) (fun _=>rfl)
abbrev aU (A:Option Addr)(n c:Nat):=cC bA 30 (.slice A n c)
abbrev be (A:Option Addr)(n c:Nat):=iT xZ (.slice A n c)
abbrev bu (A:Option Addr)(n c:Nat):=cC mB 138 (.slice A n c)
abbrev ct (A:Option Addr)(n c:Nat):=iT uK (.slice A n c)
abbrev cR (A:Option Addr)(n c:Nat):=cC nm 201 (.slice A n c)
abbrev cn (A:Option Addr)(n c:Nat):=iT bA (.slice A n c)
abbrev kW (A:Option Addr)(n c:Nat):=cC fF 24 (.slice A n c)
abbrev lv (A:Option Addr)(n c:Nat):=iT mB (.slice A n c)
abbrev oJ (A:Option Addr)(n c:Nat):=iT nm (.slice A n c)
theorem sQ:au Tryz.prog 21:=⟨Tryz.f21,Tryz.func21,rfl,rfl⟩
theorem AA:au Tryz.prog 22:=⟨Tryz.f22,Tryz.func22,rfl,rfl⟩
theorem uv:au Tryz.prog 23:=⟨Tryz.f23,Tryz.func23,rfl,rfl⟩
theorem xq:au Tryz.prog 24:=⟨Tryz.f24,Tryz.func24,rfl,rfl⟩
theorem uu:au Tryz.prog 25:=⟨Tryz.f25,Tryz.func25,rfl,rfl⟩
theorem ut:au Tryz.prog 26:=⟨Tryz.f26,Tryz.func26,rfl,rfl⟩
theorem Az:au Tryz.prog 27:=⟨Tryz.f27,Tryz.func27,rfl,rfl⟩
theorem ur:au Tryz.prog 28:=⟨Tryz.f28,Tryz.func28,rfl,rfl⟩
theorem Ay:au Tryz.prog 29:=⟨Tryz.f29,Tryz.func29,rfl,rfl⟩
theorem uq:au Tryz.prog 30:=⟨Tryz.f30,Tryz.func30,rfl,rfl⟩
theorem Ax:au Tryz.prog 31:=⟨Tryz.f31,Tryz.func31,rfl,rfl⟩
theorem sM:au Tryz.prog 32:=⟨Tryz.f32,Tryz.func32,rfl,rfl⟩
theorem Aw:au Tryz.prog 33:=⟨Tryz.f33,Tryz.func33,rfl,rfl⟩
theorem mT:au Tryz.prog 34:=⟨Tryz.f34,Tryz.func34,rfl,rfl⟩
theorem xp:au Tryz.prog 36:=⟨Tryz.f36,Tryz.func36,rfl,rfl⟩
theorem up:au Tryz.prog 38:=⟨Tryz.f38,Tryz.func38,rfl,rfl⟩
theorem xo:au Tryz.prog 39:=⟨Tryz.f39,Tryz.func39,rfl,rfl⟩
theorem xn:au Tryz.prog 40:=⟨Tryz.f40,Tryz.func40,rfl,rfl⟩
theorem xm:au Tryz.prog 59:=⟨Tryz.f59,Tryz.func59,rfl,rfl⟩
theorem Au:au Tryz.prog 60:=⟨Tryz.f60,Tryz.func60,rfl,rfl⟩
theorem At:au Tryz.prog 66:=⟨Tryz.f66,Tryz.func66,rfl,rfl⟩
theorem kR:au Tryz.prog 84:=⟨Tryz.f84,Tryz.func84,rfl,rfl⟩
theorem Ar:au Tryz.prog 85:=⟨Tryz.f85,Tryz.func85,rfl,rfl⟩
theorem Aq:au Tryz.prog 86:=⟨Tryz.f86,Tryz.func86,rfl,rfl⟩
theorem Ap:au Tryz.prog 87:=⟨Tryz.f87,Tryz.func87,rfl,rfl⟩
theorem pq:au Tryz.prog 88:=⟨Tryz.f88,Tryz.func88,rfl,rfl⟩
theorem xl:au Tryz.prog 89:=⟨Tryz.f89,Tryz.func89,rfl,rfl⟩
theorem rm:au Tryz.prog 90:=⟨Tryz.f90,Tryz.func90,rfl,rfl⟩
theorem sL:au Tryz.prog 91:=⟨Tryz.f91,Tryz.func91,rfl,rfl⟩
theorem uo:au Tryz.prog 92:=⟨Tryz.f92,Tryz.func92,rfl,rfl⟩
theorem rl:au Tryz.prog 93:=⟨Tryz.f93,Tryz.func93,rfl,rfl⟩
theorem xj:au Tryz.prog 94:=⟨Tryz.f94,Tryz.func94,rfl,rfl⟩
theorem sK:au Tryz.prog 95:=⟨Tryz.f95,Tryz.func95,rfl,rfl⟩
theorem jf:au Tryz.prog 96:=⟨Tryz.f96,Tryz.func96,rfl,rfl⟩
theorem rk:au Tryz.prog 97:=⟨Tryz.f97,Tryz.func97,rfl,rfl⟩
theorem xi:au Tryz.prog 98:=⟨Tryz.f98,Tryz.func98,rfl,rfl⟩
theorem pp:au Tryz.prog 99:=⟨Tryz.f99,Tryz.func99,rfl,rfl⟩
theorem vI:au Tryz.prog 100:=⟨Tryz.f100,Tryz.func100,rfl,rfl⟩
theorem zu:au Tryz.prog 101:=⟨Tryz.f101,Tryz.func101,rfl,rfl⟩
theorem zt:au Tryz.prog 102:=⟨Tryz.f102,Tryz.func102,rfl,rfl⟩
theorem zs:au Tryz.prog 103:=⟨Tryz.f103,Tryz.func103,rfl,rfl⟩
theorem zr:au Tryz.prog 104:=⟨Tryz.f104,Tryz.func104,rfl,rfl⟩
theorem qv:au Tryz.prog 105:=⟨Tryz.f105,Tryz.func105,rfl,rfl⟩
theorem zq:au Tryz.prog 106:=⟨Tryz.f106,Tryz.func106,rfl,rfl⟩
theorem jB:au Tryz.prog 107:=⟨Tryz.f107,Tryz.func107,rfl,rfl⟩
theorem zp:au Tryz.prog 110:=⟨Tryz.f110,Tryz.func110,rfl,rfl⟩
theorem qu:au Tryz.prog 117:=⟨Tryz.f117,Tryz.func117,rfl,rfl⟩
theorem oX:au Tryz.prog 118:=⟨Tryz.f118,Tryz.func118,rfl,rfl⟩
theorem zo:au Tryz.prog 119:=⟨Tryz.f119,Tryz.func119,rfl,rfl⟩
theorem zn:au Tryz.prog 120:=⟨Tryz.f120,Tryz.func120,rfl,rfl⟩
theorem ta:au Tryz.prog 121:=⟨Tryz.f121,Tryz.func121,rfl,rfl⟩
theorem sZ:au Tryz.prog 122:=⟨Tryz.f122,Tryz.func122,rfl,rfl⟩
theorem vH:au Tryz.prog 123:=⟨Tryz.f123,Tryz.func123,rfl,rfl⟩
theorem zm:au Tryz.prog 124:=⟨Tryz.f124,Tryz.func124,rfl,rfl⟩
theorem zk:au Tryz.prog 128:=⟨Tryz.f128,Tryz.func128,rfl,rfl⟩
theorem zj:au Tryz.prog 135:=⟨Tryz.f135,Tryz.func135,rfl,rfl⟩
theorem qt:au Tryz.prog 146:=⟨Tryz.f146,Tryz.func146,rfl,rfl⟩
theorem lM:au Tryz.prog 147:=⟨Tryz.f147,Tryz.func147,rfl,rfl⟩
theorem zi:au Tryz.prog 148:=⟨Tryz.f148,Tryz.func148,rfl,rfl⟩
theorem ny:au Tryz.prog 149:=⟨Tryz.f149,Tryz.func149,rfl,rfl⟩
theorem sY:au Tryz.prog 150:=⟨Tryz.f150,Tryz.func150,rfl,rfl⟩
theorem zh:au Tryz.prog 151:=⟨Tryz.f151,Tryz.func151,rfl,rfl⟩
theorem dq:au Tryz.prog 152:=⟨Tryz.f152,Tryz.func152,rfl,rfl⟩
theorem vG:au Tryz.prog 153:=⟨Tryz.f153,Tryz.func153,rfl,rfl⟩
theorem vF:au Tryz.prog 154:=⟨Tryz.f154,Tryz.func154,rfl,rfl⟩
theorem vE:au Tryz.prog 155:=⟨Tryz.f155,Tryz.func155,rfl,rfl⟩
theorem vD:au Tryz.prog 156:=⟨Tryz.f156,Tryz.func156,rfl,rfl⟩
theorem zg:au Tryz.prog 157:=⟨Tryz.f157,Tryz.func157,rfl,rfl⟩
theorem zf:au Tryz.prog 158:=⟨Tryz.f158,Tryz.func158,rfl,rfl⟩
theorem vC:au Tryz.prog 159:=⟨Tryz.f159,Tryz.func159,rfl,rfl⟩
theorem ze:au Tryz.prog 160:=⟨Tryz.f160,Tryz.func160,rfl,rfl⟩
theorem lL:au Tryz.prog 161:=⟨Tryz.f161,Tryz.func161,rfl,rfl⟩
theorem sX:au Tryz.prog 162:=⟨Tryz.f162,Tryz.func162,rfl,rfl⟩
theorem vB:au Tryz.prog 163:=⟨Tryz.f163,Tryz.func163,rfl,rfl⟩
theorem qr:au Tryz.prog 164:=⟨Tryz.f164,Tryz.func164,rfl,rfl⟩
theorem sW:au Tryz.prog 165:=⟨Tryz.f165,Tryz.func165,rfl,rfl⟩
theorem sV:au Tryz.prog 166:=⟨Tryz.f166,Tryz.func166,rfl,rfl⟩
theorem vA:au Tryz.prog 167:=⟨Tryz.f167,Tryz.func167,rfl,rfl⟩
theorem qq:au Tryz.prog 168:=⟨Tryz.f168,Tryz.func168,rfl,rfl⟩
theorem zd:au Tryz.prog 169:=⟨Tryz.f169,Tryz.func169,rfl,rfl⟩
theorem zc:au Tryz.prog 170:=⟨Tryz.f170,Tryz.func170,rfl,rfl⟩
theorem zb:au Tryz.prog 171:=⟨Tryz.f171,Tryz.func171,rfl,rfl⟩
theorem vz:au Tryz.prog 172:=⟨Tryz.f172,Tryz.func172,rfl,rfl⟩
theorem sU:au Tryz.prog 173:=⟨Tryz.f173,Tryz.func173,rfl,rfl⟩
theorem za:au Tryz.prog 174:=⟨Tryz.f174,Tryz.func174,rfl,rfl⟩
theorem sT:au Tryz.prog 175:=⟨Tryz.f175,Tryz.func175,rfl,rfl⟩
theorem yZ:au Tryz.prog 176:=⟨Tryz.f176,Tryz.func176,rfl,rfl⟩
theorem vy:au Tryz.prog 203:=⟨Tryz.f203,Tryz.func203,rfl,rfl⟩
theorem sS:au Tryz.prog 204:=⟨Tryz.f204,Tryz.func204,rfl,rfl⟩
theorem lK:au Tryz.prog 205:=⟨Tryz.f205,Tryz.func205,rfl,rfl⟩
theorem yY:au Tryz.prog 206:=⟨Tryz.f206,Tryz.func206,rfl,rfl⟩
theorem yX:au Tryz.prog 207:=⟨Tryz.f207,Tryz.func207,rfl,rfl⟩
theorem vv:au Tryz.prog 208:=⟨Tryz.f208,Tryz.func208,rfl,rfl⟩
theorem sR:au Tryz.prog 209:=⟨Tryz.f209,Tryz.func209,rfl,rfl⟩
theorem nw:au Tryz.prog 210:=⟨Tryz.f210,Tryz.func210,rfl,rfl⟩
theorem qp:au Tryz.prog 211:=⟨Tryz.f211,Tryz.func211,rfl,rfl⟩
theorem sP:au Tryz.prog 212:=⟨Tryz.f212,Tryz.func212,rfl,rfl⟩
theorem yW:au Tryz.prog 213:=⟨Tryz.f213,Tryz.func213,rfl,rfl⟩
theorem sO:au Tryz.prog 214:=⟨Tryz.f214,Tryz.func214,rfl,rfl⟩
theorem yV:au Tryz.prog 215:=⟨Tryz.f215,Tryz.func215,rfl,rfl⟩
theorem vu:au Tryz.prog 225:=⟨Tryz.f225,Tryz.func225,rfl,rfl⟩
theorem yU:au Tryz.prog 226:=⟨Tryz.f226,Tryz.func226,rfl,rfl⟩
theorem yT:au Tryz.prog 227:=⟨Tryz.f227,Tryz.func227,rfl,rfl⟩
theorem yR:au Tryz.prog 228:=⟨Tryz.f228,Tryz.func228,rfl,rfl⟩
theorem vt:au Tryz.prog 229:=⟨Tryz.f229,Tryz.func229,rfl,rfl⟩
theorem sN:au Tryz.prog 230:=⟨Tryz.f230,Tryz.func230,rfl,rfl⟩
theorem nv:au Tryz.prog 231:=⟨Tryz.f231,Tryz.func231,rfl,rfl⟩
theorem vq:au Tryz.prog 232:=⟨Tryz.f232,Tryz.func232,rfl,rfl⟩
theorem yQ:au Tryz.prog 233:=⟨Tryz.f233,Tryz.func233,rfl,rfl⟩
theorem yP:au Tryz.prog 234:=⟨Tryz.f234,Tryz.func234,rfl,rfl⟩
theorem yO:au Tryz.prog 235:=⟨Tryz.f235,Tryz.func235,rfl,rfl⟩
theorem vo:au Tryz.prog 238:=⟨Tryz.f238,Tryz.func238,rfl,rfl⟩
theorem yM:au Tryz.prog 239:=⟨Tryz.f239,Tryz.func239,rfl,rfl⟩
theorem nu:au Tryz.prog 240:=⟨Tryz.f240,Tryz.func240,rfl,rfl⟩
theorem nt:au Tryz.prog 241:=⟨Tryz.f241,Tryz.func241,rfl,rfl⟩
theorem vm:au Tryz.prog 242:=⟨Tryz.f242,Tryz.func242,rfl,rfl⟩
theorem yL:au Tryz.prog 244:=⟨Tryz.f244,Tryz.func244,rfl,rfl⟩
theorem vl:au Tryz.prog 245:=⟨Tryz.f245,Tryz.func245,rfl,rfl⟩
theorem yK:au Tryz.prog 246:=⟨Tryz.f246,Tryz.func246,rfl,rfl⟩
theorem vj:au Tryz.prog 247:=⟨Tryz.f247,Tryz.func247,rfl,rfl⟩
theorem yJ:au Tryz.prog 248:=⟨Tryz.f248,Tryz.func248,rfl,rfl⟩
theorem yI:au Tryz.prog 253:=⟨Tryz.f253,Tryz.func253,rfl,rfl⟩
theorem yH:au Tryz.prog 255:=⟨Tryz.f255,Tryz.func255,rfl,rfl⟩
theorem vh:au Tryz.prog 256:=⟨Tryz.f256,Tryz.func256,rfl,rfl⟩
theorem yG:au Tryz.prog 262:=⟨Tryz.f262,Tryz.func262,rfl,rfl⟩
theorem yF:au Tryz.prog 263:=⟨Tryz.f263,Tryz.func263,rfl,rfl⟩
theorem yy (b o:Nat)(w:World):(Instr.fieldAt 24 (pV b o) 0).run Tryz.prog w=.ok (pV b o) w:=by kernel_rfl
theorem uS (b o:Nat)(w:World):(Instr.fieldAt 24 (pV b o) 1).run Tryz.prog w=.ok (.pointer (some ⟨b,o+1,none⟩)) w:=by kernel_rfl
theorem yx (b o:Nat)(w:World):(Instr.fieldAt 24 (pV b o) 2).run Tryz.prog w=.ok (.pointer (some ⟨b,o+2,none⟩)) w:=by kernel_rfl
theorem iB (b o:Nat)(w:World):(Instr.fieldAt 30 (pV b o) 0).run Tryz.prog w=.ok (pV b o) w:=by kernel_rfl
theorem qn (b o:Nat)(w:World):(Instr.fieldAt 30 (pV b o) 1).run Tryz.prog w=.ok (.pointer (some ⟨b,o+1,none⟩)) w:=by kernel_rfl
theorem yw (b o:Nat)(w:World):(Instr.fieldAt 30 (pV b o) 2).run Tryz.prog w=.ok (.pointer (some ⟨b,o+2,none⟩)) w:=by kernel_rfl
theorem uR (b o:Nat)(w:World):(Instr.fieldAt 32 (pV b o) 0).run Tryz.prog w=.ok (pV b o) w:=by kernel_rfl
theorem uQ (b o:Nat)(w:World):(Instr.fieldAt 32 (pV b o) 1).run Tryz.prog w=.ok (.pointer (some ⟨b,o+1,none⟩)) w:=by kernel_rfl
theorem yv (b o:Nat)(w:World):(Instr.fieldAt 32 (pV b o) 2).run Tryz.prog w=.ok (.pointer (some ⟨b,o+2,none⟩)) w:=by kernel_rfl
theorem yu (b o:Nat)(w:World):(Instr.fieldAt 32 (pV b o) 3).run Tryz.prog w=.ok (.pointer (some ⟨b,o+5,none⟩)) w:=by kernel_rfl
theorem yt (b o:Nat)(w:World):(Instr.fieldAt 32 (pV b o) 4).run Tryz.prog w=.ok (.pointer (some ⟨b,o+8,none⟩)) w:=by kernel_rfl
theorem sB (b o:Nat)(w:World):(Instr.fieldAt 42 (pV b o) 0).run Tryz.prog w=.ok (pV b o) w:=by kernel_rfl
theorem sy (b o:Nat)(w:World):(Instr.fieldAt 42 (pV b o) 1).run Tryz.prog w=.ok (.pointer (some ⟨b,o+3,none⟩)) w:=by kernel_rfl
theorem yr (b o:Nat)(w:World):(Instr.fieldAt 42 (pV b o) 2).run Tryz.prog w=.ok (.pointer (some ⟨b,o+4,none⟩)) w:=by kernel_rfl
theorem qm (b o:Nat)(w:World):(Instr.fieldAt 42 (pV b o) 3).run Tryz.prog w=.ok (.pointer (some ⟨b,o+7,none⟩)) w:=by kernel_rfl
theorem ql (b o:Nat)(w:World):(Instr.fieldAt 42 (pV b o) 4).run Tryz.prog w=.ok (.pointer (some ⟨b,o+10,none⟩)) w:=by kernel_rfl
theorem yq (b o:Nat)(w:World):(Instr.fieldAt 52 (pV b o) 1).run Tryz.prog w=.ok (.pointer (some ⟨b,o+1,none⟩)) w:=by kernel_rfl
theorem yp (b o:Nat)(w:World):(Instr.fieldAt 52 (pV b o) 2).run Tryz.prog w=.ok (.pointer (some ⟨b,o+2,none⟩)) w:=by kernel_rfl
theorem yo (b o:Nat)(w:World):(Instr.fieldAt 52 (pV b o) 3).run Tryz.prog w=.ok (.pointer (some ⟨b,o+5,none⟩)) w:=by kernel_rfl
theorem yn (b o:Nat)(w:World):(Instr.fieldAt 52 (pV b o) 4).run Tryz.prog w=.ok (.pointer (some ⟨b,o+16,none⟩)) w:=by kernel_rfl
theorem ym (b o:Nat)(w:World):(Instr.fieldAt 57 (pV b o) 0).run Tryz.prog w=.ok (pV b o) w:=by kernel_rfl
theorem yl (b o:Nat)(w:World):(Instr.fieldAt 57 (pV b o) 1).run Tryz.prog w=.ok (.pointer (some ⟨b,o+1,none⟩)) w:=by kernel_rfl
theorem yk (b o:Nat)(w:World):(Instr.fieldAt 57 (pV b o) 2).run Tryz.prog w=.ok (.pointer (some ⟨b,o+2,none⟩)) w:=by kernel_rfl
theorem uP (b o:Nat)(w:World):(Instr.fieldAt 57 (pV b o) 3).run Tryz.prog w=.ok (.pointer (some ⟨b,o+3,none⟩)) w:=by kernel_rfl
theorem yj (b o:Nat)(w:World):(Instr.fieldAt 57 (pV b o) 4).run Tryz.prog w=.ok (.pointer (some ⟨b,o+4,none⟩)) w:=by kernel_rfl
theorem yi (b o:Nat)(w:World):(Instr.fieldAt 57 (pV b o) 5).run Tryz.prog w=.ok (.pointer (some ⟨b,o+5,none⟩)) w:=by kernel_rfl
theorem yh (b o:Nat)(w:World):(Instr.fieldAt 57 (pV b o) 6).run Tryz.prog w=.ok (.pointer (some ⟨b,o+6,none⟩)) w:=by kernel_rfl
theorem tH (b o:Nat)(w:World):(Instr.fieldAt 138 (pV b o) 0).run Tryz.prog w=.ok (pV b o) w:=by kernel_rfl
theorem jW (b o:Nat)(w:World):(Instr.fieldAt 138 (pV b o) 1).run Tryz.prog w=.ok (.pointer (some ⟨b,o+1,none⟩)) w:=by kernel_rfl
theorem tG (b o:Nat)(w:World):(Instr.fieldAt 138 (pV b o) 2).run Tryz.prog w=.ok (.pointer (some ⟨b,o+2,none⟩)) w:=by kernel_rfl
theorem gP (b o:Nat)(w:World):(Instr.fieldAt 138 (pV b o) 3).run Tryz.prog w=.ok (.pointer (some ⟨b,o+3,none⟩)) w:=by kernel_rfl
theorem ft (b o:Nat)(w:World):(Instr.fieldAt 138 (pV b o) 4).run Tryz.prog w=.ok (.pointer (some ⟨b,o+4,none⟩)) w:=by kernel_rfl
theorem jV (b o:Nat)(w:World):(Instr.fieldAt 138 (pV b o) 5).run Tryz.prog w=.ok (.pointer (some ⟨b,o+5,none⟩)) w:=by kernel_rfl
theorem dM (b o:Nat)(w:World):(Instr.fieldAt 140 (pV b o) 0).run Tryz.prog w=.ok (pV b o) w:=by kernel_rfl
theorem jU (b o:Nat)(w:World):(Instr.fieldAt 140 (pV b o) 1).run Tryz.prog w=.ok (.pointer (some ⟨b,o+6,none⟩)) w:=by kernel_rfl
theorem tD (b o:Nat)(w:World):(Instr.fieldAt 140 (pV b o) 2).run Tryz.prog w=.ok (.pointer (some ⟨b,o+7,none⟩)) w:=by kernel_rfl
theorem tC (b o:Nat)(w:World):(Instr.fieldAt 147 (pV b o) 1).run Tryz.prog w=.ok (.pointer (some ⟨b,o+1,none⟩)) w:=by kernel_rfl
theorem tA (b o:Nat)(w:World):(Instr.fieldAt 151 (pV b o) 0).run Tryz.prog w=.ok (pV b o) w:=by kernel_rfl
theorem tz (b o:Nat)(w:World):(Instr.fieldAt 151 (pV b o) 1).run Tryz.prog w=.ok (.pointer (some ⟨b,o+3,none⟩)) w:=by kernel_rfl
theorem fX (b o:Nat)(w:World):(Instr.fieldAt 151 (pV b o) 3).run Tryz.prog w=.ok (.pointer (some ⟨b,o+11,none⟩)) w:=by kernel_rfl
theorem xa (b o:Nat)(w:World):(Instr.fieldAt 151 (pV b o) 4).run Tryz.prog w=.ok (.pointer (some ⟨b,o+12,none⟩)) w:=by kernel_rfl
theorem wZ (b o:Nat)(w:World):(Instr.fieldAt 151 (pV b o) 6).run Tryz.prog w=.ok (.pointer (some ⟨b,o+14,none⟩)) w:=by kernel_rfl
theorem qZ (b o:Nat)(w:World):(Instr.fieldAt 197 (pV b o) 0).run Tryz.prog w=.ok (pV b o) w:=by kernel_rfl
theorem wY (b o:Nat)(w:World):(Instr.fieldAt 197 (pV b o) 1).run Tryz.prog w=.ok (.pointer (some ⟨b,o+1,none⟩)) w:=by kernel_rfl
theorem qY (b o:Nat)(w:World):(Instr.fieldAt 199 (pV b o) 0).run Tryz.prog w=.ok (pV b o) w:=by kernel_rfl
theorem qX (b o:Nat)(w:World):(Instr.fieldAt 199 (pV b o) 1).run Tryz.prog w=.ok (.pointer (some ⟨b,o+2,none⟩)) w:=by kernel_rfl
theorem mH (b o:Nat)(w:World):(Instr.fieldAt 199 (pV b o) 3).run Tryz.prog w=.ok (.pointer (some ⟨b,o+4,none⟩)) w:=by kernel_rfl
theorem oO (b o:Nat)(w:World):(Instr.fieldAt 201 (pV b o) 0).run Tryz.prog w=.ok (pV b o) w:=by kernel_rfl
theorem oN (b o:Nat)(w:World):(Instr.fieldAt 201 (pV b o) 1).run Tryz.prog w=.ok (.pointer (some ⟨b,o+1,none⟩)) w:=by kernel_rfl
theorem lh (b o:Nat)(w:World):(Instr.fieldAt 201 (pV b o) 2).run Tryz.prog w=.ok (.pointer (some ⟨b,o+4,none⟩)) w:=by kernel_rfl
theorem oM (b o:Nat)(w:World):(Instr.fieldAt 201 (pV b o) 3).run Tryz.prog w=.ok (.pointer (some ⟨b,o+5,none⟩)) w:=by kernel_rfl
theorem lg (b o:Nat)(w:World):(Instr.fieldAt 205 (pV b o) 0).run Tryz.prog w=.ok (pV b o) w:=by kernel_rfl
theorem qW (b o:Nat)(w:World):(Instr.fieldAt 205 (pV b o) 1).run Tryz.prog w=.ok (.pointer (some ⟨b,o+1,none⟩)) w:=by kernel_rfl
theorem wX (b o:Nat)(w:World):(Instr.fieldAt 247 (pV b o) 0).run Tryz.prog w=.ok (pV b o) w:=by kernel_rfl
theorem co:eR Tryz.prog 3=true:=by kernel_rfl
theorem ua:eR Tryz.prog 4=true:=by kernel_rfl
theorem Bm:eR Tryz.prog 9=true:=by kernel_rfl
theorem pG:eR Tryz.prog 36=true:=by kernel_rfl
theorem d4:eR Tryz.prog 38=true:=by kernel_rfl
theorem zG:eR Tryz.prog 67=true:=by kernel_rfl
theorem gH:eR Tryz.prog 142=true:=by kernel_rfl
theorem wR:eR Tryz.prog 144=true:=by kernel_rfl
theorem pi:eR Tryz.prog 193=true:=by kernel_rfl
theorem sp:eR Tryz.prog 195=true:=by kernel_rfl
theorem jS:eR Tryz.prog 202=true:=by kernel_rfl
theorem ub:eR Tryz.prog 203=true:=by kernel_rfl
theorem z8:eR Tryz.prog 211=true:=by kernel_rfl
theorem z7:eR Tryz.prog 245=true:=by kernel_rfl
theorem bH:mm Tryz.prog 24 3=true:=by kernel_rfl
theorem aH:mm Tryz.prog 30 3=true:=by kernel_rfl
theorem cU:mm Tryz.prog 32 11=true:=by kernel_rfl
theorem da:mm Tryz.prog 42 13=true:=by kernel_rfl
theorem zP:mm Tryz.prog 52 19=true:=by kernel_rfl
theorem zN:mm Tryz.prog 57 7=true:=by kernel_rfl
theorem bw:mm Tryz.prog 138 6=true:=by kernel_rfl
theorem xB:mm Tryz.prog 197 2=true:=by kernel_rfl
theorem kU:mm Tryz.prog 201 6=true:=by kernel_rfl
theorem fT:dC Tryz.prog 3 1=true:=by kernel_rfl
theorem qA:dC Tryz.prog 4 1=true:=by kernel_rfl
theorem fd:dC Tryz.prog 24 3=true:=by kernel_rfl
theorem aT:dC Tryz.prog 30 3=true:=by kernel_rfl
theorem qB:dC Tryz.prog 32 11=true:=by kernel_rfl
theorem iW:dC Tryz.prog 38 1=true:=by kernel_rfl
theorem cj:dC Tryz.prog 42 13=true:=by kernel_rfl
theorem wD:dC Tryz.prog 52 19=true:=by kernel_rfl
theorem t4:dC Tryz.prog 67 1=true:=by kernel_rfl
theorem bY:dC Tryz.prog 138 6=true:=by kernel_rfl
theorem xV:dC Tryz.prog 195 1=true:=by kernel_rfl
theorem cp:dC Tryz.prog 201 6=true:=by kernel_rfl
theorem xU:dC Tryz.prog 202 1=true:=by kernel_rfl
theorem xT:dC Tryz.prog 211 1=true:=by kernel_rfl
theorem AL (w:World):(zeroValue 3).run Tryz.prog w=.ok (iV 0) w:=by kernel_rfl
theorem zB (w:World):(zeroValue 4).run Tryz.prog w=.ok (.bool false) w:=by kernel_rfl
theorem qx (w:World):(zeroValue 24).run Tryz.prog w=.ok (.agg #[iV 0,iV 0,.string ⟨#[]⟩]) w:=by kernel_rfl
theorem dF (w:World):(zeroValue 30).run Tryz.prog w=.ok (.agg #[iV 0,iV 0,.string ⟨#[]⟩]) w:=by kernel_rfl
theorem se (w:World):(zeroValue 32).run Tryz.prog w=.ok (.agg #[iV 0,iV 0,iV 0,iV 0,.string ⟨#[]⟩,iV 0,iV 0,.string ⟨#[]⟩,iV 0,iV 0,.string ⟨#[]⟩]) w:=by kernel_rfl
theorem dy (w:World):(zeroValue 42).run Tryz.prog w=.ok (.agg #[iV 0,iV 0,.string ⟨#[]⟩,iV 0,iV 0,iV 0,.string ⟨#[]⟩,iV 0,iV 0,.string ⟨#[]⟩,iV 0,iV 0,.string ⟨#[]⟩]) w:=by kernel_rfl
theorem zY (w:World):(zeroValue 52).run Tryz.prog w=.ok (.agg #[iV 0,iV 0,iV 0,iV 0,.string ⟨#[]⟩,iV 0,iV 0,iV 0,iV 0,.string ⟨#[]⟩,iV 0,iV 0,.string ⟨#[]⟩,iV 0,iV 0,.string ⟨#[]⟩,iV 0,iV 0,.string ⟨#[]⟩]) w:=by kernel_rfl
theorem zX (w:World):(zeroValue 67).run Tryz.prog w=.ok (I none 0 0) w:=by kernel_rfl
theorem dv (w:World):(zeroValue 138).run Tryz.prog w=.ok (.agg #[iV 0,iV 0,iV 0,iV 0,I none 0 0,I none 0 0]) w:=by kernel_rfl
theorem lw (w:World):(zeroValue 201).run Tryz.prog w=.ok (.agg #[iV 0,iV 0,iV 0,.string ⟨#[]⟩,iV 0,iV 0]) w:=by kernel_rfl
theorem xM (w:World):(zeroValue 211).run Tryz.prog w=.ok (I none 0 0) w:=by kernel_rfl
theorem wi (x0_:Int)(x1_:Int)(x2_:Int)(x3_:Int)(x4_a:Option Addr)(x4_n x4_c:Nat)(x5_a:Option Addr)(x5_n x5_c:Nat)(w:World):(Instr.field 138 (.agg #[iV x0_,iV x1_,iV x2_,iV x3_,.slice x4_a x4_n x4_c,.slice x5_a x5_n x5_c]) 0).run Tryz.prog w=.ok (iV x0_) w:=by kernel_rfl
theorem rt (x0_:Int)(x1_:Int)(w:World):(Instr.build 24 #[(0,iV x0_),(1,iV x1_)]).run Tryz.prog w=.ok (.agg #[iV x0_,iV x1_,.string ⟨#[]⟩]) w:=by kernel_rfl
theorem rq (x0_:Int)(x2_:ByteArray)(w:World):(Instr.build 24 #[(0,iV x0_),(2,.string x2_)]).run Tryz.prog w=.ok (.agg #[iV x0_,iV 0,.string x2_]) w:=by kernel_rfl
theorem iC  (w:World):(Instr.build 30 #[]).run Tryz.prog w=.ok (.agg #[iV 0,iV 0,.string ⟨#[]⟩]) w:=by kernel_rfl
theorem tR (x0_:Int)(w:World):(Instr.build 30 #[(0,iV x0_)]).run Tryz.prog w=.ok (.agg #[iV x0_,iV 0,.string ⟨#[]⟩]) w:=by kernel_rfl
theorem iu (x0_:Int)(x1_:Int)(w:World):(Instr.build 30 #[(0,iV x0_),(1,iV x1_)]).run Tryz.prog w=.ok (.agg #[iV x0_,iV x1_,.string ⟨#[]⟩]) w:=by kernel_rfl
theorem o0 (x0_:Int)(x1_:Int)(x2_0_:Int)(x2_1_:Int)(x2_2_:ByteArray)(w:World):(Instr.build 32 #[(0,iV x0_),(1,iV x1_),(2,.agg #[iV x2_0_,iV x2_1_,.string x2_2_])]).run Tryz.prog w=.ok (.agg #[iV x0_,iV x1_,iV x2_0_,iV x2_1_,.string x2_2_,iV 0,iV 0,.string ⟨#[]⟩,iV 0,iV 0,.string ⟨#[]⟩]) w:=by kernel_rfl
theorem rp (x0_:Int)(x1_:Int)(x3_0_:Int)(x3_1_:Int)(x3_2_:ByteArray)(x4_0_:Int)(x4_1_:Int)(x4_2_:ByteArray)(w:World):(Instr.build 32 #[(0,iV x0_),(1,iV x1_),(3,.agg #[iV x3_0_,iV x3_1_,.string x3_2_]),(4,.agg #[iV x4_0_,iV x4_1_,.string x4_2_])]).run Tryz.prog w=.ok (.agg #[iV x0_,iV x1_,iV 0,iV 0,.string ⟨#[]⟩,iV x3_0_,iV x3_1_,.string x3_2_,iV x4_0_,iV x4_1_,.string x4_2_]) w:=by kernel_rfl
theorem lO  (w:World):(Instr.build 42 #[]).run Tryz.prog w=.ok (.agg #[iV 0,iV 0,.string ⟨#[]⟩,iV 0,iV 0,iV 0,.string ⟨#[]⟩,iV 0,iV 0,.string ⟨#[]⟩,iV 0,iV 0,.string ⟨#[]⟩]) w:=by kernel_rfl
theorem xy (x0_0_:Int)(x0_1_:Int)(x0_2_:ByteArray)(w:World):(Instr.build 42 #[(0,.agg #[iV x0_0_,iV x0_1_,.string x0_2_])]).run Tryz.prog w=.ok (.agg #[iV x0_0_,iV x0_1_,.string x0_2_,iV 0,iV 0,iV 0,.string ⟨#[]⟩,iV 0,iV 0,.string ⟨#[]⟩,iV 0,iV 0,.string ⟨#[]⟩]) w:=by kernel_rfl
theorem uw (x0_0_:Int)(x0_1_:Int)(x0_2_:ByteArray)(x1_:Int)(w:World):(Instr.build 42 #[(0,.agg #[iV x0_0_,iV x0_1_,.string x0_2_]),(1,iV x1_)]).run Tryz.prog w=.ok (.agg #[iV x0_0_,iV x0_1_,.string x0_2_,iV x1_,iV 0,iV 0,.string ⟨#[]⟩,iV 0,iV 0,.string ⟨#[]⟩,iV 0,iV 0,.string ⟨#[]⟩]) w:=by kernel_rfl
theorem lN (x0_0_:Int)(x0_1_:Int)(x0_2_:ByteArray)(x1_:Int)(x2_0_:Int)(x2_1_:Int)(x2_2_:ByteArray)(w:World):(Instr.build 42 #[(0,.agg #[iV x0_0_,iV x0_1_,.string x0_2_]),(1,iV x1_),(2,.agg #[iV x2_0_,iV x2_1_,.string x2_2_])]).run Tryz.prog w=.ok (.agg #[iV x0_0_,iV x0_1_,.string x0_2_,iV x1_,iV x2_0_,iV x2_1_,.string x2_2_,iV 0,iV 0,.string ⟨#[]⟩,iV 0,iV 0,.string ⟨#[]⟩]) w:=by kernel_rfl
theorem oZ (x1_:Int)(x2_:Int)(x3_:Int)(w:World):(Instr.build 57 #[(1,iV x1_),(2,iV x2_),(3,iV x3_)]).run Tryz.prog w=.ok (.agg #[iV 0,iV x1_,iV x2_,iV x3_,iV 0,iV 0,iV 0]) w:=by kernel_rfl
theorem ru  (w:World):(Instr.build 138 #[]).run Tryz.prog w=.ok (.agg #[iV 0,iV 0,iV 0,iV 0,I none 0 0,I none 0 0]) w:=by kernel_rfl
theorem sd (x0_:Int)(w:World):(Instr.build 138 #[(0,iV x0_)]).run Tryz.prog w=.ok (.agg #[iV x0_,iV 0,iV 0,iV 0,I none 0 0,I none 0 0]) w:=by kernel_rfl
theorem rP (x0_:Int)(x2_:Int)(x4_a:Option Addr)(x4_n x4_c:Nat)(w:World):(Instr.build 138 #[(0,iV x0_),(2,iV x2_),(4,.slice x4_a x4_n x4_c)]).run Tryz.prog w=.ok (.agg #[iV x0_,iV 0,iV x2_,iV 0,.slice x4_a x4_n x4_c,I none 0 0]) w:=by kernel_rfl
theorem qe (x0_:Int)(x2_:Int)(x4_a:Option Addr)(x4_n x4_c:Nat)(x5_a:Option Addr)(x5_n x5_c:Nat)(w:World):(Instr.build 138 #[(0,iV x0_),(2,iV x2_),(4,.slice x4_a x4_n x4_c),(5,.slice x5_a x5_n x5_c)]).run Tryz.prog w=.ok (.agg #[iV x0_,iV 0,iV x2_,iV 0,.slice x4_a x4_n x4_c,.slice x5_a x5_n x5_c]) w:=by kernel_rfl
theorem tU (x0_:Int)(x4_a:Option Addr)(x4_n x4_c:Nat)(w:World):(Instr.build 138 #[(0,iV x0_),(4,.slice x4_a x4_n x4_c)]).run Tryz.prog w=.ok (.agg #[iV x0_,iV 0,iV 0,iV 0,.slice x4_a x4_n x4_c,I none 0 0]) w:=by kernel_rfl
theorem rO (x0_0_:Int)(x0_1_:Int)(x0_2_:Int)(x0_3_:Int)(x0_4_a:Option Addr)(x0_4_n x0_4_c:Nat)(x0_5_a:Option Addr)(x0_5_n x0_5_c:Nat)(x1_:Option Addr)(x2_0_:Int)(x2_1_:Int)(x2_2_:ByteArray)(w:World):(Instr.build 140 #[(0,.agg #[iV x0_0_,iV x0_1_,iV x0_2_,iV x0_3_,.slice x0_4_a x0_4_n x0_4_c,.slice x0_5_a x0_5_n x0_5_c]),(1,.pointer x1_),(2,.agg #[iV x2_0_,iV x2_1_,.string x2_2_])]).run Tryz.prog w=.ok (.agg #[iV x0_0_,iV x0_1_,iV x0_2_,iV x0_3_,.slice x0_4_a x0_4_n x0_4_c,.slice x0_5_a x0_5_n x0_5_c,.pointer x1_,iV x2_0_,iV x2_1_,.string x2_2_]) w:=by kernel_rfl
theorem rN (x1_0_:Int)(x1_1_:Int)(x1_2_:Int)(x1_3_:Int)(x1_4_:Int)(x1_5_:Int)(x1_6_:Int)(x3_:Option Addr)(x4_:Option Addr)(w:World):(Instr.build 151 #[(1,.agg #[iV x1_0_,iV x1_1_,iV x1_2_,iV x1_3_,iV x1_4_,iV x1_5_,iV x1_6_]),(3,.pointer x3_),(4,.pointer x4_)]).run Tryz.prog w=.ok (.agg #[iV 0,iV 0,iV 0,iV x1_0_,iV x1_1_,iV x1_2_,iV x1_3_,iV x1_4_,iV x1_5_,iV x1_6_,.nilIface,.pointer x3_,.pointer x4_,I none 0 0,iV 0,iV 0,iV 0,I none 0 0,I none 0 0]) w:=by kernel_rfl
theorem ws (x3_:Option Addr)(w:World):(Instr.build 199 #[(3,.pointer x3_)]).run Tryz.prog w=.ok (.agg #[I none 0 0,I none 0 0,I none 0 0,I none 0 0,.pointer x3_]) w:=by kernel_rfl
theorem xz  (w:World):(Instr.build 201 #[]).run Tryz.prog w=.ok (.agg #[iV 0,iV 0,iV 0,.string ⟨#[]⟩,iV 0,iV 0]) w:=by kernel_rfl
theorem wr (x0_:Int)(w:World):(Instr.build 201 #[(0,iV x0_)]).run Tryz.prog w=.ok (.agg #[iV x0_,iV 0,iV 0,.string ⟨#[]⟩,iV 0,iV 0]) w:=by kernel_rfl
theorem qd (x0_:Int)(x1_0_:Int)(x1_1_:Int)(x1_2_:ByteArray)(x2_:Int)(x3_:Int)(w:World):(Instr.build 201 #[(0,iV x0_),(1,.agg #[iV x1_0_,iV x1_1_,.string x1_2_]),(2,iV x2_),(3,iV x3_)]).run Tryz.prog w=.ok (.agg #[iV x0_,iV x1_0_,iV x1_1_,.string x1_2_,iV x2_,iV x3_]) w:=by kernel_rfl
theorem tT (x1_0_:Int)(x1_1_:Int)(x1_2_:ByteArray)(x2_:Int)(w:World):(Instr.build 201 #[(1,.agg #[iV x1_0_,iV x1_1_,.string x1_2_]),(2,iV x2_)]).run Tryz.prog w=.ok (.agg #[iV 0,iV x1_0_,iV x1_1_,.string x1_2_,iV x2_,iV 0]) w:=by kernel_rfl
theorem tS (x0_a:Option Addr)(x0_n x0_c:Nat)(x1_:Option Nat)(w:World):(Instr.build 205 #[(0,.slice x0_a x0_n x0_c),(1,.map x1_)]).run Tryz.prog w=.ok (.agg #[.slice x0_a x0_n x0_c,.map x1_]) w:=by kernel_rfl
theorem wq (x0_:Option Nat)(w:World):(Instr.build 247 #[(0,.map x0_)]).run Tryz.prog w=.ok (.agg #[.map x0_]) w:=by kernel_rfl
theorem nV (x0_:Int)(x1_0_:Int)(x1_1_:Int)(x1_2_:ByteArray)(x2_:Int)(w:World):(Instr.build 257 #[(0,iV x0_),(1,.agg #[iV x1_0_,iV x1_1_,.string x1_2_]),(2,iV x2_)]).run Tryz.prog w=.ok (.agg #[iV x0_,iV x1_0_,iV x1_1_,.string x1_2_,iV x2_]) w:=by kernel_rfl
theorem xx  (w:World):(Instr.buildSlice 38 0 #[]).run Tryz.prog w=.ok (.slice (some ⟨w.heap.size,0,none⟩) 0 0) (w.alloc (.cells #[] 30)):=by kernel_rfl
theorem fZ (x0_0_:Int)(x0_1_:Int)(x0_2_:ByteArray)(w:World):(Instr.buildSlice 38 1 #[(0,.agg #[iV x0_0_,iV x0_1_,.string x0_2_])]).run Tryz.prog w=.ok (.slice (some ⟨w.heap.size,0,none⟩) 1 1) (w.alloc (.cells #[iV x0_0_,iV x0_1_,.string x0_2_] 30)):=by kernel_rfl
theorem xw (x0_0_:Int)(x0_1_:Int)(x0_2_:ByteArray)(x1_0_:Int)(x1_1_:Int)(x1_2_:ByteArray)(w:World):(Instr.buildSlice 38 2 #[(0,.agg #[iV x0_0_,iV x0_1_,.string x0_2_]),(1,.agg #[iV x1_0_,iV x1_1_,.string x1_2_])]).run Tryz.prog w=.ok (.slice (some ⟨w.heap.size,0,none⟩) 2 2) (w.alloc (.cells #[iV x0_0_,iV x0_1_,.string x0_2_,iV x1_0_,iV x1_1_,.string x1_2_] 30)):=by kernel_rfl
theorem rn (x0_0_:Int)(x0_1_:Int)(x0_2_:ByteArray)(x1_0_:Int)(x1_1_:Int)(x1_2_:ByteArray)(x2_0_:Int)(x2_1_:Int)(x2_2_:ByteArray)(w:World):(Instr.buildSlice 38 3 #[(0,.agg #[iV x0_0_,iV x0_1_,.string x0_2_]),(1,.agg #[iV x1_0_,iV x1_1_,.string x1_2_]),(2,.agg #[iV x2_0_,iV x2_1_,.string x2_2_])]).run Tryz.prog w=.ok (.slice (some ⟨w.heap.size,0,none⟩) 3 3) (w.alloc (.cells #[iV x0_0_,iV x0_1_,.string x0_2_,iV x1_0_,iV x1_1_,.string x1_2_,iV x2_0_,iV x2_1_,.string x2_2_] 30)):=by kernel_rfl
theorem xv (x0_0_:Int)(x0_1_:Int)(x0_2_0_:Int)(x0_2_1_:Int)(x0_2_2_:ByteArray)(x0_3_0_:Int)(x0_3_1_:Int)(x0_3_2_0_:Int)(x0_3_2_1_:Int)(x0_3_2_2_:ByteArray)(x0_3_3_0_:Int)(x0_3_3_1_:Int)(x0_3_3_2_:ByteArray)(x0_3_4_0_:Int)(x0_3_4_1_:Int)(x0_3_4_2_:ByteArray)(x0_4_0_:Int)(x0_4_1_:Int)(x0_4_2_:ByteArray)(w:World):(Instr.buildSlice 59 1 #[(0,.agg #[iV x0_0_,iV x0_1_,iV x0_2_0_,iV x0_2_1_,.string x0_2_2_,iV x0_3_0_,iV x0_3_1_,iV x0_3_2_0_,iV x0_3_2_1_,.string x0_3_2_2_,iV x0_3_3_0_,iV x0_3_3_1_,.string x0_3_3_2_,iV x0_3_4_0_,iV x0_3_4_1_,.string x0_3_4_2_,iV x0_4_0_,iV x0_4_1_,.string x0_4_2_])]).run Tryz.prog w=.ok (.slice (some ⟨w.heap.size,0,none⟩) 1 1) (w.alloc (.cells #[iV x0_0_,iV x0_1_,iV x0_2_0_,iV x0_2_1_,.string x0_2_2_,iV x0_3_0_,iV x0_3_1_,iV x0_3_2_0_,iV x0_3_2_1_,.string x0_3_2_2_,iV x0_3_3_0_,iV x0_3_3_1_,.string x0_3_3_2_,iV x0_3_4_0_,iV x0_3_4_1_,.string x0_3_4_2_,iV x0_4_0_,iV x0_4_1_,.string x0_4_2_] 52)):=by kernel_rfl
theorem mU (x0_0_:Int)(x0_1_:Int)(x0_2_:ByteArray)(w:World):(Instr.buildSlice 67 1 #[(0,.agg #[iV x0_0_,iV x0_1_,.string x0_2_])]).run Tryz.prog w=.ok (.slice (some ⟨w.heap.size,0,none⟩) 1 1) (w.alloc (.cells #[iV x0_0_,iV x0_1_,.string x0_2_] 24)):=by kernel_rfl
theorem xu (x0_0_:Int)(x0_1_:Int)(x0_2_:ByteArray)(x1_0_:Int)(x1_1_:Int)(x1_2_:ByteArray)(w:World):(Instr.buildSlice 67 2 #[(0,.agg #[iV x0_0_,iV x0_1_,.string x0_2_]),(1,.agg #[iV x1_0_,iV x1_1_,.string x1_2_])]).run Tryz.prog w=.ok (.slice (some ⟨w.heap.size,0,none⟩) 2 2) (w.alloc (.cells #[iV x0_0_,iV x0_1_,.string x0_2_,iV x1_0_,iV x1_1_,.string x1_2_] 24)):=by kernel_rfl
theorem xt (x0_0_:Int)(x0_1_:Int)(x0_2_:ByteArray)(x1_0_:Int)(x1_1_:Int)(x1_2_:ByteArray)(x2_0_:Int)(x2_1_:Int)(x2_2_:ByteArray)(w:World):(Instr.buildSlice 67 3 #[(0,.agg #[iV x0_0_,iV x0_1_,.string x0_2_]),(1,.agg #[iV x1_0_,iV x1_1_,.string x1_2_]),(2,.agg #[iV x2_0_,iV x2_1_,.string x2_2_])]).run Tryz.prog w=.ok (.slice (some ⟨w.heap.size,0,none⟩) 3 3) (w.alloc (.cells #[iV x0_0_,iV x0_1_,.string x0_2_,iV x1_0_,iV x1_1_,.string x1_2_,iV x2_0_,iV x2_1_,.string x2_2_] 24)):=by kernel_rfl
theorem xr (x0_0_0_:Int)(x0_0_1_:Int)(x0_0_2_:ByteArray)(x0_1_:Int)(x0_2_0_:Int)(x0_2_1_:Int)(x0_2_2_:ByteArray)(x0_3_0_:Int)(x0_3_1_:Int)(x0_3_2_:ByteArray)(x0_4_0_:Int)(x0_4_1_:Int)(x0_4_2_:ByteArray)(w:World):(Instr.buildSlice 82 1 #[(0,.agg #[iV x0_0_0_,iV x0_0_1_,.string x0_0_2_,iV x0_1_,iV x0_2_0_,iV x0_2_1_,.string x0_2_2_,iV x0_3_0_,iV x0_3_1_,.string x0_3_2_,iV x0_4_0_,iV x0_4_1_,.string x0_4_2_])]).run Tryz.prog w=.ok (.slice (some ⟨w.heap.size,0,none⟩) 1 1) (w.alloc (.cells #[iV x0_0_0_,iV x0_0_1_,.string x0_0_2_,iV x0_1_,iV x0_2_0_,iV x0_2_1_,.string x0_2_2_,iV x0_3_0_,iV x0_3_1_,.string x0_3_2_,iV x0_4_0_,iV x0_4_1_,.string x0_4_2_] 42)):=by kernel_rfl
theorem wo (x0_0_:Int)(x0_1_:Int)(x0_2_:Int)(x0_3_:Int)(x0_4_a:Option Addr)(x0_4_n x0_4_c:Nat)(x0_5_a:Option Addr)(x0_5_n x0_5_c:Nat)(w:World):(Instr.buildSlice 195 1 #[(0,.agg #[iV x0_0_,iV x0_1_,iV x0_2_,iV x0_3_,.slice x0_4_a x0_4_n x0_4_c,.slice x0_5_a x0_5_n x0_5_c])]).run Tryz.prog w=.ok (.slice (some ⟨w.heap.size,0,none⟩) 1 1) (w.alloc (.cells #[iV x0_0_,iV x0_1_,iV x0_2_,iV x0_3_,.slice x0_4_a x0_4_n x0_4_c,.slice x0_5_a x0_5_n x0_5_c] 138)):=by kernel_rfl
theorem pt (x0_0_:Int)(x0_1_0_:Int)(x0_1_1_:Int)(x0_1_2_:ByteArray)(x0_2_:Int)(x0_3_:Int)(w:World):(Instr.buildSlice 202 1 #[(0,.agg #[iV x0_0_,iV x0_1_0_,iV x0_1_1_,.string x0_1_2_,iV x0_2_,iV x0_3_])]).run Tryz.prog w=.ok (.slice (some ⟨w.heap.size,0,none⟩) 1 1) (w.alloc (.cells #[iV x0_0_,iV x0_1_0_,iV x0_1_1_,.string x0_1_2_,iV x0_2_,iV x0_3_] 201)):=by kernel_rfl
theorem sc (x0_:Int)(w:World):(Instr.buildSlice 211 1 #[(0,iV x0_)]).run Tryz.prog w=.ok (.slice (some ⟨w.heap.size,0,none⟩) 1 1) (w.alloc (.cells #[iV x0_] 3)):=by kernel_rfl
theorem Bw:ou Tryz.prog 3 1 8=true:=by kernel_rfl
theorem wx:ou Tryz.prog 24 3 32=true:=by kernel_rfl
theorem sf:ou Tryz.prog 30 3 32=true:=by kernel_rfl
theorem Bi:ou Tryz.prog 42 13 136=true:=by kernel_rfl
theorem AN:ou Tryz.prog 138 6 80=true:=by kernel_rfl
theorem AM:ou Tryz.prog 201 6 56=true:=by kernel_rfl
instance:Fc (eR Tryz.prog 3=true):=⟨co⟩
instance:Fc (eR Tryz.prog 4=true):=⟨ua⟩
instance:Fc (eR Tryz.prog 9=true):=⟨Bm⟩
instance:Fc (eR Tryz.prog 36=true):=⟨pG⟩
instance:Fc (eR Tryz.prog 38=true):=⟨d4⟩
instance:Fc (eR Tryz.prog 67=true):=⟨zG⟩
instance:Fc (eR Tryz.prog 142=true):=⟨gH⟩
instance:Fc (eR Tryz.prog 144=true):=⟨wR⟩
instance:Fc (eR Tryz.prog 193=true):=⟨pi⟩
instance:Fc (eR Tryz.prog 195=true):=⟨sp⟩
instance:Fc (eR Tryz.prog 202=true):=⟨jS⟩
instance:Fc (eR Tryz.prog 203=true):=⟨ub⟩
instance:Fc (eR Tryz.prog 211=true):=⟨z8⟩
instance:Fc (eR Tryz.prog 245=true):=⟨z7⟩
instance:FcA0 Tryz.prog 24 0:=⟨yy⟩
instance:FcA Tryz.prog 24 1 1:=⟨uS⟩
instance:FcA Tryz.prog 24 2 2:=⟨yx⟩
instance:FcA0 Tryz.prog 30 0:=⟨iB⟩
instance:FcA Tryz.prog 30 1 1:=⟨qn⟩
instance:FcA Tryz.prog 30 2 2:=⟨yw⟩
instance:FcA0 Tryz.prog 32 0:=⟨uR⟩
instance:FcA Tryz.prog 32 1 1:=⟨uQ⟩
instance:FcA Tryz.prog 32 2 2:=⟨yv⟩
instance:FcA Tryz.prog 32 3 5:=⟨yu⟩
instance:FcA Tryz.prog 32 4 8:=⟨yt⟩
instance:FcA0 Tryz.prog 42 0:=⟨sB⟩
instance:FcA Tryz.prog 42 1 3:=⟨sy⟩
instance:FcA Tryz.prog 42 2 4:=⟨yr⟩
instance:FcA Tryz.prog 42 3 7:=⟨qm⟩
instance:FcA Tryz.prog 42 4 10:=⟨ql⟩
instance:FcA Tryz.prog 52 1 1:=⟨yq⟩
instance:FcA Tryz.prog 52 2 2:=⟨yp⟩
instance:FcA Tryz.prog 52 3 5:=⟨yo⟩
instance:FcA Tryz.prog 52 4 16:=⟨yn⟩
instance:FcA0 Tryz.prog 57 0:=⟨ym⟩
instance:FcA Tryz.prog 57 1 1:=⟨yl⟩
instance:FcA Tryz.prog 57 2 2:=⟨yk⟩
instance:FcA Tryz.prog 57 3 3:=⟨uP⟩
instance:FcA Tryz.prog 57 4 4:=⟨yj⟩
instance:FcA Tryz.prog 57 5 5:=⟨yi⟩
instance:FcA Tryz.prog 57 6 6:=⟨yh⟩
instance:FcA0 Tryz.prog 138 0:=⟨tH⟩
instance:FcA Tryz.prog 138 1 1:=⟨jW⟩
instance:FcA Tryz.prog 138 2 2:=⟨tG⟩
instance:FcA Tryz.prog 138 3 3:=⟨gP⟩
instance:FcA Tryz.prog 138 4 4:=⟨ft⟩
instance:FcA Tryz.prog 138 5 5:=⟨jV⟩
instance:FcA0 Tryz.prog 140 0:=⟨dM⟩
instance:FcA Tryz.prog 140 1 6:=⟨jU⟩
instance:FcA Tryz.prog 140 2 7:=⟨tD⟩
instance:FcA Tryz.prog 147 1 1:=⟨tC⟩
instance:FcA0 Tryz.prog 151 0:=⟨tA⟩
instance:FcA Tryz.prog 151 1 3:=⟨tz⟩
instance:FcA Tryz.prog 151 3 11:=⟨fX⟩
instance:FcA Tryz.prog 151 4 12:=⟨xa⟩
instance:FcA Tryz.prog 151 6 14:=⟨wZ⟩
instance:FcA0 Tryz.prog 197 0:=⟨qZ⟩
instance:FcA Tryz.prog 197 1 1:=⟨wY⟩
instance:FcA0 Tryz.prog 199 0:=⟨qY⟩
instance:FcA Tryz.prog 199 1 2:=⟨qX⟩
instance:FcA Tryz.prog 199 3 4:=⟨mH⟩
instance:FcA0 Tryz.prog 201 0:=⟨oO⟩
instance:FcA Tryz.prog 201 1 1:=⟨oN⟩
instance:FcA Tryz.prog 201 2 4:=⟨lh⟩
instance:FcA Tryz.prog 201 3 5:=⟨oM⟩
instance:FcA0 Tryz.prog 205 0:=⟨lg⟩
instance:FcA Tryz.prog 205 1 1:=⟨qW⟩
instance:FcA0 Tryz.prog 247 0:=⟨wX⟩
theorem rZ:Tryz.prog.eqGuardType Tryz.prog.depth 24=false:=by kernel_rfl
theorem uY (x y:CC)(w:World):(Op.equalIn 10000 24 (.agg #[iV x.Kind,iV x.N,.string x.S]) (.agg #[iV y.Kind,iV y.N,.string y.S])).run Tryz.prog w=.ok (decide (x=y)) w:=by
 obtain ⟨xKind,xN,xS⟩:=x;obtain ⟨yKind,yN,yS⟩:=y;show (Op.equalIn 10000 24 (.agg #[iV xKind,iV xN,.string xS]) (.agg #[iV yKind,iV yN,.string yS])).run Tryz.prog w=_
 go_simp
 simp only [oY];by_cases h0:xKind=yKind<;>by_cases h1:xN=yN<;>by_cases h2:xS=yS<;>simp [h0,h1,h2]
theorem rb {s:bK}{C:World→Prop}{d:Option Nat}{ty u:TypeId}{pos:String}{af:Array Edge}{gd:Option (Nat×Bool)}{a b:Operand}{x y:CC}(hx:bL s a=some (.agg #[iV x.Kind,iV x.N,.string x.S]))(hy:bL s b=some (.agg #[iV y.Kind,iV y.N,.string y.S])):Ev Tryz.prog s C ⟨d,.binOp .eql 24 a b u,ty,pos,af,gd⟩ (.bool (decide (x=y))):=
 db hx hy fun w=>by
  rw [Sem.run_bind,run_eqGuard_agg w _ _ _ _ _ _ rZ];simp only [Result.andThen_ok];rw [run_eql_struct,uY];rfl
theorem wk {s:bK}{C:World→Prop}{d:Option Nat}{ty u:TypeId}{pos:String}{af:Array Edge}{gd:Option (Nat×Bool)}{a b:Operand}{x y:CC}(hx:bL s a=some (.agg #[iV x.Kind,iV x.N,.string x.S]))(hy:bL s b=some (.agg #[iV y.Kind,iV y.N,.string y.S])):Ev Tryz.prog s C ⟨d,.binOp .neq 24 a b u,ty,pos,af,gd⟩ (.bool (!decide (x=y))):=
 db hx hy fun w=>by
  rw [Sem.run_bind,run_eqGuard_agg w _ _ _ _ _ _ rZ];simp only [Result.andThen_ok];rw [run_neq_struct,uY];rfl
theorem rY:Tryz.prog.eqGuardType Tryz.prog.depth 30=false:=by kernel_rfl
theorem uX (x y:Cp)(w:World):(Op.equalIn 10000 30 (.agg #[iV x.Kind,iV x.N,.string x.S]) (.agg #[iV y.Kind,iV y.N,.string y.S])).run Tryz.prog w=.ok (decide (x=y)) w:=by
 obtain ⟨xKind,xN,xS⟩:=x;obtain ⟨yKind,yN,yS⟩:=y;show (Op.equalIn 10000 30 (.agg #[iV xKind,iV xN,.string xS]) (.agg #[iV yKind,iV yN,.string yS])).run Tryz.prog w=_
 go_simp
 simp only [oY];by_cases h0:xKind=yKind<;>by_cases h1:xN=yN<;>by_cases h2:xS=yS<;>simp [h0,h1,h2]
theorem mI {s:bK}{C:World→Prop}{d:Option Nat}{ty u:TypeId}{pos:String}{af:Array Edge}{gd:Option (Nat×Bool)}{a b:Operand}{x y:Cp}(hx:bL s a=some (.agg #[iV x.Kind,iV x.N,.string x.S]))(hy:bL s b=some (.agg #[iV y.Kind,iV y.N,.string y.S])):Ev Tryz.prog s C ⟨d,.binOp .eql 30 a b u,ty,pos,af,gd⟩ (.bool (decide (x=y))):=
 db hx hy fun w=>by
  rw [Sem.run_bind,run_eqGuard_agg w _ _ _ _ _ _ rY];simp only [Result.andThen_ok];rw [run_eql_struct,uX];rfl
theorem r5 {s:bK}{C:World→Prop}{d:Option Nat}{ty u:TypeId}{pos:String}{af:Array Edge}{gd:Option (Nat×Bool)}{a b:Operand}{x y:Cp}(hx:bL s a=some (.agg #[iV x.Kind,iV x.N,.string x.S]))(hy:bL s b=some (.agg #[iV y.Kind,iV y.N,.string y.S])):Ev Tryz.prog s C ⟨d,.binOp .neq 30 a b u,ty,pos,af,gd⟩ (.bool (!decide (x=y))):=
 db hx hy fun w=>by
  rw [Sem.run_bind,run_eqGuard_agg w _ _ _ _ _ _ rY];simp only [Result.andThen_ok];rw [run_neq_struct,uX];rfl
theorem wd:Tryz.prog.eqGuardType Tryz.prog.depth 42=false:=by kernel_rfl
theorem yB (x y:Cr)(w:World):(Op.equalIn 10000 42 (.agg #[iV x.Key.Kind,iV x.Key.N,.string x.Key.S,iV x.Attrs,iV x.Value.Kind,iV x.Value.N,.string x.Value.S,iV x.Get.Kind,iV x.Get.N,.string x.Get.S,iV x.Set.Kind,iV x.Set.N,.string x.Set.S]) (.agg #[iV y.Key.Kind,iV y.Key.N,.string y.Key.S,iV y.Attrs,iV y.Value.Kind,iV y.Value.N,.string y.Value.S,iV y.Get.Kind,iV y.Get.N,.string y.Get.S,iV y.Set.Kind,iV y.Set.N,.string y.Set.S])).run Tryz.prog w=.ok (decide (x=y)) w:=by
 obtain ⟨⟨xKeyKind,xKeyN,xKeyS⟩,xAttrs,⟨xValueKind,xValueN,xValueS⟩,⟨xGetKind,xGetN,xGetS⟩,⟨xSetKind,xSetN,xSetS⟩⟩:=x;obtain ⟨⟨yKeyKind,yKeyN,yKeyS⟩,yAttrs,⟨yValueKind,yValueN,yValueS⟩,⟨yGetKind,yGetN,yGetS⟩,⟨ySetKind,ySetN,ySetS⟩⟩:=y;show (Op.equalIn 10000 42 (.agg #[iV xKeyKind,iV xKeyN,.string xKeyS,iV xAttrs,iV xValueKind,iV xValueN,.string xValueS,iV xGetKind,iV xGetN,.string xGetS,iV xSetKind,iV xSetN,.string xSetS]) (.agg #[iV yKeyKind,iV yKeyN,.string yKeyS,iV yAttrs,iV yValueKind,iV yValueN,.string yValueS,iV yGetKind,iV yGetN,.string yGetS,iV ySetKind,iV ySetN,.string ySetS])).run Tryz.prog w=_
 go_simp
 simp only [oY];by_cases h0:xKeyKind=yKeyKind
 rotate_left
 ·simp [h0]
 by_cases h1:xKeyN=yKeyN
 rotate_left
 ·simp [h0,h1]
 by_cases h2:xKeyS=yKeyS
 rotate_left
 ·simp [h0,h1,h2]
 by_cases h3:xAttrs=yAttrs
 rotate_left
 ·simp [h0,h1,h2,h3]
 by_cases h4:xValueKind=yValueKind
 rotate_left
 ·simp [h0,h1,h2,h3,h4]
 by_cases h5:xValueN=yValueN
 rotate_left
 ·simp [h0,h1,h2,h3,h4,h5]
 by_cases h6:xValueS=yValueS
 rotate_left
 ·simp [h0,h1,h2,h3,h4,h5,h6]
 by_cases h7:xGetKind=yGetKind
 rotate_left
 ·simp [h0,h1,h2,h3,h4,h5,h6,h7]
 by_cases h8:xGetN=yGetN
 rotate_left
 ·simp [h0,h1,h2,h3,h4,h5,h6,h7,h8]
 by_cases h9:xGetS=yGetS
 rotate_left
 ·simp [h0,h1,h2,h3,h4,h5,h6,h7,h8,h9]
 by_cases h10:xSetKind=ySetKind
 rotate_left
 ·simp [h0,h1,h2,h3,h4,h5,h6,h7,h8,h9,h10]
 by_cases h11:xSetN=ySetN
 rotate_left
 ·simp [h0,h1,h2,h3,h4,h5,h6,h7,h8,h9,h10,h11]
 by_cases h12:xSetS=ySetS
 rotate_left
 ·simp [h0,h1,h2,h3,h4,h5,h6,h7,h8,h9,h10,h11,h12]
 simp [h0,h1,h2,h3,h4,h5,h6,h7,h8,h9,h10,h11,h12]
theorem xb {s:bK}{C:World→Prop}{d:Option Nat}{ty u:TypeId}{pos:String}{af:Array Edge}{gd:Option (Nat×Bool)}{a b:Operand}{x y:Cr}(hx:bL s a=some (.agg #[iV x.Key.Kind,iV x.Key.N,.string x.Key.S,iV x.Attrs,iV x.Value.Kind,iV x.Value.N,.string x.Value.S,iV x.Get.Kind,iV x.Get.N,.string x.Get.S,iV x.Set.Kind,iV x.Set.N,.string x.Set.S]))(hy:bL s b=some (.agg #[iV y.Key.Kind,iV y.Key.N,.string y.Key.S,iV y.Attrs,iV y.Value.Kind,iV y.Value.N,.string y.Value.S,iV y.Get.Kind,iV y.Get.N,.string y.Get.S,iV y.Set.Kind,iV y.Set.N,.string y.Set.S])):Ev Tryz.prog s C ⟨d,.binOp .eql 42 a b u,ty,pos,af,gd⟩ (.bool (decide (x=y))):=
 db hx hy fun w=>by
  rw [Sem.run_bind,run_eqGuard_agg w _ _ _ _ _ _ wd];simp only [Result.andThen_ok];rw [run_eql_struct,yB];rfl
theorem xd (x y:Cy)(w:World):(Op.equalIn 10000 257 (.agg #[iV x.up_,iV x.key_.Kind,iV x.key_.N,.string x.key_.S,iV x.attrs_]) (.agg #[iV y.up_,iV y.key_.Kind,iV y.key_.N,.string y.key_.S,iV y.attrs_])).run Tryz.prog w=.ok (decide (x=y)) w:=by
 obtain ⟨xup_,⟨xkey_Kind,xkey_N,xkey_S⟩,xattrs_⟩:=x;obtain ⟨yup_,⟨ykey_Kind,ykey_N,ykey_S⟩,yattrs_⟩:=y;show (Op.equalIn 10000 257 (.agg #[iV xup_,iV xkey_Kind,iV xkey_N,.string xkey_S,iV xattrs_]) (.agg #[iV yup_,iV ykey_Kind,iV ykey_N,.string ykey_S,iV yattrs_])).run Tryz.prog w=_
 go_simp
 simp only [oY];by_cases h0:xup_=yup_
 rotate_left
 ·simp [h0]
 by_cases h1:xkey_Kind=ykey_Kind
 rotate_left
 ·simp [h0,h1]
 by_cases h2:xkey_N=ykey_N
 rotate_left
 ·simp [h0,h1,h2]
 by_cases h3:xkey_S=ykey_S
 rotate_left
 ·simp [h0,h1,h2,h3]
 by_cases h4:xattrs_=yattrs_
 rotate_left
 ·simp [h0,h1,h2,h3,h4]
 simp [h0,h1,h2,h3,h4]
def aD (x:Cy):Value:=.agg #[iV x.up_,iV x.key_.Kind,iV x.key_.N,.string x.key_.S,iV x.attrs_]
theorem qT:KeyOk Tryz.prog 257 aD where
 und:=⟨_,Tryz.underlying257,fun a b=> .inl rfl⟩
 eq:=fun a b w=>xd a b w
 check:=fun e a w=>by
  obtain ⟨xup_,⟨xkey_Kind,xkey_N,xkey_S⟩,xattrs_⟩:=a;kernel_rfl
 bits:=fun a=>by
  obtain ⟨xup_,⟨xkey_Kind,xkey_N,xkey_S⟩,xattrs_⟩:=a;simp [aD,Instr.sameBits,ux]
def cL (N:Nat)(a0:Int)(a1:Int)(a2:Int):Option Bool:=
 (bif decide (a1≤a0) then (some (decide (a0≤a2))) else (some false)).bind fun b1=>some b1
theorem cX {N:Nat}{a0:Int}{a1:Int}{a2:Int}{r:Bool}(h:cL N a0 a1 a2=some r):Okc Tryz.prog 147 [iV a0,iV a1,iV a2] ([]) (fun u post=>u=.bool r∧post=[]):=by
 refine bj Tryz.func147 J J ?_;simp only [aS];refine U ?_;obtain ⟨b1,hb1,h⟩:=aa h;refine aA 4 14 b1 ?_ ?_
 ·clear h;refine ax 10 J (fun g1=> ?_) (fun g1=> ?_)
  ·have h:=ad g1 hb1;refine U ?_;obtain rfl:=al h;exact ab sA (cS [] 0)
  have h:=ae g1 hb1;refine U ?_;obtain rfl:=al h;exact ab sA (cS [] 0)
 refine U ?_;obtain rfl:=al h;exact aJ J J (cS [] 0) ⟨J,J⟩
theorem cB {r:Bool}: ∀v post,((fun (u:Value) (post:List Chunk)=>u=.bool r∧post=[])) v post→ ∀c∈post,bS c:=by
 rintro _ _ ⟨rfl,rfl⟩;exact ac
def nJ (N:Nat)(a0:Cs):Option Bool:=
 (cL N a0.Way 0 1).bind fun y2=>(bif y2 then ((cL N a0.Steps 0 1073741824).bind fun y4=>some y4) else (some false)).bind fun b3=>(bif b3 then ((cL N a0.Calls 1 200).bind fun y6=>some y6) else (some false)).bind fun b5=>(bif b5 then ((cL N a0.Made 0 1048576).bind fun y8=>some y8) else (some false)).bind fun b7=>(bif b7 then ((cL N a0.Young 0 1073741824).bind fun y10=>some y10) else (some false)).bind fun b9=>(bif b9 then ((cL N a0.Full 0 1073741824).bind fun y12=>some y12) else (some false)).bind fun b11=>(bif b11 then ((cL N a0.Sites 0 4).bind fun y14=>some y14) else (some false)).bind fun b13=>some b13
theorem qF {N:Nat}{a0:Cs}{r:Bool}(h:nJ N a0=some r):Okc Tryz.prog 85 [.agg #[iV a0.Way,iV a0.Steps,iV a0.Calls,iV a0.Made,iV a0.Young,iV a0.Full,iV a0.Sites]] ([]) (fun u post=>u=.bool r∧post=[]):=by
 refine bj Tryz.func85 J J ?_;simp only [aS];refine U ?_;refine gD (aN J J) ?_;rintro _ _ ⟨B1,rfl,rfl⟩;refine U ?_;obtain ⟨y2,hy2,h⟩:=aa h;refine gD (gx (cX hy2) lM J J J (ac) cB) ?_;rintro _ _ ⟨_,⟨rfl,rfl⟩,rfl⟩;refine U ?_;obtain ⟨b3,hb3,h⟩:=aa h;refine aA 5 13 b3 ?_ ?_
 ·clear h;refine ax 8 J (fun g3=> ?_) (fun g3=> ?_)
  ·have h:=ad g3 hb3;refine U ?_;obtain ⟨y4,hy4,h⟩:=aa h;refine bx (gx (cX hy4) lM J J J (ac) cB) J (aZ g3 J) J ?_;rintro _ _ ⟨_,⟨rfl,rfl⟩,rfl⟩;refine U ?_;obtain rfl:=al h;exact ab sA (cS [0] 1)
  have h:=ae g3 hb3;refine U ?_;obtain rfl:=al h;exact ab sA (cS [0] 1)
 refine U ?_;obtain ⟨b5,hb5,h⟩:=aa h;refine aA 5 19 b5 ?_ ?_
 ·clear h;refine ax 14 J (fun g5=> ?_) (fun g5=> ?_)
  ·have h:=ad g5 hb5;refine U ?_;obtain ⟨y6,hy6,h⟩:=aa h;refine bx (gx (cX hy6) lM J J J (ac) cB) J (aZ g5 J) J ?_;rintro _ _ ⟨_,⟨rfl,rfl⟩,rfl⟩;refine U ?_;obtain rfl:=al h;exact ab sA (cS [0] 1)
  have h:=ae g5 hb5;refine U ?_;obtain rfl:=al h;exact ab sA (cS [0] 1)
 refine U ?_;obtain ⟨b7,hb7,h⟩:=aa h;refine aA 5 25 b7 ?_ ?_
 ·clear h;refine ax 20 J (fun g7=> ?_) (fun g7=> ?_)
  ·have h:=ad g7 hb7;refine U ?_;obtain ⟨y8,hy8,h⟩:=aa h;refine bx (gx (cX hy8) lM J J J (ac) cB) J (aZ g7 J) J ?_;rintro _ _ ⟨_,⟨rfl,rfl⟩,rfl⟩;refine U ?_;obtain rfl:=al h;exact ab sA (cS [0] 1)
  have h:=ae g7 hb7;refine U ?_;obtain rfl:=al h;exact ab sA (cS [0] 1)
 refine U ?_;obtain ⟨b9,hb9,h⟩:=aa h;refine aA 5 31 b9 ?_ ?_
 ·clear h;refine ax 26 J (fun g9=> ?_) (fun g9=> ?_)
  ·have h:=ad g9 hb9;refine U ?_;obtain ⟨y10,hy10,h⟩:=aa h;refine bx (gx (cX hy10) lM J J J (ac) cB) J (aZ g9 J) J ?_;rintro _ _ ⟨_,⟨rfl,rfl⟩,rfl⟩;refine U ?_;obtain rfl:=al h;exact ab sA (cS [0] 1)
  have h:=ae g9 hb9;refine U ?_;obtain rfl:=al h;exact ab sA (cS [0] 1)
 refine U ?_;obtain ⟨b11,hb11,h⟩:=aa h;refine aA 5 37 b11 ?_ ?_
 ·clear h;refine ax 32 J (fun g11=> ?_) (fun g11=> ?_)
  ·have h:=ad g11 hb11;refine U ?_;obtain ⟨y12,hy12,h⟩:=aa h;refine bx (gx (cX hy12) lM J J J (ac) cB) J (aZ g11 J) J ?_;rintro _ _ ⟨_,⟨rfl,rfl⟩,rfl⟩;refine U ?_;obtain rfl:=al h;exact ab sA (cS [0] 1)
  have h:=ae g11 hb11;refine U ?_;obtain rfl:=al h;exact ab sA (cS [0] 1)
 refine U ?_;obtain ⟨b13,hb13,h⟩:=aa h;refine aA 5 43 b13 ?_ ?_
 ·clear h;refine ax 38 J (fun g13=> ?_) (fun g13=> ?_)
  ·have h:=ad g13 hb13;refine U ?_;obtain ⟨y14,hy14,h⟩:=aa h;refine bx (gx (cX hy14) lM J J J (ac) cB) J (aZ g13 J) J ?_;rintro _ _ ⟨_,⟨rfl,rfl⟩,rfl⟩;refine U ?_;obtain rfl:=al h;exact ab sA (cS [0] 1)
  have h:=ae g13 hb13;refine U ?_;obtain rfl:=al h;exact ab sA (cS [0] 1)
 refine U ?_;obtain rfl:=al h;exact aJ J J (cS [] 1) ⟨J,J⟩
theorem pe {r:Bool}: ∀v post,((fun (u:Value) (post:List Chunk)=>u=.bool r∧post=[])) v post→ ∀c∈post,bS c:=by
 rintro _ _ ⟨rfl,rfl⟩;exact ac
def oB (N:Nat):Option Cq:=
 some (⟨([]:(List (Int×Bool)))⟩:Cq)
theorem rD {N:Nat}{r:Cq}(h:oB N=some r):Okc Tryz.prog 148 [] ([]) (fun u post=> ∃B0 M1,u=pV B0 0∧post=[aj B0 247 [.map (some M1)],aL cv cy M1 r.at_]):=by
 refine bj Tryz.func148 J J ?_;simp only [aS];refine U ?_;refine gD (qK (ek:=cv) (ev:=cy)) ?_;rintro _ _ ⟨M1,rfl,rfl⟩;refine gE (aW J (wq _)) ?_;refine gD (aN J J) ?_;rintro _ _ ⟨B2,rfl,rfl⟩;refine U ?_;obtain rfl:=al h;exact aJ J J (cS [0,1] 2) ⟨_,_,J,J⟩
def qU (N:Nat):Option CB:=
 (oB N).bind fun y1=>some (⟨(⟨[],[]⟩:Co),[],[],y1⟩:CB)
theorem tw {N:Nat}{r:CB}(h:qU N=some r):Okc Tryz.prog 86 [] ([]) (fun u post=> ∃B0 A1 n1 c1 A2 n2 c2 A3 n3 c3 A4 n4 c4 B5 M6,u=pV B0 0∧post=[aj B0 199 [I A1 n1 c1,I A2 n2 c2,I A3 n3 c3,I A4 n4 c4,pV B5 0],bu A1 n1 c1 r.m_.Young,bu A2 n2 c2 r.m_.Old,aU A3 n3 c3 r.roots_,aU A4 n4 c4 r.pending_,aj B5 247 [.map (some M6)],aL cv cy M6 r.set_.at_]):=by
 refine bj Tryz.func86 J J ?_;simp only [aS];refine U ?_;obtain ⟨y1,hy1,h⟩:=aa h;refine gD (aE (rD hy1) zi J (aC [] [] [] 0 J)) ?_;rintro _ _ ⟨_,⟨B2,M3,rfl,rfl⟩,rfl⟩;refine gE (aW J (ws _)) ?_;refine gD (aN J J) ?_;rintro _ _ ⟨B4,rfl,rfl⟩;refine U ?_;obtain rfl:=al h;exact aJ J J ((ei mB 138 _).trans ((ei mB 138 _).trans ((ei bA 30 _).trans ((ei bA 30 _).trans (cS [4,3,2,1,0,5,6] 7))))) ⟨_,_,_,_,_,_,_,_,_,_,_,_,_,_,_,J,J⟩
def pA (N:Nat):Option Cz:=
 some (⟨([(⟨(-1),(⟨0,0,⟨#[]⟩⟩:CC),0,0⟩:Ct)]:List Ct),([]:(List (Cy×Int)))⟩:Cz)
theorem sk {N:Nat}{r:Cz}(h:pA N=some r):Okc Tryz.prog 87 [] ([]) (fun u post=> ∃B0 A1 n1 c1 M2,u=pV B0 0∧post=[aj B0 205 [I A1 n1 c1,.map (some M2)],cR A1 n1 c1 r.shapes_,aL aD cu M2 r.next_]):=by
 refine bj Tryz.func87 J J ?_;simp only [aS];refine U ?_;refine gE (aW J (wr _)) ?_;refine gD (bD (R:=nm) (vss:=[[iV (-1),iV 0,iV 0,.string (⟨#[]⟩),iV 0,iV 0]]) (xs:=[(⟨(-1),(⟨0,0,⟨#[]⟩⟩:CC),0,0⟩:Ct)]) J (pt _ _ _ _ _ _) J J (fun _ _ hr=> .cons J All2.nil)) ?_;rintro _ _ ⟨A1,n1,c1,rfl,rfl⟩;refine gD (qK (ek:=aD) (ev:=cu)) ?_;rintro _ _ ⟨M2,rfl,rfl⟩;refine gE (aW J (tS _ _ _ _)) ?_;refine gD (aN J J) ?_;rintro _ _ ⟨B3,rfl,rfl⟩;refine U ?_;obtain rfl:=al h;exact aJ J J (cS [0,2,1] 3) ⟨_,_,_,_,_,J,J⟩
def cK (N:Nat)(a0:CB):Option Bool:=
 some false
theorem cY {N:Nat}{a0:CB}{r:Bool}(h:cK N a0=some r):Okc Tryz.prog 149 [pV B1 0] ([aR B1 199 [I A2 n2 c2,I A3 n3 c3,I A4 n4 c4,I A5 n5 c5,pV B6 0],lv A2 n2 c2 a0.m_.Young,lv A3 n3 c3 a0.m_.Old,cn A4 n4 c4 a0.roots_,cn A5 n5 c5 a0.pending_,aR B6 247 [.map (some M7)],d5 cv cy M7 a0.set_.at_]) (fun u post=>u=.bool r∧post=[]):=by
 refine bj Tryz.func149 J J ?_;simp only [aS];refine U ?_;refine gE (cZ J Tryz.underlying142) ?_;refine U ?_;refine gR (bN 0 J J pi J) ?_;refine gE (cZ J Tryz.underlying193) ?_;refine U ?_;obtain rfl:=al h;exact aJ J J (cS [] 7) ⟨J,J⟩
theorem cH {r:Bool}: ∀v post,((fun (u:Value) (post:List Chunk)=>u=.bool r∧post=[])) v post→ ∀c∈post,bS c:=by
 rintro _ _ ⟨rfl,rfl⟩;exact ac
def eh (N:Nat)(a0:CB)(a1:Int):Option Cp:=
 (cK N a0).bind fun y9=>(bif y9 then (some true) else (some (decide (a1<0)))).bind fun b10=>(bif b10 then (some true) else (some (decide ((a0.roots_.length:Int)≤a1)))).bind fun b11=>bif b11 then (some (⟨0,0,⟨#[]⟩⟩:Cp)) else ((ck a0.roots_ a1).bind fun x13=>some x13)
theorem fa {N:Nat}{a0:CB}{a1:Int}{r:Cp}(h:eh N a0 a1=some r):Okc Tryz.prog 95 [pV B1 0,iV a1] ([aR B1 199 [I A2 n2 c2,I A3 n3 c3,I A4 n4 c4,I A5 n5 c5,pV B6 0],lv A2 n2 c2 a0.m_.Young,lv A3 n3 c3 a0.m_.Old,cn A4 n4 c4 a0.roots_,cn A5 n5 c5 a0.pending_,aR B6 247 [.map (some M7)],d5 cv cy M7 a0.set_.at_]) (fun u post=>u=.agg #[iV r.Kind,iV r.N,.string r.S]∧post=[]):=by
 refine bj Tryz.func95 J J ?_;simp only [aS];refine U ?_;refine gD (aF dF J) ?_;rintro _ _ ⟨B8,rfl,rfl⟩;refine U ?_;refine aw ?_;refine U ?_;obtain ⟨y9,hy9,h⟩:=aa h;refine gD (ak (cY hy9) ny J (hE (ag (i:=1) J J) (hE (ag (i:=2) J J) (hE (ag (i:=3) J J) (hE (ag (i:=4) J J) (hE (ag (i:=5) J J) (hE (ag (i:=6) J J) (hE (ag (i:=7) J J) ac))))))) cH) ?_;rintro _ _ ⟨_,⟨rfl,rfl⟩,rfl⟩;refine U ?_;obtain ⟨b10,hb10,h⟩:=aa h;refine aA 3 10 b10 ?_ ?_
 ·clear h;refine ax 7 J (fun g10=> ?_) (fun g10=> ?_)
  ·have h:=ad g10 hb10;refine U ?_;obtain rfl:=al h;exact ab sA (cS [0,1,2,3,4,5,6,7] 8)
  have h:=ae g10 hb10;refine U ?_;obtain rfl:=al h;exact ab sA (cS [0,1,2,3,4,5,6,7] 8)
 refine U ?_;obtain ⟨b11,hb11,h⟩:=aa h;refine aA 8 19 b11 ?_ ?_
 ·clear h;refine ax 11 J (fun g11=> ?_) (fun g11=> ?_)
  ·have h:=ad g11 hb11;refine U ?_;obtain rfl:=al h;exact ab sA (cS [0,1,2,3,4,5,6,7] 8)
  have h:=ae g11 hb11;refine U ?_;refine bv (bN 1 J J d4 J) J (bO g11 J) J ?_;refine bv (br 4 J aI J hH) J (bO g11 J) J ?_;refine U ?_;obtain rfl:=al h;exact ab sA (cS [0,1,2,3,4,5,6,7] 8)
 refine U ?_;refine aq J (fun g12=> ?_) (fun g12=> ?_)
 ·replace h:=ad g12 h;refine U ?_;refine gE (aW J (iC)) ?_;refine gO (ao (us:=[iV 0,iV 0,.string (⟨#[]⟩)]) (cs':=[iV 0,iV 0,.string (⟨#[]⟩)]) 0 J J J J aT J J J) ?_;rintro _ _ rfl;refine U ?_;obtain rfl:=al h;exact bR (rs:=[.cell 4 30]) (vs:=[.agg #[iV 0,iV 0,.string (⟨#[]⟩)]]) J (.cons (bg 0 J J aH) .nil) J (cS [] 8) ⟨J,J⟩
 replace h:=ae g12 h;refine U ?_;refine gR (bN 1 J J d4 J) ?_;refine U ?_;obtain ⟨x13,hx13,h⟩:=aa h;obtain ⟨lx13,ux13,hx13⟩:=aG hx13;refine gR (bf 4 J aI J J hH aT lx13 ux13) ?_;refine gR (bi (us:=[iV x13.Kind,iV x13.N,.string x13.S]) 4 J aI J hx13 aH (fun _ _ _ h=>by rw [show _=_ from h];rfl)) ?_;refine gO (ao (us:=[iV x13.Kind,iV x13.N,.string x13.S]) (cs':=[iV x13.Kind,iV x13.N,.string x13.S]) 0 J J J J aT J J J) ?_;rintro _ _ rfl;refine U ?_;obtain rfl:=al h;exact bR (rs:=[.cell 4 30]) (vs:=[.agg #[iV x13.Kind,iV x13.N,.string x13.S]]) J (.cons (bg 0 J J aH) .nil) J (cS [] 8) ⟨J,J⟩
theorem eb {r:Cp}: ∀v post,((fun (u:Value) (post:List Chunk)=>u=.agg #[iV r.Kind,iV r.N,.string r.S]∧post=[])) v post→ ∀c∈post,bS c:=by
 rintro _ _ ⟨rfl,rfl⟩;exact ac
def jc (N:Nat){σ:Type}(fy:(Bool×Cp)→σ→Option (Bool×σ))(a1:Cl):Nat→Int→σ→Option σ
 |0,_,_=>none
 |m15+1,p16,p17=>bif decide (p16<(a1.More.length:Int)) then ((ck a1.More p16).bind fun x19=>(bif !decide (a1.Kind=8) then ((bif !decide (a1.Kind=10) then (some true) else (some (decide (p16.tmod 2=0)))).bind fun b22=>some b22) else (some false)).bind fun b21=>(fy (b21,x19) p17).bind fun y23=>bif !y23.1 then (some y23.2) else (dD (cc (p16+1)) ((jc N fy a1 m15) (p16+1) y23.2))) else (some p17)
def mS (N:Nat){σ:Type}(fy:(Bool×Cp)→σ→Option (Bool×σ))(a1:Cl)(p5:σ):Option σ:=
 jc N fy a1 N 0 p5
def jY (N:Nat){σ:Type}(fy:(Bool×Cp)→σ→Option (Bool×σ))(a1:Cl):Nat→Int→σ→Option σ
 |0,_,_=>none
 |m6+1,p7,p8=>bif decide (p7<(a1.Slots.length:Int)) then ((ck a1.Slots p7).bind fun x10=>(fy (true,x10) p8).bind fun y12=>bif !y12.1 then (some y12.2) else (dD (cc (p7+1)) ((jY N fy a1 m6) (p7+1) y12.2))) else (mS N fy a1 p8)
def kP (N:Nat){σ:Type}(a1:Cl)(fy:(Bool×Cp)→σ→Option (Bool×σ))(s0:σ):Option σ:=
 jY N fy a1 N 0 s0
theorem mR {N:Nat}{σ:Type}{a1:Cl}{fy:(Bool×Cp)→σ→Option (Bool×σ)}{s0:σ}{r:σ}(h:kP N a1 fy s0=some r){l:Nat}{G:σ→List Chunk}(hY:lT Tryz.prog l G (fun x=> [.bool x.1,.agg #[iV x.2.Kind,iV x.2.N,.string x.2.S]]) fy):Okc Tryz.prog 238 [.func (.yield l) #[] #[],pV B1 0] (aR B1 138 [iV a1.Kind,iV a1.Shape,iV a1.Flags,iV a1.Age,I A2 n2 c2,I A3 n3 c3]::cn A2 n2 c2 a1.Slots::cn A3 n3 c3 a1.More::(G s0)) (fun u post=>u=.tuple #[]∧post=G r):=by
 refine bj Tryz.func238 J J ?_;simp only [aS];refine aY (fun s L=> ∃p5,mS N fy a1 p5=some r∧s=[(0,.func (.yield l) #[] #[]),(1,pV B1 0)]∧L=cn A2 n2 c2 a1.Slots::cn A3 n3 c3 a1.More::aR B1 138 [iV a1.Kind,iV a1.Shape,iV a1.Flags,iV a1.Age,I A2 n2 c2,I A3 n3 c3]::(G p5)) ?_ ?_
 ·refine U ?_;refine gR (bN 0 J J d4 J) ?_;refine gR (br 1 J aI J hH) ?_;refine U ?_;refine ci (fun m s L=> ∃p7 p8,jY N fy a1 m p7 p8=some r∧s=[(0,.func (.yield l) #[] #[]),(1,pV B1 0),(9,I A2 n2 c2),(10,iV (a1.Slots.length:Int)),(11,iV p7)]∧L=cn A2 n2 c2 a1.Slots::cn A3 n3 c3 a1.More::aR B1 138 [iV a1.Kind,iV a1.Shape,iV a1.Flags,iV a1.Age,I A2 n2 c2,I A3 n3 c3]::(G p8)) N _ _ ⟨0,s0,h,J,J⟩ sA (cS [1,2,0] 3) ?_;rintro (_|m6) _ _ ⟨p7,p8,h,rfl,rfl⟩
  ·exact bd h
  rw [jY.eq_2] at h;refine U ?_;refine aw ?_;refine aq J (fun g9=> ?_) (fun g9=> ?_)
  ·replace h:=ad g9 h;refine U ?_;refine aw ?_;refine U ?_;obtain ⟨x10,hx10,h⟩:=aa h;obtain ⟨lx10,ux10,hx10⟩:=aG hx10;refine gR (bf 0 J aI J J hH aT lx10 ux10) ?_;refine gR (bi (us:=[iV x10.Kind,iV x10.N,.string x10.S]) 0 J aI J hx10 aH (fun _ _ _ h=>by rw [show _=_ from h];rfl)) ?_;refine gD (aF dF J) ?_;rintro _ _ ⟨B11,rfl,rfl⟩;refine gO (ao (us:=[iV x10.Kind,iV x10.N,.string x10.S]) (cs':=[iV x10.Kind,iV x10.N,.string x10.S]) 0 J J J J aT J J J) ?_;rintro _ _ rfl;refine U ?_;refine gR (ai (us:=[iV x10.Kind,iV x10.N,.string x10.S]) 0 J J aH J) ?_;obtain ⟨y12,hy12,h⟩:=aa h;refine gD (ph (a:=(true,x10)) [aj B11 30 [iV x10.Kind,iV x10.N,.string x10.S],cn A2 n2 c2 a1.Slots,cn A3 n3 c3 a1.More,aR B1 138 [iV a1.Kind,iV a1.Shape,iV a1.Flags,iV a1.Age,I A2 n2 c2,I A3 n3 c3]] hY hy12 J J) ?_;rintro _ _ ⟨rfl,rfl⟩;refine U ?_;refine aq J (fun g13=> ?_) (fun g13=> ?_)
   ·replace h:=ad g13 h;refine U ?_;obtain rfl:=al h;exact va J (cS [] 4) ⟨J,J⟩
   replace h:=ae g13 h;refine U ?_;obtain ⟨q14,h⟩:=aB h;refine gE (bU J J q14.1 q14.2) ?_;refine U ?_;exact ⟨m6,_,_,CG _,⟨p7+1,y12.2,h,J,J⟩,sA,cS [1,2,3] 4⟩
  replace h:=ae g9 h;refine U ?_;exact ⟨_,_,⟨p8,h,J,J⟩,sA,cS [0,1,2] 3⟩
 rintro _ _ ⟨p5,h,rfl,rfl⟩;refine U ?_;refine gR (bN 2 J J d4 J) ?_;refine gR (br 1 J aI J hH) ?_;refine U ?_;refine ci (fun m s L=> ∃p16 p17,jc N fy a1 m p16 p17=some r∧s=[(0,.func (.yield l) #[] #[]),(1,pV B1 0),(21,I A3 n3 c3),(22,iV (a1.More.length:Int)),(23,iV p16)]∧L=cn A3 n3 c3 a1.More::cn A2 n2 c2 a1.Slots::aR B1 138 [iV a1.Kind,iV a1.Shape,iV a1.Flags,iV a1.Age,I A2 n2 c2,I A3 n3 c3]::(G p17)) N _ _ ⟨0,p5,h,J,J⟩ sA (cS [1,0,2] 3) ?_;rintro (_|m15) _ _ ⟨p16,p17,h,rfl,rfl⟩
 ·exact bd h
 rw [jc.eq_2] at h;refine U ?_;refine aw ?_;refine aq J (fun g18=> ?_) (fun g18=> ?_)
 ·replace h:=ad g18 h;refine U ?_;refine aw ?_;refine U ?_;obtain ⟨x19,hx19,h⟩:=aa h;obtain ⟨lx19,ux19,hx19⟩:=aG hx19;refine gR (bf 0 J aI J J hH aT lx19 ux19) ?_;refine gR (bi (us:=[iV x19.Kind,iV x19.N,.string x19.S]) 0 J aI J hx19 aH (fun _ _ _ h=>by rw [show _=_ from h];rfl)) ?_;refine gD (aF dF J) ?_;rintro _ _ ⟨B20,rfl,rfl⟩;refine U ?_;refine gO (ao (us:=[iV x19.Kind,iV x19.N,.string x19.S]) (cs':=[iV x19.Kind,iV x19.N,.string x19.S]) 0 J J J J aT J J J) ?_;rintro _ _ rfl;refine bG ?_;refine U ?_;refine gR (bN 3 J J co J) ?_;refine U ?_;obtain ⟨b21,hb21,h⟩:=aa h;refine aA 9 40 b21 ?_ ?_
  ·clear h;refine ax 31 J (fun g21=> ?_) (fun g21=> ?_)
   ·have h:=ad g21 hb21;refine U ?_;refine bv (bN 3 J J co J) J (aZ g21 J) J ?_;refine U ?_;obtain ⟨b22,hb22,h⟩:=aa h;refine aA 4 39 b22 ?_ ?_
    ·clear h;refine ax 35 J (fun g22=> ?_) (fun g22=> ?_)
     ·have h:=ad g22 hb22;refine U ?_;obtain rfl:=al h;exact ab sA (cS [0,1,2,3] 4)
     have h:=ae g22 hb22;refine U ?_;refine fR (kF J J (by decide)) J (bO g22 J) J ?_;refine U ?_;obtain rfl:=al h;exact ab sA (cS [0,1,2,3] 4)
    refine U ?_;obtain rfl:=al h;exact ab sA (cS [0,1,2,3] 4)
   have h:=ae g21 hb21;refine U ?_;obtain rfl:=al h;exact ab sA (cS [0,1,2,3] 4)
  refine U ?_;refine gR (ai (us:=[iV x19.Kind,iV x19.N,.string x19.S]) 0 J J aH J) ?_;obtain ⟨y23,hy23,h⟩:=aa h;refine gD (ph (a:=(b21,x19)) [aj B20 30 [iV x19.Kind,iV x19.N,.string x19.S],cn A3 n3 c3 a1.More,cn A2 n2 c2 a1.Slots,aR B1 138 [iV a1.Kind,iV a1.Shape,iV a1.Flags,iV a1.Age,I A2 n2 c2,I A3 n3 c3]] hY hy23 J J) ?_;rintro _ _ ⟨rfl,rfl⟩;refine U ?_;refine aq J (fun g24=> ?_) (fun g24=> ?_)
  ·replace h:=ad g24 h;refine U ?_;obtain rfl:=al h;exact va J (cS [] 4) ⟨J,J⟩
  replace h:=ae g24 h;refine U ?_;obtain ⟨q25,h⟩:=aB h;refine gE (bU J J q25.1 q25.2) ?_;refine U ?_;exact ⟨m15,_,_,CG _,⟨p16+1,y23.2,h,J,J⟩,sA,cS [1,2,3] 4⟩
 replace h:=ae g18 h;refine U ?_;obtain rfl:=al h;exact fu J (cS [] 3) ⟨J,J⟩
def oo (N:Nat)(a0:Cl):Option Unit:=
 some ()
theorem pP {N:Nat}{a0:Cl}{r:Unit}(h:oo N a0=some r):Okc Tryz.prog 225 [.agg #[iV a0.Kind,iV a0.Shape,iV a0.Flags,iV a0.Age,I A1 n1 c1,I A2 n2 c2]] ([cn A1 n1 c1 a0.Slots,cn A2 n2 c2 a0.More]) (fun u post=> ∃B900,u=.func (.func 238) #[] #[pV B900 0]∧post=[aj B900 138 [iV a0.Kind,iV a0.Shape,iV a0.Flags,iV a0.Age,I A1 n1 c1,I A2 n2 c2]]):=by
 refine bj Tryz.func225 J J ?_;simp only [aS];refine U ?_;refine gD (aN J J) ?_;rintro _ _ ⟨B3,rfl,rfl⟩;refine U ?_;refine gE (mJ J) ?_;refine U ?_;obtain rfl:=al h;exact aJ J J (cS [0] 3) ⟨_,J,J⟩
theorem nT {a0:Cl}{A1:Option Addr}{n1:Nat}{c1:Nat}{A2:Option Addr}{n2:Nat}{c2:Nat}: ∀v post,((fun (u:Value) (post:List Chunk)=> ∃B900,u=.func (.func 238) #[] #[pV B900 0]∧post=[aj B900 138 [iV a0.Kind,iV a0.Shape,iV a0.Flags,iV a0.Age,I A1 n1 c1,I A2 n2 c2]])) v post→ ∀c∈post,bS c:=by
 rintro _ _ ⟨_,rfl,rfl⟩;exact hE mF (ac)
def kr (N:Nat)(a0:Cp)(p10:Bool):Option Bool:=
 bif p10 then (some (decide (1≤a0.N))) else ((bif decide (a0.N=0) then (some (decide (0≤a0.Kind))) else (some false)).bind fun b14=>(bif b14 then (some (decide (a0.Kind≤9))) else (some false)).bind fun b15=>some b15)
def rh (N:Nat)(a0:Cp):Option Bool:=
 bif decide (a0.Kind=5) then ((bif decide (a0.N=0) then (some (decide ((a0.S.size:Int)≤65536))) else (some false)).bind fun b3=>some b3) else (bif !(a0.S.toList==(⟨#[]⟩:ByteArray).toList) then (some false) else (bif decide (a0.Kind=2) then ((bif decide (a0.N=0) then (some true) else (some (decide (a0.N=1)))).bind fun b6=>some b6) else (bif decide (a0.Kind=3) then ((bif decide ((-9007199254740992)≤a0.N) then (some (decide (a0.N≤9007199254740992))) else (some false)).bind fun b8=>some b8) else (bif decide (a0.Kind=6) then (kr N a0 (decide (a0.Kind=6))) else (bif decide (a0.Kind=7) then (kr N a0 (decide (a0.Kind=7))) else (kr N a0 (decide (a0.Kind=9))))))))
theorem tN {N:Nat}{a0:Cp}{r:Bool}(h:rh N a0=some r):Okc Tryz.prog 226 [.agg #[iV a0.Kind,iV a0.N,.string a0.S]] ([]) (fun u post=>u=.bool r∧post=[]):=by
 refine bj Tryz.func226 J J ?_;simp only [aS];refine U ?_;refine gD (aN J J) ?_;rintro _ _ ⟨B1,rfl,rfl⟩;refine U ?_;refine aw ?_;refine U ?_;refine aq J (fun g2=> ?_) (fun g2=> ?_)
 ·replace h:=ad g2 h;refine U ?_;obtain ⟨b3,hb3,h⟩:=aa h;refine aA 5 14 b3 ?_ ?_
  ·clear h;refine ax 9 J (fun g3=> ?_) (fun g3=> ?_)
   ·have h:=ad g3 hb3;refine U ?_;refine fR (lH J hJ) J (aZ g3 J) J ?_;refine U ?_;obtain rfl:=al h;exact ab sA (cS [0] 1)
   have h:=ae g3 hb3;refine U ?_;obtain rfl:=al h;exact ab sA (cS [0] 1)
  refine U ?_;obtain rfl:=al h;exact aJ J J (cS [] 1) ⟨J,J⟩
 replace h:=ae g2 h;refine U ?_;refine aw ?_;refine U ?_;refine gE (tI J J) ?_;refine U ?_;refine aq J (fun g4=> ?_) (fun g4=> ?_)
 ·replace h:=ad g4 h;refine U ?_;obtain rfl:=al h;exact aJ J J (cS [] 1) ⟨J,J⟩
 replace h:=ae g4 h;refine U ?_;refine aw ?_;refine U ?_;refine aq J (fun g5=> ?_) (fun g5=> ?_)
 ·replace h:=ad g5 h;refine U ?_;obtain ⟨b6,hb6,h⟩:=aa h;refine aA 4 29 b6 ?_ ?_
  ·clear h;refine ax 25 J (fun g6=> ?_) (fun g6=> ?_)
   ·have h:=ad g6 hb6;refine U ?_;obtain rfl:=al h;exact ab sA (cS [0] 1)
   have h:=ae g6 hb6;refine U ?_;obtain rfl:=al h;exact ab sA (cS [0] 1)
  refine U ?_;obtain rfl:=al h;exact aJ J J (cS [] 1) ⟨J,J⟩
 replace h:=ae g5 h;refine U ?_;refine aq J (fun g7=> ?_) (fun g7=> ?_)
 ·replace h:=ad g7 h;refine U ?_;obtain ⟨b8,hb8,h⟩:=aa h;refine aA 4 39 b8 ?_ ?_
  ·clear h;refine ax 35 J (fun g8=> ?_) (fun g8=> ?_)
   ·have h:=ad g8 hb8;refine U ?_;obtain rfl:=al h;exact ab sA (cS [0] 1)
   have h:=ae g8 hb8;refine U ?_;obtain rfl:=al h;exact ab sA (cS [0] 1)
  refine U ?_;obtain rfl:=al h;exact aJ J J (cS [] 1) ⟨J,J⟩
 replace h:=ae g7 h;refine aY (fun s L=> ∃p10,kr N a0 p10=some r∧s=[(1,pV B1 0),(2,.bool false),(40,.bool p10)]∧L=[aj B1 30 [iV a0.Kind,iV a0.N,.string a0.S]]) ?_ ?_
 ·refine U ?_;refine aq J (fun g11=> ?_) (fun g11=> ?_)
  ·replace h:=ad g11 h;refine U ?_;exact ⟨_,_,⟨decide (a0.Kind=6),h,J,J⟩,sA,cS [0] 1⟩
  replace h:=ae g11 h;refine U ?_;refine aq J (fun g12=> ?_) (fun g12=> ?_)
  ·replace h:=ad g12 h;refine U ?_;exact ⟨_,_,⟨decide (a0.Kind=7),h,J,J⟩,sA,cS [0] 1⟩
  replace h:=ae g12 h;refine U ?_;exact ⟨_,_,⟨decide (a0.Kind=9),h,J,J⟩,sA,cS [0] 1⟩
 rintro _ _ ⟨p10,h,rfl,rfl⟩;refine aq J (fun g13=> ?_) (fun g13=> ?_)
 ·replace h:=ad g13 h;refine U ?_;obtain rfl:=al h;exact aJ J J (cS [] 1) ⟨J,J⟩
 replace h:=ae g13 h;refine U ?_;obtain ⟨b14,hb14,h⟩:=aa h;refine aA 4 54 b14 ?_ ?_
 ·clear h;refine ax 50 J (fun g14=> ?_) (fun g14=> ?_)
  ·have h:=ad g14 hb14;refine U ?_;obtain rfl:=al h;exact ab sA (cS [0] 1)
  have h:=ae g14 hb14;refine U ?_;obtain rfl:=al h;exact ab sA (cS [0] 1)
 refine U ?_;obtain ⟨b15,hb15,h⟩:=aa h;refine aA 4 59 b15 ?_ ?_
 ·clear h;refine ax 55 J (fun g15=> ?_) (fun g15=> ?_)
  ·have h:=ad g15 hb15;refine U ?_;obtain rfl:=al h;exact ab sA (cS [0] 1)
  have h:=ae g15 hb15;refine U ?_;obtain rfl:=al h;exact ab sA (cS [0] 1)
 refine U ?_;obtain rfl:=al h;exact aJ J J (cS [] 1) ⟨J,J⟩
theorem rJ {r:Bool}: ∀v post,((fun (u:Value) (post:List Chunk)=>u=.bool r∧post=[])) v post→ ∀c∈post,bS c:=by
 rintro _ _ ⟨rfl,rfl⟩;exact ac
def eA (N:Nat)(p2:Bool):Option Bool:=
 bif p2 then (some true) else (some false)
def ri (N:Nat)(a0:Int):Option Bool:=
 bif decide (a0=1) then (eA N (decide (a0=1))) else (bif decide (a0=2) then (eA N (decide (a0=2))) else (bif decide (a0=3) then (eA N (decide (a0=3))) else (bif decide (a0=6) then (eA N (decide (a0=6))) else (bif decide (a0=8) then (eA N (decide (a0=8))) else (bif decide (a0=9) then (eA N (decide (a0=9))) else (eA N (decide (a0=10))))))))
theorem tO {N:Nat}{a0:Int}{r:Bool}(h:ri N a0=some r):Okc Tryz.prog 239 [iV a0] ([]) (fun u post=>u=.bool r∧post=[]):=by
 refine bj Tryz.func239 J J ?_;simp only [aS];refine U ?_;refine aw ?_;refine U ?_;refine aY (fun s L=> ∃p2,eA N p2=some r∧s=[(2,.bool false),(4,.bool p2)]∧L=[]) ?_ ?_
 ·refine U ?_;refine aq J (fun g3=> ?_) (fun g3=> ?_)
  ·replace h:=ad g3 h;refine U ?_;exact ⟨_,_,⟨decide (a0=1),h,J,J⟩,sA,cS [] 0⟩
  replace h:=ae g3 h;refine U ?_;refine aq J (fun g4=> ?_) (fun g4=> ?_)
  ·replace h:=ad g4 h;refine U ?_;exact ⟨_,_,⟨decide (a0=2),h,J,J⟩,sA,cS [] 0⟩
  replace h:=ae g4 h;refine U ?_;refine aq J (fun g5=> ?_) (fun g5=> ?_)
  ·replace h:=ad g5 h;refine U ?_;exact ⟨_,_,⟨decide (a0=3),h,J,J⟩,sA,cS [] 0⟩
  replace h:=ae g5 h;refine U ?_;refine aq J (fun g6=> ?_) (fun g6=> ?_)
  ·replace h:=ad g6 h;refine U ?_;exact ⟨_,_,⟨decide (a0=6),h,J,J⟩,sA,cS [] 0⟩
  replace h:=ae g6 h;refine U ?_;refine aq J (fun g7=> ?_) (fun g7=> ?_)
  ·replace h:=ad g7 h;refine U ?_;exact ⟨_,_,⟨decide (a0=8),h,J,J⟩,sA,cS [] 0⟩
  replace h:=ae g7 h;refine U ?_;refine aq J (fun g8=> ?_) (fun g8=> ?_)
  ·replace h:=ad g8 h;refine U ?_;exact ⟨_,_,⟨decide (a0=9),h,J,J⟩,sA,cS [] 0⟩
  replace h:=ae g8 h;refine U ?_;exact ⟨_,_,⟨decide (a0=10),h,J,J⟩,sA,cS [] 0⟩
 rintro _ _ ⟨p2,h,rfl,rfl⟩;refine aq J (fun g9=> ?_) (fun g9=> ?_)
 ·replace h:=ad g9 h;refine U ?_;obtain rfl:=al h;exact aJ J J (cS [] 0) ⟨J,J⟩
 replace h:=ae g9 h;refine U ?_;obtain rfl:=al h;exact aJ J J (cS [] 0) ⟨J,J⟩
theorem rL {r:Bool}: ∀v post,((fun (u:Value) (post:List Chunk)=>u=.bool r∧post=[])) v post→ ∀c∈post,bS c:=by
 rintro _ _ ⟨rfl,rfl⟩;exact ac
def dZ (N:Nat)(a0:Cp)(a1:Int):Option Bool:=
 (bif decide (a0.Kind=0) then (some true) else (some (decide (a0.Kind=a1)))).bind fun b2=>some b2
theorem ej {N:Nat}{a0:Cp}{a1:Int}{r:Bool}(h:dZ N a0 a1=some r):Okc Tryz.prog 240 [.agg #[iV a0.Kind,iV a0.N,.string a0.S],iV a1] ([]) (fun u post=>u=.bool r∧post=[]):=by
 refine bj Tryz.func240 J J ?_;simp only [aS];refine U ?_;refine gD (aN J J) ?_;rintro _ _ ⟨B1,rfl,rfl⟩;refine U ?_;obtain ⟨b2,hb2,h⟩:=aa h;refine aA 5 13 b2 ?_ ?_
 ·clear h;refine ax 8 J (fun g2=> ?_) (fun g2=> ?_)
  ·have h:=ad g2 hb2;refine U ?_;obtain rfl:=al h;exact ab sA (cS [0] 1)
  have h:=ae g2 hb2;refine U ?_;obtain rfl:=al h;exact ab sA (cS [0] 1)
 refine U ?_;obtain rfl:=al h;exact aJ J J (cS [] 1) ⟨J,J⟩
theorem dH {r:Bool}: ∀v post,((fun (u:Value) (post:List Chunk)=>u=.bool r∧post=[])) v post→ ∀c∈post,bS c:=by
 rintro _ _ ⟨rfl,rfl⟩;exact ac
def kq (N:Nat)(a0:Cl):Option Bool:=
 (ri N a0.Kind).bind fun y4=>(bif y4 then (some true) else ((bif decide (a0.Kind=7) then (some (decide (0<(a0.Slots.length:Int)))) else (some false)).bind fun b6=>some b6)).bind fun b5=>bif b5 then ((bif decide (1≤(a0.Slots.length:Int)) then (some (decide ((a0.Slots.length:Int)≤1025))) else (some false)).bind fun b8=>(bif b8 then ((ck a0.Slots 0).bind fun x10=>(bif decide (x10.Kind=1) then (some true) else ((ck a0.Slots 0).bind fun x12=>some (decide (x12.Kind=7)))).bind fun b11=>some b11) else (some false)).bind fun b9=>some b9) else (bif decide (a0.Kind=7) then (some (decide (a0.Shape=0))) else ((bif !decide (a0.Shape=0) then (some true) else (some (!decide (a0.Flags=0)))).bind fun b14=>bif b14 then (some false) else (bif decide (a0.Kind=5) then ((bif decide ((a0.Slots.length:Int)=2) then ((ck a0.Slots 0).bind fun x18=>(dZ N x18 7).bind fun y19=>some y19) else (some false)).bind fun b17=>(bif b17 then ((ck a0.Slots 1).bind fun x21=>(dZ N x21 7).bind fun y22=>some y22) else (some false)).bind fun b20=>some b20) else (some (decide ((a0.Slots.length:Int)=0))))))
theorem om {N:Nat}{a0:Cl}{r:Bool}(h:kq N a0=some r):Okc Tryz.prog 227 [.agg #[iV a0.Kind,iV a0.Shape,iV a0.Flags,iV a0.Age,I A1 n1 c1,I A2 n2 c2]] ([cn A1 n1 c1 a0.Slots,cn A2 n2 c2 a0.More]) (fun u post=>u=.bool r∧post=[]):=by
 refine bj Tryz.func227 J J ?_;simp only [aS];refine U ?_;refine gD (aN J J) ?_;rintro _ _ ⟨B3,rfl,rfl⟩;refine U ?_;refine aw ?_;refine U ?_;obtain ⟨y4,hy4,h⟩:=aa h;refine gD (ak (tO hy4) yM J (ac) rL) ?_;rintro _ _ ⟨_,⟨rfl,rfl⟩,rfl⟩;refine U ?_;obtain ⟨b5,hb5,h⟩:=aa h;refine aA 10 16 b5 ?_ ?_
 ·clear h;refine ax 6 J (fun g5=> ?_) (fun g5=> ?_)
  ·have h:=ad g5 hb5;refine U ?_;obtain rfl:=al h;exact ab sA (cS [0,1,2] 3)
  have h:=ae g5 hb5;refine U ?_;obtain ⟨b6,hb6,h⟩:=aa h;refine aA 5 15 b6 ?_ ?_
  ·clear h;refine ax 10 J (fun g6=> ?_) (fun g6=> ?_)
   ·have h:=ad g6 hb6;refine U ?_;refine bv (br 1 J aI J hH) J (aZ g6 J) J ?_;refine U ?_;obtain rfl:=al h;exact ab sA (cS [0,1,2] 3)
   have h:=ae g6 hb6;refine U ?_;obtain rfl:=al h;exact ab sA (cS [0,1,2] 3)
  refine U ?_;obtain rfl:=al h;exact ab sA (cS [0,1,2] 3)
 refine U ?_;refine aq J (fun g7=> ?_) (fun g7=> ?_)
 ·replace h:=ad g7 h;refine U ?_;refine gR (br 1 J aI J hH) ?_;refine U ?_;obtain ⟨b8,hb8,h⟩:=aa h;refine aA 5 26 b8 ?_ ?_
  ·clear h;refine ax 21 J (fun g8=> ?_) (fun g8=> ?_)
   ·have h:=ad g8 hb8;refine U ?_;refine bv (br 1 J aI J hH) J (aZ g8 J) J ?_;refine U ?_;obtain rfl:=al h;exact ab sA (cS [0,1,2] 3)
   have h:=ae g8 hb8;refine U ?_;obtain rfl:=al h;exact ab sA (cS [0,1,2] 3)
  refine U ?_;obtain ⟨b9,hb9,h⟩:=aa h;refine aA 15 42 b9 ?_ ?_
  ·clear h;refine ax 27 J (fun g9=> ?_) (fun g9=> ?_)
   ·have h:=ad g9 hb9;refine U ?_;obtain ⟨x10,hx10,h⟩:=aa h;obtain ⟨lx10,ux10,hx10⟩:=aG hx10;refine bv (bf 1 J aI J J hH aT lx10 ux10) J (aZ g9 J) J ?_;refine bv (lA 1 J aI J (ba lx10 ux10) iB) J (aZ g9 J) J ?_;refine bv (dg (u:=iV x10.Kind) 1 J aI J hx10 co (fun _ _ _ h=>by rw [show _=_ from h];rfl)) J (aZ g9 J) J ?_;refine U ?_;obtain ⟨b11,hb11,h⟩:=aa h;refine aA 7 41 b11 ?_ ?_
    ·clear h;refine ax 34 J (fun g11=> ?_) (fun g11=> ?_)
     ·have h:=ad g11 hb11;refine U ?_;obtain rfl:=al h;exact ab sA (cS [0,1,2] 3)
     have h:=ae g11 hb11;refine U ?_;obtain ⟨x12,hx12,h⟩:=aa h;obtain ⟨lx12,ux12,hx12⟩:=aG hx12;refine bv (bf 1 J aI J J hH aT lx12 ux12) J (bO g11 J) J ?_;refine bv (lA 1 J aI J (ba lx12 ux12) iB) J (bO g11 J) J ?_;refine bv (dg (u:=iV x12.Kind) 1 J aI J hx12 co (fun _ _ _ h=>by rw [show _=_ from h];rfl)) J (bO g11 J) J ?_;refine U ?_;obtain rfl:=al h;exact ab sA (cS [0,1,2] 3)
    refine U ?_;obtain rfl:=al h;exact ab sA (cS [0,1,2] 3)
   have h:=ae g9 hb9;refine U ?_;obtain rfl:=al h;exact ab sA (cS [0,1,2] 3)
  refine U ?_;obtain rfl:=al h;exact aJ J J (cS [] 3) ⟨J,J⟩
 replace h:=ae g7 h;refine U ?_;refine aw ?_;refine U ?_;refine aq J (fun g13=> ?_) (fun g13=> ?_)
 ·replace h:=ad g13 h;refine U ?_;obtain rfl:=al h;exact aJ J J (cS [] 3) ⟨J,J⟩
 replace h:=ae g13 h;refine U ?_;refine aw ?_;refine U ?_;obtain ⟨b14,hb14,h⟩:=aa h;refine aA 4 56 b14 ?_ ?_
 ·clear h;refine ax 52 J (fun g14=> ?_) (fun g14=> ?_)
  ·have h:=ad g14 hb14;refine U ?_;obtain rfl:=al h;exact ab sA (cS [0,1,2] 3)
  have h:=ae g14 hb14;refine U ?_;obtain rfl:=al h;exact ab sA (cS [0,1,2] 3)
 refine U ?_;refine aq J (fun g15=> ?_) (fun g15=> ?_)
 ·replace h:=ad g15 h;refine U ?_;obtain rfl:=al h;exact aJ J J (cS [] 3) ⟨J,J⟩
 replace h:=ae g15 h;refine U ?_;refine aw ?_;refine U ?_;refine aq J (fun g16=> ?_) (fun g16=> ?_)
 ·replace h:=ad g16 h;refine U ?_;refine gR (br 1 J aI J hH) ?_;refine U ?_;obtain ⟨b17,hb17,h⟩:=aa h;refine aA 6 70 b17 ?_ ?_
  ·clear h;refine ax 64 J (fun g17=> ?_) (fun g17=> ?_)
   ·have h:=ad g17 hb17;refine U ?_;obtain ⟨x18,hx18,h⟩:=aa h;obtain ⟨lx18,ux18,hx18⟩:=aG hx18;refine bv (bf 1 J aI J J hH aT lx18 ux18) J (aZ g17 J) J ?_;refine bv (bi (us:=[iV x18.Kind,iV x18.N,.string x18.S]) 1 J aI J hx18 aH (fun _ _ _ h=>by rw [show _=_ from h];rfl)) J (aZ g17 J) J ?_;obtain ⟨y19,hy19,h⟩:=aa h;refine bx (ak (ej hy19) nu J (ac) dH) J (aZ g17 J) J ?_;rintro _ _ ⟨_,⟨rfl,rfl⟩,rfl⟩;refine U ?_;obtain rfl:=al h;exact ab sA (cS [0,1,2] 3)
   have h:=ae g17 hb17;refine U ?_;obtain rfl:=al h;exact ab sA (cS [0,1,2] 3)
  refine U ?_;obtain ⟨b20,hb20,h⟩:=aa h;refine aA 6 77 b20 ?_ ?_
  ·clear h;refine ax 71 J (fun g20=> ?_) (fun g20=> ?_)
   ·have h:=ad g20 hb20;refine U ?_;obtain ⟨x21,hx21,h⟩:=aa h;obtain ⟨lx21,ux21,hx21⟩:=aG hx21;refine bv (bf 1 J aI J J hH aT lx21 ux21) J (aZ g20 J) J ?_;refine bv (bi (us:=[iV x21.Kind,iV x21.N,.string x21.S]) 1 J aI J hx21 aH (fun _ _ _ h=>by rw [show _=_ from h];rfl)) J (aZ g20 J) J ?_;obtain ⟨y22,hy22,h⟩:=aa h;refine bx (ak (ej hy22) nu J (ac) dH) J (aZ g20 J) J ?_;rintro _ _ ⟨_,⟨rfl,rfl⟩,rfl⟩;refine U ?_;obtain rfl:=al h;exact ab sA (cS [0,1,2] 3)
   have h:=ae g20 hb20;refine U ?_;obtain rfl:=al h;exact ab sA (cS [0,1,2] 3)
  refine U ?_;obtain rfl:=al h;exact aJ J J (cS [] 3) ⟨J,J⟩
 replace h:=ae g16 h;refine U ?_;refine gR (br 1 J aI J hH) ?_;refine U ?_;obtain rfl:=al h;exact aJ J J (cS [] 3) ⟨J,J⟩
theorem mQ {r:Bool}: ∀v post,((fun (u:Value) (post:List Chunk)=>u=.bool r∧post=[])) v post→ ∀c∈post,bS c:=by
 rintro _ _ ⟨rfl,rfl⟩;exact ac
def d3 (N:Nat)(a0:Cp)(a1:Int)(a2:Int):Option Bool:=
 (bif decide (a0.Kind=3) then (some (decide (a1≤a0.N))) else (some false)).bind fun b2=>(bif b2 then (some (decide (a0.N≤a2))) else (some false)).bind fun b3=>some b3
theorem el {N:Nat}{a0:Cp}{a1:Int}{a2:Int}{r:Bool}(h:d3 N a0 a1 a2=some r):Okc Tryz.prog 241 [.agg #[iV a0.Kind,iV a0.N,.string a0.S],iV a1,iV a2] ([]) (fun u post=>u=.bool r∧post=[]):=by
 refine bj Tryz.func241 J J ?_;simp only [aS];refine U ?_;refine gD (aN J J) ?_;rintro _ _ ⟨B1,rfl,rfl⟩;refine U ?_;obtain ⟨b2,hb2,h⟩:=aa h;refine aA 5 15 b2 ?_ ?_
 ·clear h;refine ax 10 J (fun g2=> ?_) (fun g2=> ?_)
  ·have h:=ad g2 hb2;refine U ?_;obtain rfl:=al h;exact ab sA (cS [0] 1)
  have h:=ae g2 hb2;refine U ?_;obtain rfl:=al h;exact ab sA (cS [0] 1)
 refine U ?_;obtain ⟨b3,hb3,h⟩:=aa h;refine aA 5 21 b3 ?_ ?_
 ·clear h;refine ax 16 J (fun g3=> ?_) (fun g3=> ?_)
  ·have h:=ad g3 hb3;refine U ?_;obtain rfl:=al h;exact ab sA (cS [0] 1)
  have h:=ae g3 hb3;refine U ?_;obtain rfl:=al h;exact ab sA (cS [0] 1)
 refine U ?_;obtain rfl:=al h;exact aJ J J (cS [] 1) ⟨J,J⟩
theorem dI {r:Bool}: ∀v post,((fun (u:Value) (post:List Chunk)=>u=.bool r∧post=[])) v post→ ∀c∈post,bS c:=by
 rintro _ _ ⟨rfl,rfl⟩;exact ac
def iU (N:Nat){σ:Type}(fy:(List Cp)→σ→Option (Bool×σ))(a1:(List Cp))(a2:Int):Nat→Int→σ→Option σ
 |0,_,_=>none
 |m4+1,p5,p6=>bif decide (p5<(a1.length:Int)) then (dD ((0:Int)≤p5∧p5.toNat≤a1.length∧a1.length≤a1.length) (dD (cc (p5+(min a2 (((a1.drop p5.toNat).take (a1.length - p5.toNat)).length:Int)))) (dD (cc (p5+(min a2 (((a1.drop p5.toNat).take (a1.length - p5.toNat)).length:Int)))) (dD ((0:Int)≤p5∧(0:Int)≤p5+(min a2 (((a1.drop p5.toNat).take (a1.length - p5.toNat)).length:Int))∧p5.toNat≤(p5+(min a2 (((a1.drop p5.toNat).take (a1.length - p5.toNat)).length:Int))).toNat∧(p5+(min a2 (((a1.drop p5.toNat).take (a1.length - p5.toNat)).length:Int))).toNat≤a1.length) ((fy ((a1.drop p5.toNat).take ((p5+(min a2 (((a1.drop p5.toNat).take (a1.length - p5.toNat)).length:Int))).toNat - p5.toNat)) p6).bind fun y14=>bif !y14.1 then (some y14.2) else (dD (cc (p5+a2)) ((iU N fy a1 a2 m4) (p5+a2) y14.2))))))) else (some p6)
def mp (N:Nat){σ:Type}(a1:(List Cp))(a2:Int)(fy:(List Cp)→σ→Option (Bool×σ))(s0:σ):Option σ:=
 iU N fy a1 a2 N 0 s0
theorem pU {N:Nat}{σ:Type}{a1:(List Cp)}{a2:Int}{fy:(List Cp)→σ→Option (Bool×σ)}{s0:σ}{r:σ}(h:mp N a1 a2 fy s0=some r){l:Nat}{G:σ→List Chunk}(hY:na Tryz.prog l G (fun (x:(List Cp)) vs cs=> ∃A0 n0 c0,vs=[I A0 n0 c0]∧cs=[cn A0 n0 c0 x]) fy):Okc Tryz.prog 262 [.func (.yield l) #[] #[],pV B1 0,pV B3 0] (aR B1 38 [I A2 n2 c2]::cn A2 n2 c2 a1::aR B3 3 [iV a2]::(G s0)) (fun u post=>u=.tuple #[]∧post=G r):=by
 refine bj Tryz.func262 J J ?_;simp only [aS];refine U ?_;refine ci (fun m s L=> ∃p5 p6,iU N fy a1 a2 m p5 p6=some r∧s=[(0,.func (.yield l) #[] #[]),(1,pV B1 0),(2,pV B3 0),(4,iV p5)]∧L=cn A2 n2 c2 a1::aR B1 38 [I A2 n2 c2]::aR B3 3 [iV a2]::(G p6)) N _ _ ⟨0,s0,h,J,J⟩ sA (cS [1,0,2] 3) ?_;rintro (_|m4) _ _ ⟨p5,p6,h,rfl,rfl⟩
 ·exact bd h
 rw [iU.eq_2] at h;refine aw ?_;refine U ?_;refine gR (bN 1 J J d4 J) ?_;refine gR (br 0 J aI J hH) ?_;refine U ?_;refine aq J (fun g7=> ?_) (fun g7=> ?_)
 ·replace h:=ad g7 h;refine U ?_;refine aw ?_;refine eK ?_;refine aw ?_;refine bn O _ (am _) ?_;refine zR 0 J (bN 2 J J co J) ?_;refine zR 1 J (bN 1 J J d4 J) ?_;refine zE 2 J (av J) ?_;obtain ⟨q8,h⟩:=aB h;refine xC 0 J (l:=p5.toNat) (h:=a1.length) q8.2.1 q8.2.2 ?_;rintro A9 n9 c9 e9;refine zR 3 J (qi 1 J e9 J hH aT J (by rw [Int.toNat_of_nonneg q8.1];rfl) q8.2.1) ?_;refine zR 4 J (br 0 J aI J hH) ?_;refine zE 5 J (Ah J J hN hN) ?_;refine zE 6 J (aQ J) ?_;refine bc O ?_;refine U ?_;refine gR (bN 2 J J d4 J) ?_;refine U ?_;obtain ⟨q10,h⟩:=aB h;refine gE (bU J J q10.1 q10.2) ?_;refine U ?_;obtain ⟨q11,h⟩:=aB h;refine gE (bU J J q11.1 q11.2) ?_;obtain ⟨q12,h⟩:=aB h;refine AI 1 J (l:=p5.toNat) (h:=(p5+(min a2 (((a1.drop p5.toNat).take (a1.length - p5.toNat)).length:Int))).toNat) q12.2.2.1 q12.2.2.2 ?_;rintro A13 n13 c13 e13;refine gR (xY 2 J e13 J hH aT J (by rw [Int.toNat_of_nonneg q12.1];rfl) (by rw [Int.toNat_of_nonneg q12.2.1];rfl) (by rw [Int.toNat_of_nonneg q12.2.1];rfl) q12.2.2.1 q12.2.2.2) ?_;obtain ⟨y14,hy14,h⟩:=aa h
  refine gD (vW (a:=(a1.drop p5.toNat).take ((p5+(min a2 (((a1.drop p5.toNat).take (a1.length - p5.toNat)).length:Int))).toNat - p5.toNat)) [cn A13 n13 c13 ((a1.drop p5.toNat).take ((p5+(min a2 (((a1.drop p5.toNat).take (a1.length - p5.toNat)).length:Int))).toNat - p5.toNat)),cn A9 n9 c9 ((a1.drop p5.toNat).take (a1.length - p5.toNat)),cn A2 n2 c2 a1,aR B1 38 [I A2 n2 c2],aR B3 3 [iV a2]] hY hy14 J J ⟨_,_,_,J,J⟩ (An 0 J J)) ?_;rintro _ _ ⟨rfl,rfl⟩;refine U ?_;refine aq J (fun g15=> ?_) (fun g15=> ?_)
  ·replace h:=ad g15 h;refine U ?_;obtain rfl:=al h;exact va J (cS [] 5) ⟨J,J⟩
  replace h:=ae g15 h;refine U ?_;refine gR (bN 4 J J co J) ?_;obtain ⟨q16,h⟩:=aB h;refine gE (bU J J q16.1 q16.2) ?_;refine U ?_;exact ⟨m4,_,_,CG _,⟨p5+a2,y14.2,h,J,J⟩,sA,cS [2,3,4] 5⟩
 replace h:=ae g7 h;refine U ?_;obtain rfl:=al h;exact fu J (cS [] 3) ⟨J,J⟩
def jI (N:Nat)(a0:(List Cp))(a1:Int):Option Unit:=
 bif decide (a1<1) then none else (some ())
theorem nB {N:Nat}{a0:(List Cp)}{a1:Int}{r:Unit}(h:jI N a0 a1=some r):Okc Tryz.prog 253 [I A1 n1 c1,iV a1] ([cn A1 n1 c1 a0]) (fun u post=> ∃B900 B901,u=.func (.func 262) #[] #[pV B900 0,pV B901 0]∧post=[aj B900 38 [I A1 n1 c1],aj B901 3 [iV a1]]):=by
 refine bj Tryz.func253 J J ?_;simp only [aS];refine U ?_;refine gD (aN J J) ?_;rintro _ _ ⟨B2,rfl,rfl⟩;refine gD (aN J J) ?_;rintro _ _ ⟨B3,rfl,rfl⟩;refine U ?_;refine aw ?_;refine U ?_;refine aq J (fun g4=> ?_) (fun g4=> ?_)
 ·replace h:=ad g4 h;exact bd h
 replace h:=ae g4 h;refine U ?_;refine gE (mJ J) ?_;refine U ?_;obtain rfl:=al h;exact aJ J J (cS [1,0] 3) ⟨_,_,J,J⟩
theorem mi {a1:Int}{A1:Option Addr}{n1:Nat}{c1:Nat}: ∀v post,((fun (u:Value) (post:List Chunk)=> ∃B900 B901,u=.func (.func 262) #[] #[pV B900 0,pV B901 0]∧post=[aj B900 38 [I A1 n1 c1],aj B901 3 [iV a1]])) v post→ ∀c∈post,bS c:=by
 rintro _ _ ⟨_,_,rfl,rfl⟩;exact hE mF (hE mF (ac))
def fv (N:Nat)(a1:Int)(x9:(List Cp)):(Unit)→Option (Option Exit×Unit)
 |()=>(ck x9 0).bind fun x12=>(bif !decide (x12.Kind=7) then (some true) else ((ck x9 1).bind fun x14=>some (decide (x14.Kind=8)))).bind fun b13=>bif b13 then (some (some .ret,())) else ((bif decide (a1=4) then ((ck x9 2).bind fun x17=>(dZ N x17 7).bind fun y18=>(bif !y18 then (some true) else ((ck x9 3).bind fun x20=>(d3 N x20 0 9007199254740992).bind fun y21=>some (!y21))).bind fun b19=>some b19) else (some false)).bind fun b16=>bif b16 then (some (some .ret,())) else (some (none,())))
def fO (N:Nat)(a0:(List Cp))(a1:Int):Option Bool:=
 dD (a1≠0) (bif !decide ((a0.length:Int).tmod a1=0) then (some false) else ((jI N a0 a1).bind fun y6=>(mp N a0 a1 (ma (fun x st=>fv N a1 x st)) (none,())).bind fun y11=>sb y11.1 (some true) (some false) (fun _=>none)))
theorem iP {N:Nat}{a0:(List Cp)}{a1:Int}{r:Bool}(h:fO N a0 a1=some r):Okc Tryz.prog 242 [I A1 n1 c1,iV a1] ([cn A1 n1 c1 a0]) (fun u post=>u=.bool r∧post=[]):=by
 refine bj Tryz.func242 J J ?_;simp only [aS];refine U ?_;refine gD (aN J J) ?_;rintro _ _ ⟨B2,rfl,rfl⟩;refine gD (aF zB J) ?_;rintro _ _ ⟨B3,rfl,rfl⟩;refine U ?_;refine aw ?_;refine U ?_;refine gR (br 2 J aI J hH) ?_;refine U ?_;obtain ⟨q4,h⟩:=aB h;refine gE (kF J J q4) ?_;refine U ?_;refine aq J (fun g5=> ?_) (fun g5=> ?_)
 ·replace h:=ad g5 h;refine U ?_;refine gO (ao (us:=[.bool false]) (cs':=[.bool false]) 0 J J J J qA J J J) ?_;rintro _ _ rfl;refine U ?_;obtain rfl:=al h;exact bR (rs:=[.cell 4 4]) (vs:=[.bool false]) J (.cons (nk 0 J J ua) .nil) J (cS [] 3) ⟨J,J⟩
 replace h:=ae g5 h;refine U ?_;refine aw ?_;refine U ?_;obtain ⟨y6,hy6,h⟩:=aa h;refine gD (ak (nB hy6) yI J (hE (ag (i:=2) J J) ac) mi) ?_;rintro _ _ ⟨_,⟨B7,B8,rfl,rfl⟩,rfl⟩;refine nf ?_;refine dz ?_;refine gz ?_ bX (lj 0 J);refine gz ?_ bX (lj 1 J);refine wA ?_;obtain ⟨y11,hy11,h⟩:=aa h;refine wv (R:=(fun (x:(List Cp)) vs cs=> ∃A0 n0 c0,vs=[I A0 n0 c0]∧cs=[cn A0 n0 c0 x])) (fun x st=>fv N a1 x st) (fun (st:Unit) (mz:Unit)=> [aj B2 3 [iV a1],aj B3 4 [.bool false]]) [aR B7 38 [I A1 n1 c1],cn A1 n1 c1 a0,aR B8 3 [iV a1]] (()) (()) J J yG J (by rintro _ _ _ ⟨_,_,_,rfl,rfl⟩;rfl) (fun l G hY=>(pU hy11 hY).mono fun _ _ hh=>hh.2) (aC [0,4,1] [] [3,2] 5 J) h ?_ ?_ ?_ ?_
 ·rintro l x9 _ je sr9 _ h _ _ ⟨A10,n10,c10,rfl,rfl⟩;replace h:fv N a1 x9 ()=some (je,sr9):=h;simp only [rG,List.zip_cons_cons,List.zip_nil_left,List.zip_nil_right,List.reverse_cons,List.reverse_nil,List.nil_append,List.cons_append];refine U ?_;refine aw ?_;refine U ?_;obtain ⟨x12,hx12,h⟩:=aa h;obtain ⟨lx12,ux12,hx12⟩:=aG hx12;refine gR (bf 0 J aI J J hH aT lx12 ux12) ?_;refine gR (lA 0 J aI J (ba lx12 ux12) iB) ?_;refine gR (dg (u:=iV x12.Kind) 0 J aI J hx12 co (fun _ _ _ h=>by rw [show _=_ from h];rfl)) ?_;refine U ?_;obtain ⟨b13,hb13,h⟩:=aa h;refine aA 6 26 b13 ?_ ?_
  ·clear h;refine ax 20 J (fun g13=> ?_) (fun g13=> ?_)
   ·have h:=ad g13 hb13;refine U ?_;obtain rfl:=al h;exact ab sA (cS [0,1,2] 3)
   have h:=ae g13 hb13;refine U ?_;obtain ⟨x14,hx14,h⟩:=aa h;obtain ⟨lx14,ux14,hx14⟩:=aG hx14;refine bv (bf 0 J aI J J hH aT lx14 ux14) J (bO g13 J) J ?_;refine bv (lA 0 J aI J (ba lx14 ux14) iB) J (bO g13 J) J ?_;refine bv (dg (u:=iV x14.Kind) 0 J aI J hx14 co (fun _ _ _ h=>by rw [show _=_ from h];rfl)) J (bO g13 J) J ?_;refine U ?_;obtain rfl:=al h;exact ab sA (cS [0,1,2] 3)
  refine U ?_;refine aq J (fun g15=> ?_) (fun g15=> ?_)
  ·replace h:=ad g15 h;refine U ?_;refine gO (ao (us:=[.bool false]) (cs':=[.bool false]) 2 J J J J qA J J J) ?_;rintro _ _ rfl;refine U ?_;obtain ⟨rfl,rfl⟩:=Prod.mk.inj (Option.some.inj h);exact uz ((cS [1,2] 3).trans (fY () J))
  replace h:=ae g15 h;refine U ?_;obtain ⟨b16,hb16,h⟩:=aa h;refine aA 13 42 b16 ?_ ?_
  ·clear h;refine ax 29 J (fun g16=> ?_) (fun g16=> ?_)
   ·have h:=ad g16 hb16;refine U ?_;obtain ⟨x17,hx17,h⟩:=aa h;obtain ⟨lx17,ux17,hx17⟩:=aG hx17;refine bv (bf 0 J aI J J hH aT lx17 ux17) J (aZ g16 J) J ?_;refine bv (bi (us:=[iV x17.Kind,iV x17.N,.string x17.S]) 0 J aI J hx17 aH (fun _ _ _ h=>by rw [show _=_ from h];rfl)) J (aZ g16 J) J ?_;obtain ⟨y18,hy18,h⟩:=aa h;refine bx (ak (ej hy18) nu J (ac) dH) J (aZ g16 J) J ?_;rintro _ _ ⟨_,⟨rfl,rfl⟩,rfl⟩;refine U ?_;obtain ⟨b19,hb19,h⟩:=aa h;refine aA 6 41 b19 ?_ ?_
    ·clear h;refine ax 35 J (fun g19=> ?_) (fun g19=> ?_)
     ·have h:=ad g19 hb19;refine U ?_;obtain rfl:=al h;exact ab sA (cS [0,1,2] 3)
     have h:=ae g19 hb19;refine U ?_;obtain ⟨x20,hx20,h⟩:=aa h;obtain ⟨lx20,ux20,hx20⟩:=aG hx20;refine bv (bf 0 J aI J J hH aT lx20 ux20) J (bO g19 J) J ?_;refine bv (bi (us:=[iV x20.Kind,iV x20.N,.string x20.S]) 0 J aI J hx20 aH (fun _ _ _ h=>by rw [show _=_ from h];rfl)) J (bO g19 J) J ?_;obtain ⟨y21,hy21,h⟩:=aa h;refine bx (ak (el hy21) nt J (ac) dI) J (bO g19 J) J ?_;rintro _ _ ⟨_,⟨rfl,rfl⟩,rfl⟩;refine U ?_;obtain rfl:=al h;exact ab sA (cS [0,1,2] 3)
    refine U ?_;obtain rfl:=al h;exact ab sA (cS [0,1,2] 3)
   have h:=ae g16 hb16;refine U ?_;obtain rfl:=al h;exact ab sA (cS [0,1,2] 3)
  refine U ?_;refine aq J (fun g22=> ?_) (fun g22=> ?_)
  ·replace h:=ad g22 h;refine U ?_;refine gO (ao (us:=[.bool false]) (cs':=[.bool false]) 2 J J J J qA J J J) ?_;rintro _ _ rfl;refine U ?_;obtain ⟨rfl,rfl⟩:=Prod.mk.inj (Option.some.inj h);exact uz ((cS [1,2] 3).trans (fY () J))
  replace h:=ae g22 h;refine U ?_;obtain ⟨rfl,rfl⟩:=Prod.mk.inj (Option.some.inj h);exact xE ((cS [1,2] 3).trans (fY () J))
 ·rintro _ h;refine nz ([aj B2 3 [iV a1],aj B3 4 [.bool false]]) J ?_;refine U ?_;refine gO (ao (us:=[.bool true]) (cs':=[.bool true]) 1 J J J J qA J J J) ?_;rintro _ _ rfl;refine bG ?_;refine U ?_;obtain rfl:=al h;exact bR (rs:=[.cell 4 4]) (vs:=[.bool true]) J (.cons (nk 1 J J ua) .nil) J (cS [] 2) ⟨J,J⟩
 ·rintro _ h;refine nz ([aj B2 3 [iV a1],aj B3 4 [.bool false]]) J ?_;refine U ?_;obtain rfl:=al h;exact bR (rs:=[.cell 4 4]) (vs:=[.bool false]) J (.cons (nk 1 J J ua) .nil) J (cS [] 2) ⟨J,J⟩
 rintro i _ h;exact bd h
theorem gT {r:Bool}: ∀v post,((fun (u:Value) (post:List Chunk)=>u=.bool r∧post=[])) v post→ ∀c∈post,bS c:=by
 rintro _ _ ⟨rfl,rfl⟩;exact ac
end Go.Proofs.YtanojiedimeegaaGreatDoor