/- Merged texts: part 3. No conditions of their own. -/
import Derived.Test.YtanojiedimeegaaGreatDoorG2
import Derived.Test.YtanojiedimeegaaGreatDoorChecked
import Derived.ProofKit
namespace Go.Proofs.YtanojiedimeegaaGreatDoor
theorem hP:type_of% Tryz.underlying3:=Tryz.underlying3
theorem hO:type_of% Tryz.underlying9:=Tryz.underlying9
theorem hN:type_of% Tryz.underlying38:=Tryz.underlying38
theorem hJ:type_of% Tryz.func129:=Tryz.func129
theorem hH:type_of% Tryz.func125:=Tryz.func125
variable {A1 A2 A3 A4 A5:Option Addr} {B1 B3 B6 M7 c1 c2 c3 c4 c5 n1 n2 n3 n4 n5:Nat}
open Go.RowKit Asn
set_option maxRecDepth 20000
structure Ec where
 Way:Int
 Steps:Int
 Calls:Int
 Made:Int
 Young:Int
 Full:Int
 Sites:Int
 deriving DecidableEq,Inhabited
def CG:Rep Ec:=.flat 7 (fun x=> [iV x.Way,iV x.Steps,iV x.Calls,iV x.Made,iV x.Young,iV x.Full,iV x.Sites]) (fun _=>rfl) (fun _=>rfl)
structure Eb where
 at_:(List (Int×Bool))
 deriving DecidableEq,Inhabited
structure Ea where
 Kind:Int
 N:Int
 S:ByteArray
 deriving DecidableEq,Inhabited
def bG:Rep Ea:=.flat 3 (fun x=> [iV x.Kind,iV x.N,.string x.S]) (fun _=>rfl) (fun _=>rfl)
structure DZ where
 Kind:Int
 Shape:Int
 Flags:Int
 Age:Int
 Slots:(List Ea)
 More:(List Ea)
 deriving DecidableEq,Inhabited
def oI:Rep DZ where
 sz:=6
 rel S w vs x:= ∃A4 n4 c4 A5 n5 c5,vs=[iV x.Kind,iV x.Shape,iV x.Flags,iV x.Age,I A4 n4 c4,I A5 n5 c5]∧SlR bG S w (I A4 n4 c4) x.Slots∧SlR bG S w (I A5 n5 c5) x.More
 loc:=fun h ⟨_,_,_,_,_,_,e,h4,h5⟩=>⟨_,_,_,_,_,_,e,h4.loc h,h5.loc h⟩
 mono:=fun h ⟨_,_,_,_,_,_,e,h4,h5⟩=>⟨_,_,_,_,_,_,e,h4.mono h,h5.mono h⟩
 len:=fun ⟨_,_,_,_,_,_,e,_⟩=>by rw [e];rfl
 one:=fun ⟨_,_,_,_,_,_,e,_⟩=>by rw [e];rfl
theorem sY (x:DZ):zJ oI x fun vs cs=> ∃A4 n4 c4 A5 n5 c5,vs=[iV x.Kind,iV x.Shape,iV x.Flags,iV x.Age,I A4 n4 c4,I A5 n5 c5]∧cs=[lW bG (I A4 n4 c4) x.Slots,lW bG (I A5 n5 c5) x.More]:=fun S w vs ⟨_,_,_,_,_,_,e,h4,h5⟩=>⟨_,⟨_,_,_,_,_,_,e,rfl⟩,hE h4 (hE h5 (ac))⟩
structure DY where
 Young:(List DZ)
 Old:(List DZ)
 deriving DecidableEq,Inhabited
def CF:Rep DY where
 sz:=2
 rel S w vs x:= ∃A0 n0 c0 A1 n1 c1,vs=[I A0 n0 c0,I A1 n1 c1]∧SlR oI S w (I A0 n0 c0) x.Young∧SlR oI S w (I A1 n1 c1) x.Old
 loc:=fun h ⟨_,_,_,_,_,_,e,h0,h1⟩=>⟨_,_,_,_,_,_,e,h0.loc h,h1.loc h⟩
 mono:=fun h ⟨_,_,_,_,_,_,e,h0,h1⟩=>⟨_,_,_,_,_,_,e,h0.mono h,h1.mono h⟩
 len:=fun ⟨_,_,_,_,_,_,e,_⟩=>by rw [e];rfl
 one:=fun ⟨_,_,_,_,_,_,e,_⟩=>by rw [e];rfl
structure D1 where
 m_:DY
 roots_:(List Ea)
 pending_:(List Ea)
 set_:Eb
 deriving DecidableEq,Inhabited
structure DX where
 Kind:Int
 N:Int
 S:ByteArray
 deriving DecidableEq,Inhabited
def gh:Rep DX:=.flat 3 (fun x=> [iV x.Kind,iV x.N,.string x.S]) (fun _=>rfl) (fun _=>rfl)
structure Ed where
 Up:Int
 Key:DX
 Attrs:Int
 Len:Int
 deriving DecidableEq,Inhabited
def pp:Rep Ed:=.flat 6 (fun x=> [iV x.Up,iV x.Key.Kind,iV x.Key.N,.string x.Key.S,iV x.Attrs,iV x.Len]) (fun _=>rfl) (fun _=>rfl)
structure D3 where
 up_:Int
 key_:DX
 attrs_:Int
 deriving DecidableEq,Inhabited
def C1:Rep D3:=.flat 5 (fun x=> [iV x.up_,iV x.key_.Kind,iV x.key_.N,.string x.key_.S,iV x.attrs_]) (fun _=>rfl) (fun _=>rfl)
structure D9 where
 shapes_:(List Ed)
 next_:(List (D3×Int))
 deriving DecidableEq,Inhabited
structure D8 where
 steps_:Int
 made_:Int
 calls_:Int
 deriving DecidableEq,Inhabited
def CW:Rep D8:=.flat 3 (fun x=> [iV x.steps_,iV x.made_,iV x.calls_]) (fun _=>rfl) (fun _=>rfl)
structure D2 where
 Kind:Int
 Key:DX
 S:ByteArray
 deriving DecidableEq,Inhabited
def wU:Rep D2:=.flat 5 (fun x=> [iV x.Kind,iV x.Key.Kind,iV x.Key.N,.string x.Key.S,.string x.S]) (fun _=>rfl) (fun _=>rfl)
structure D4 where
 spent_:D8
 config_:Ec
 host_:Unit
 heap_:D1
 shapes_:D9
 symbols_:(List ByteArray)
 epoch_:Int
 serial_:Int
 sleepers_:Int
 events_:(List D2)
 out_:(List ByteArray)
 deriving DecidableEq,Inhabited
structure D5 where
 Cell:DZ
 w_:D4
 at_:Ea
 deriving DecidableEq,Inhabited
structure D0 where
 Key:DX
 Attrs:Int
 Value:Ea
 Get:Ea
 Set:Ea
 deriving DecidableEq,Inhabited
def gH:Rep D0:=.flat 13 (fun x=> [iV x.Key.Kind,iV x.Key.N,.string x.Key.S,iV x.Attrs,iV x.Value.Kind,iV x.Value.N,.string x.Value.S,iV x.Get.Kind,iV x.Get.N,.string x.Get.S,iV x.Set.Kind,iV x.Set.N,.string x.Set.S]) (fun _=>rfl) (fun _=>rfl)
structure D6 where
 Has:Int
 Attrs:Int
 Value:Ea
 Get:Ea
 Set:Ea
 deriving DecidableEq,Inhabited
def C2:Rep D6:=.flat 11 (fun x=> [iV x.Has,iV x.Attrs,iV x.Value.Kind,iV x.Value.N,.string x.Value.S,iV x.Get.Kind,iV x.Get.N,.string x.Get.S,iV x.Set.Kind,iV x.Set.N,.string x.Set.S]) (fun _=>rfl) (fun _=>rfl)
structure D7 where
 Kind:Int
 N:Int
 K:DX
 D:D6
 V:Ea
 deriving DecidableEq,Inhabited
def Dj:Rep D7:=.flat 19 (fun x=> [iV x.Kind,iV x.N,iV x.K.Kind,iV x.K.N,.string x.K.S,iV x.D.Has,iV x.D.Attrs,iV x.D.Value.Kind,iV x.D.Value.N,.string x.D.Value.S,iV x.D.Get.Kind,iV x.D.Get.N,.string x.D.Get.S,iV x.D.Set.Kind,iV x.D.Set.N,.string x.D.Set.S,iV x.V.Kind,iV x.V.N,.string x.V.S]) (fun _=>rfl) (fun _=>rfl)
abbrev aQ (A:Option Addr)(n c:Nat):=cF bG 30 (.slice A n c)
abbrev aZ (A:Option Addr)(n c:Nat):=lW Aa (.slice A n c)
abbrev bd (A:Option Addr)(n c:Nat):=cF oI 138 (.slice A n c)
abbrev cb (A:Option Addr)(n c:Nat):=lW wU (.slice A n c)
abbrev cf (A:Option Addr)(n c:Nat):=cF pp 201 (.slice A n c)
abbrev cx (A:Option Addr)(n c:Nat):=lW bG (.slice A n c)
abbrev iF (A:Option Addr)(n c:Nat):=cF gh 24 (.slice A n c)
abbrev nZ (A:Option Addr)(n c:Nat):=lW oI (.slice A n c)
abbrev ri (A:Option Addr)(n c:Nat):=lW pp (.slice A n c)
theorem wH:au Tryz.prog 18:=⟨Tryz.f18,Tryz.func18,rfl,rfl⟩
theorem vb:au Tryz.prog 19:=⟨Tryz.f19,Tryz.func19,rfl,rfl⟩
theorem zw:au Tryz.prog 21:=⟨Tryz.f21,Tryz.func21,rfl,rfl⟩
theorem Cp:au Tryz.prog 24:=⟨Tryz.f24,Tryz.func24,rfl,rfl⟩
theorem tM:au Tryz.prog 25:=⟨Tryz.f25,Tryz.func25,rfl,rfl⟩
theorem Co:au Tryz.prog 26:=⟨Tryz.f26,Tryz.func26,rfl,rfl⟩
theorem rH:au Tryz.prog 27:=⟨Tryz.f27,Tryz.func27,rfl,rfl⟩
theorem zv:au Tryz.prog 28:=⟨Tryz.f28,Tryz.func28,rfl,rfl⟩
theorem zu:au Tryz.prog 30:=⟨Tryz.f30,Tryz.func30,rfl,rfl⟩
theorem Cn:au Tryz.prog 32:=⟨Tryz.f32,Tryz.func32,rfl,rfl⟩
theorem Cm:au Tryz.prog 33:=⟨Tryz.f33,Tryz.func33,rfl,rfl⟩
theorem zt:au Tryz.prog 38:=⟨Tryz.f38,Tryz.func38,rfl,rfl⟩
theorem wG:au Tryz.prog 39:=⟨Tryz.f39,Tryz.func39,rfl,rfl⟩
theorem rG:au Tryz.prog 40:=⟨Tryz.f40,Tryz.func40,rfl,rfl⟩
theorem zs:au Tryz.prog 41:=⟨Tryz.f41,Tryz.func41,rfl,rfl⟩
theorem uV:au Tryz.prog 42:=⟨Tryz.f42,Tryz.func42,rfl,rfl⟩
theorem tL:au Tryz.prog 43:=⟨Tryz.f43,Tryz.func43,rfl,rfl⟩
theorem Cl:au Tryz.prog 44:=⟨Tryz.f44,Tryz.func44,rfl,rfl⟩
theorem wF:au Tryz.prog 45:=⟨Tryz.f45,Tryz.func45,rfl,rfl⟩
theorem Ck:au Tryz.prog 46:=⟨Tryz.f46,Tryz.func46,rfl,rfl⟩
theorem wE:au Tryz.prog 47:=⟨Tryz.f47,Tryz.func47,rfl,rfl⟩
theorem Cj:au Tryz.prog 48:=⟨Tryz.f48,Tryz.func48,rfl,rfl⟩
theorem o5:au Tryz.prog 54:=⟨Tryz.f54,Tryz.func54,rfl,rfl⟩
theorem uU:au Tryz.prog 55:=⟨Tryz.f55,Tryz.func55,rfl,rfl⟩
theorem rF:au Tryz.prog 56:=⟨Tryz.f56,Tryz.func56,rfl,rfl⟩
theorem Ci:au Tryz.prog 66:=⟨Tryz.f66,Tryz.func66,rfl,rfl⟩
theorem zr:au Tryz.prog 77:=⟨Tryz.f77,Tryz.func77,rfl,rfl⟩
theorem Ch:au Tryz.prog 79:=⟨Tryz.f79,Tryz.func79,rfl,rfl⟩
theorem zq:au Tryz.prog 80:=⟨Tryz.f80,Tryz.func80,rfl,rfl⟩
theorem zp:au Tryz.prog 81:=⟨Tryz.f81,Tryz.func81,rfl,rfl⟩
theorem uT:au Tryz.prog 82:=⟨Tryz.f82,Tryz.func82,rfl,rfl⟩
theorem Cg:au Tryz.prog 83:=⟨Tryz.f83,Tryz.func83,rfl,rfl⟩
theorem ed:au Tryz.prog 84:=⟨Tryz.f84,Tryz.func84,rfl,rfl⟩
theorem Cf:au Tryz.prog 85:=⟨Tryz.f85,Tryz.func85,rfl,rfl⟩
theorem Ce:au Tryz.prog 86:=⟨Tryz.f86,Tryz.func86,rfl,rfl⟩
theorem Cd:au Tryz.prog 87:=⟨Tryz.f87,Tryz.func87,rfl,rfl⟩
theorem rE:au Tryz.prog 88:=⟨Tryz.f88,Tryz.func88,rfl,rfl⟩
theorem zo:au Tryz.prog 89:=⟨Tryz.f89,Tryz.func89,rfl,rfl⟩
theorem tK:au Tryz.prog 90:=⟨Tryz.f90,Tryz.func90,rfl,rfl⟩
theorem uS:au Tryz.prog 95:=⟨Tryz.f95,Tryz.func95,rfl,rfl⟩
theorem jA:au Tryz.prog 96:=⟨Tryz.f96,Tryz.func96,rfl,rfl⟩
theorem qn:au Tryz.prog 97:=⟨Tryz.f97,Tryz.func97,rfl,rfl⟩
theorem wD:au Tryz.prog 98:=⟨Tryz.f98,Tryz.func98,rfl,rfl⟩
theorem qm:au Tryz.prog 99:=⟨Tryz.f99,Tryz.func99,rfl,rfl⟩
theorem xM:au Tryz.prog 100:=⟨Tryz.f100,Tryz.func100,rfl,rfl⟩
theorem Bo:au Tryz.prog 101:=⟨Tryz.f101,Tryz.func101,rfl,rfl⟩
theorem Bn:au Tryz.prog 102:=⟨Tryz.f102,Tryz.func102,rfl,rfl⟩
theorem Bm:au Tryz.prog 103:=⟨Tryz.f103,Tryz.func103,rfl,rfl⟩
theorem xL:au Tryz.prog 104:=⟨Tryz.f104,Tryz.func104,rfl,rfl⟩
theorem pC:au Tryz.prog 105:=⟨Tryz.f105,Tryz.func105,rfl,rfl⟩
theorem vq:au Tryz.prog 106:=⟨Tryz.f106,Tryz.func106,rfl,rfl⟩
theorem mo:au Tryz.prog 107:=⟨Tryz.f107,Tryz.func107,rfl,rfl⟩
theorem Bl:au Tryz.prog 110:=⟨Tryz.f110,Tryz.func110,rfl,rfl⟩
theorem sL:au Tryz.prog 117:=⟨Tryz.f117,Tryz.func117,rfl,rfl⟩
theorem pB:au Tryz.prog 118:=⟨Tryz.f118,Tryz.func118,rfl,rfl⟩
theorem Bk:au Tryz.prog 119:=⟨Tryz.f119,Tryz.func119,rfl,rfl⟩
theorem Bj:au Tryz.prog 120:=⟨Tryz.f120,Tryz.func120,rfl,rfl⟩
theorem sK:au Tryz.prog 121:=⟨Tryz.f121,Tryz.func121,rfl,rfl⟩
theorem qX:au Tryz.prog 122:=⟨Tryz.f122,Tryz.func122,rfl,rfl⟩
theorem xK:au Tryz.prog 123:=⟨Tryz.f123,Tryz.func123,rfl,rfl⟩
theorem xJ:au Tryz.prog 124:=⟨Tryz.f124,Tryz.func124,rfl,rfl⟩
theorem vo:au Tryz.prog 125:=⟨Tryz.f125,hH,rfl,rfl⟩
theorem Bi:au Tryz.prog 126:=⟨Tryz.f126,Tryz.func126,rfl,rfl⟩
theorem xI:au Tryz.prog 127:=⟨Tryz.f127,Tryz.func127,rfl,rfl⟩
theorem xH:au Tryz.prog 128:=⟨Tryz.f128,Tryz.func128,rfl,rfl⟩
theorem vm:au Tryz.prog 129:=⟨Tryz.f129,hJ,rfl,rfl⟩
theorem Bh:au Tryz.prog 130:=⟨Tryz.f130,Tryz.func130,rfl,rfl⟩
theorem xG:au Tryz.prog 131:=⟨Tryz.f131,Tryz.func131,rfl,rfl⟩
theorem Bg:au Tryz.prog 135:=⟨Tryz.f135,Tryz.func135,rfl,rfl⟩
theorem Bf:au Tryz.prog 145:=⟨Tryz.f145,Tryz.func145,rfl,rfl⟩
theorem sJ:au Tryz.prog 146:=⟨Tryz.f146,Tryz.func146,rfl,rfl⟩
theorem nM:au Tryz.prog 147:=⟨Tryz.f147,Tryz.func147,rfl,rfl⟩
theorem Be:au Tryz.prog 148:=⟨Tryz.f148,Tryz.func148,rfl,rfl⟩
theorem pA:au Tryz.prog 149:=⟨Tryz.f149,Tryz.func149,rfl,rfl⟩
theorem vl:au Tryz.prog 150:=⟨Tryz.f150,Tryz.func150,rfl,rfl⟩
theorem Bd:au Tryz.prog 151:=⟨Tryz.f151,Tryz.func151,rfl,rfl⟩
theorem dB:au Tryz.prog 152:=⟨Tryz.f152,Tryz.func152,rfl,rfl⟩
theorem xF:au Tryz.prog 153:=⟨Tryz.f153,Tryz.func153,rfl,rfl⟩
theorem xE:au Tryz.prog 154:=⟨Tryz.f154,Tryz.func154,rfl,rfl⟩
theorem xD:au Tryz.prog 155:=⟨Tryz.f155,Tryz.func155,rfl,rfl⟩
theorem xC:au Tryz.prog 156:=⟨Tryz.f156,Tryz.func156,rfl,rfl⟩
theorem xB:au Tryz.prog 157:=⟨Tryz.f157,Tryz.func157,rfl,rfl⟩
theorem Bc:au Tryz.prog 158:=⟨Tryz.f158,Tryz.func158,rfl,rfl⟩
theorem xA:au Tryz.prog 159:=⟨Tryz.f159,Tryz.func159,rfl,rfl⟩
theorem Bb:au Tryz.prog 160:=⟨Tryz.f160,Tryz.func160,rfl,rfl⟩
theorem nL:au Tryz.prog 161:=⟨Tryz.f161,Tryz.func161,rfl,rfl⟩
theorem vj:au Tryz.prog 162:=⟨Tryz.f162,Tryz.func162,rfl,rfl⟩
theorem xz:au Tryz.prog 163:=⟨Tryz.f163,Tryz.func163,rfl,rfl⟩
theorem sI:au Tryz.prog 164:=⟨Tryz.f164,Tryz.func164,rfl,rfl⟩
theorem vh:au Tryz.prog 165:=⟨Tryz.f165,Tryz.func165,rfl,rfl⟩
theorem ve:au Tryz.prog 166:=⟨Tryz.f166,Tryz.func166,rfl,rfl⟩
theorem xy:au Tryz.prog 167:=⟨Tryz.f167,Tryz.func167,rfl,rfl⟩
theorem sH:au Tryz.prog 168:=⟨Tryz.f168,Tryz.func168,rfl,rfl⟩
theorem Ba:au Tryz.prog 169:=⟨Tryz.f169,Tryz.func169,rfl,rfl⟩
theorem AZ:au Tryz.prog 170:=⟨Tryz.f170,Tryz.func170,rfl,rfl⟩
theorem AY:au Tryz.prog 171:=⟨Tryz.f171,Tryz.func171,rfl,rfl⟩
theorem xx:au Tryz.prog 172:=⟨Tryz.f172,Tryz.func172,rfl,rfl⟩
theorem vd:au Tryz.prog 173:=⟨Tryz.f173,Tryz.func173,rfl,rfl⟩
theorem AX:au Tryz.prog 174:=⟨Tryz.f174,Tryz.func174,rfl,rfl⟩
theorem vc:au Tryz.prog 175:=⟨Tryz.f175,Tryz.func175,rfl,rfl⟩
theorem AW:au Tryz.prog 176:=⟨Tryz.f176,Tryz.func176,rfl,rfl⟩
theorem pz:au Tryz.prog 177:=⟨Tryz.f177,Tryz.func177,rfl,rfl⟩
theorem xw:au Tryz.prog 203:=⟨Tryz.f203,Tryz.func203,rfl,rfl⟩
theorem va:au Tryz.prog 204:=⟨Tryz.f204,Tryz.func204,rfl,rfl⟩
theorem nK:au Tryz.prog 205:=⟨Tryz.f205,Tryz.func205,rfl,rfl⟩
theorem AV:au Tryz.prog 206:=⟨Tryz.f206,Tryz.func206,rfl,rfl⟩
theorem AU:au Tryz.prog 207:=⟨Tryz.f207,Tryz.func207,rfl,rfl⟩
theorem xv:au Tryz.prog 208:=⟨Tryz.f208,Tryz.func208,rfl,rfl⟩
theorem uZ:au Tryz.prog 209:=⟨Tryz.f209,Tryz.func209,rfl,rfl⟩
theorem py:au Tryz.prog 210:=⟨Tryz.f210,Tryz.func210,rfl,rfl⟩
theorem sG:au Tryz.prog 211:=⟨Tryz.f211,Tryz.func211,rfl,rfl⟩
theorem uY:au Tryz.prog 212:=⟨Tryz.f212,Tryz.func212,rfl,rfl⟩
theorem AT:au Tryz.prog 213:=⟨Tryz.f213,Tryz.func213,rfl,rfl⟩
theorem uX:au Tryz.prog 214:=⟨Tryz.f214,Tryz.func214,rfl,rfl⟩
theorem AS:au Tryz.prog 215:=⟨Tryz.f215,Tryz.func215,rfl,rfl⟩
theorem xu:au Tryz.prog 225:=⟨Tryz.f225,Tryz.func225,rfl,rfl⟩
theorem AR:au Tryz.prog 226:=⟨Tryz.f226,Tryz.func226,rfl,rfl⟩
theorem AQ:au Tryz.prog 227:=⟨Tryz.f227,Tryz.func227,rfl,rfl⟩
theorem AP:au Tryz.prog 228:=⟨Tryz.f228,Tryz.func228,rfl,rfl⟩
theorem xt:au Tryz.prog 229:=⟨Tryz.f229,Tryz.func229,rfl,rfl⟩
theorem uW:au Tryz.prog 230:=⟨Tryz.f230,Tryz.func230,rfl,rfl⟩
theorem px:au Tryz.prog 231:=⟨Tryz.f231,Tryz.func231,rfl,rfl⟩
theorem xr:au Tryz.prog 232:=⟨Tryz.f232,Tryz.func232,rfl,rfl⟩
theorem AO:au Tryz.prog 233:=⟨Tryz.f233,Tryz.func233,rfl,rfl⟩
theorem AN:au Tryz.prog 234:=⟨Tryz.f234,Tryz.func234,rfl,rfl⟩
theorem AM:au Tryz.prog 235:=⟨Tryz.f235,Tryz.func235,rfl,rfl⟩
theorem xq:au Tryz.prog 238:=⟨Tryz.f238,Tryz.func238,rfl,rfl⟩
theorem AL:au Tryz.prog 239:=⟨Tryz.f239,Tryz.func239,rfl,rfl⟩
theorem pw:au Tryz.prog 240:=⟨Tryz.f240,Tryz.func240,rfl,rfl⟩
theorem pv:au Tryz.prog 241:=⟨Tryz.f241,Tryz.func241,rfl,rfl⟩
theorem xp:au Tryz.prog 242:=⟨Tryz.f242,Tryz.func242,rfl,rfl⟩
theorem AK:au Tryz.prog 244:=⟨Tryz.f244,Tryz.func244,rfl,rfl⟩
theorem xo:au Tryz.prog 245:=⟨Tryz.f245,Tryz.func245,rfl,rfl⟩
theorem AJ:au Tryz.prog 246:=⟨Tryz.f246,Tryz.func246,rfl,rfl⟩
theorem xn:au Tryz.prog 247:=⟨Tryz.f247,Tryz.func247,rfl,rfl⟩
theorem AI:au Tryz.prog 248:=⟨Tryz.f248,Tryz.func248,rfl,rfl⟩
theorem AH:au Tryz.prog 253:=⟨Tryz.f253,Tryz.func253,rfl,rfl⟩
theorem AG:au Tryz.prog 255:=⟨Tryz.f255,Tryz.func255,rfl,rfl⟩
theorem xm:au Tryz.prog 256:=⟨Tryz.f256,Tryz.func256,rfl,rfl⟩
theorem AF:au Tryz.prog 262:=⟨Tryz.f262,Tryz.func262,rfl,rfl⟩
theorem AE:au Tryz.prog 263:=⟨Tryz.f263,Tryz.func263,rfl,rfl⟩
theorem Ay (b o:Nat)(w:World):(Instr.fieldAt 24 (pV b o) 0).run Tryz.prog w=.ok (pV b o) w:=by kernel_rfl
theorem sD (b o:Nat)(w:World):(Instr.fieldAt 24 (pV b o) 1).run Tryz.prog w=.ok (.pointer (some ⟨b,o+1,none⟩)) w:=by kernel_rfl
theorem Ax (b o:Nat)(w:World):(Instr.fieldAt 24 (pV b o) 2).run Tryz.prog w=.ok (.pointer (some ⟨b,o+2,none⟩)) w:=by kernel_rfl
theorem kW (b o:Nat)(w:World):(Instr.fieldAt 30 (pV b o) 0).run Tryz.prog w=.ok (pV b o) w:=by kernel_rfl
theorem sC (b o:Nat)(w:World):(Instr.fieldAt 30 (pV b o) 1).run Tryz.prog w=.ok (.pointer (some ⟨b,o+1,none⟩)) w:=by kernel_rfl
theorem Aw (b o:Nat)(w:World):(Instr.fieldAt 30 (pV b o) 2).run Tryz.prog w=.ok (.pointer (some ⟨b,o+2,none⟩)) w:=by kernel_rfl
theorem xb (b o:Nat)(w:World):(Instr.fieldAt 32 (pV b o) 0).run Tryz.prog w=.ok (pV b o) w:=by kernel_rfl
theorem xa (b o:Nat)(w:World):(Instr.fieldAt 32 (pV b o) 1).run Tryz.prog w=.ok (.pointer (some ⟨b,o+1,none⟩)) w:=by kernel_rfl
theorem Au (b o:Nat)(w:World):(Instr.fieldAt 32 (pV b o) 2).run Tryz.prog w=.ok (.pointer (some ⟨b,o+2,none⟩)) w:=by kernel_rfl
theorem At (b o:Nat)(w:World):(Instr.fieldAt 32 (pV b o) 3).run Tryz.prog w=.ok (.pointer (some ⟨b,o+5,none⟩)) w:=by kernel_rfl
theorem Ar (b o:Nat)(w:World):(Instr.fieldAt 32 (pV b o) 4).run Tryz.prog w=.ok (.pointer (some ⟨b,o+8,none⟩)) w:=by kernel_rfl
theorem uJ (b o:Nat)(w:World):(Instr.fieldAt 42 (pV b o) 0).run Tryz.prog w=.ok (pV b o) w:=by kernel_rfl
theorem qK (b o:Nat)(w:World):(Instr.fieldAt 42 (pV b o) 1).run Tryz.prog w=.ok (.pointer (some ⟨b,o+3,none⟩)) w:=by kernel_rfl
theorem wZ (b o:Nat)(w:World):(Instr.fieldAt 42 (pV b o) 2).run Tryz.prog w=.ok (.pointer (some ⟨b,o+4,none⟩)) w:=by kernel_rfl
theorem sB (b o:Nat)(w:World):(Instr.fieldAt 42 (pV b o) 3).run Tryz.prog w=.ok (.pointer (some ⟨b,o+7,none⟩)) w:=by kernel_rfl
theorem sy (b o:Nat)(w:World):(Instr.fieldAt 42 (pV b o) 4).run Tryz.prog w=.ok (.pointer (some ⟨b,o+10,none⟩)) w:=by kernel_rfl
theorem Aq (b o:Nat)(w:World):(Instr.fieldAt 57 (pV b o) 0).run Tryz.prog w=.ok (pV b o) w:=by kernel_rfl
theorem Ap (b o:Nat)(w:World):(Instr.fieldAt 57 (pV b o) 1).run Tryz.prog w=.ok (.pointer (some ⟨b,o+1,none⟩)) w:=by kernel_rfl
theorem Ao (b o:Nat)(w:World):(Instr.fieldAt 57 (pV b o) 2).run Tryz.prog w=.ok (.pointer (some ⟨b,o+2,none⟩)) w:=by kernel_rfl
theorem wY (b o:Nat)(w:World):(Instr.fieldAt 57 (pV b o) 3).run Tryz.prog w=.ok (.pointer (some ⟨b,o+3,none⟩)) w:=by kernel_rfl
theorem An (b o:Nat)(w:World):(Instr.fieldAt 57 (pV b o) 4).run Tryz.prog w=.ok (.pointer (some ⟨b,o+4,none⟩)) w:=by kernel_rfl
theorem Am (b o:Nat)(w:World):(Instr.fieldAt 57 (pV b o) 5).run Tryz.prog w=.ok (.pointer (some ⟨b,o+5,none⟩)) w:=by kernel_rfl
theorem Al (b o:Nat)(w:World):(Instr.fieldAt 57 (pV b o) 6).run Tryz.prog w=.ok (.pointer (some ⟨b,o+6,none⟩)) w:=by kernel_rfl
theorem vT (b o:Nat)(w:World):(Instr.fieldAt 138 (pV b o) 0).run Tryz.prog w=.ok (pV b o) w:=by kernel_rfl
theorem jZ (b o:Nat)(w:World):(Instr.fieldAt 138 (pV b o) 1).run Tryz.prog w=.ok (.pointer (some ⟨b,o+1,none⟩)) w:=by kernel_rfl
theorem vS (b o:Nat)(w:World):(Instr.fieldAt 138 (pV b o) 2).run Tryz.prog w=.ok (.pointer (some ⟨b,o+2,none⟩)) w:=by kernel_rfl
theorem iY (b o:Nat)(w:World):(Instr.fieldAt 138 (pV b o) 3).run Tryz.prog w=.ok (.pointer (some ⟨b,o+3,none⟩)) w:=by kernel_rfl
theorem gm (b o:Nat)(w:World):(Instr.fieldAt 138 (pV b o) 4).run Tryz.prog w=.ok (.pointer (some ⟨b,o+4,none⟩)) w:=by kernel_rfl
theorem jY (b o:Nat)(w:World):(Instr.fieldAt 138 (pV b o) 5).run Tryz.prog w=.ok (.pointer (some ⟨b,o+5,none⟩)) w:=by kernel_rfl
theorem dR (b o:Nat)(w:World):(Instr.fieldAt 140 (pV b o) 0).run Tryz.prog w=.ok (pV b o) w:=by kernel_rfl
theorem lJ (b o:Nat)(w:World):(Instr.fieldAt 140 (pV b o) 1).run Tryz.prog w=.ok (.pointer (some ⟨b,o+6,none⟩)) w:=by kernel_rfl
theorem vR (b o:Nat)(w:World):(Instr.fieldAt 140 (pV b o) 2).run Tryz.prog w=.ok (.pointer (some ⟨b,o+7,none⟩)) w:=by kernel_rfl
theorem vQ (b o:Nat)(w:World):(Instr.fieldAt 147 (pV b o) 1).run Tryz.prog w=.ok (.pointer (some ⟨b,o+1,none⟩)) w:=by kernel_rfl
theorem vP (b o:Nat)(w:World):(Instr.fieldAt 151 (pV b o) 0).run Tryz.prog w=.ok (pV b o) w:=by kernel_rfl
theorem vO (b o:Nat)(w:World):(Instr.fieldAt 151 (pV b o) 1).run Tryz.prog w=.ok (.pointer (some ⟨b,o+3,none⟩)) w:=by kernel_rfl
theorem gX (b o:Nat)(w:World):(Instr.fieldAt 151 (pV b o) 3).run Tryz.prog w=.ok (.pointer (some ⟨b,o+11,none⟩)) w:=by kernel_rfl
theorem zd (b o:Nat)(w:World):(Instr.fieldAt 151 (pV b o) 4).run Tryz.prog w=.ok (.pointer (some ⟨b,o+12,none⟩)) w:=by kernel_rfl
theorem zc (b o:Nat)(w:World):(Instr.fieldAt 151 (pV b o) 6).run Tryz.prog w=.ok (.pointer (some ⟨b,o+14,none⟩)) w:=by kernel_rfl
theorem ts (b o:Nat)(w:World):(Instr.fieldAt 197 (pV b o) 0).run Tryz.prog w=.ok (pV b o) w:=by kernel_rfl
theorem zb (b o:Nat)(w:World):(Instr.fieldAt 197 (pV b o) 1).run Tryz.prog w=.ok (.pointer (some ⟨b,o+1,none⟩)) w:=by kernel_rfl
theorem tr (b o:Nat)(w:World):(Instr.fieldAt 199 (pV b o) 0).run Tryz.prog w=.ok (pV b o) w:=by kernel_rfl
theorem tq (b o:Nat)(w:World):(Instr.fieldAt 199 (pV b o) 1).run Tryz.prog w=.ok (.pointer (some ⟨b,o+2,none⟩)) w:=by kernel_rfl
theorem oR (b o:Nat)(w:World):(Instr.fieldAt 199 (pV b o) 3).run Tryz.prog w=.ok (.pointer (some ⟨b,o+4,none⟩)) w:=by kernel_rfl
theorem qN (b o:Nat)(w:World):(Instr.fieldAt 201 (pV b o) 0).run Tryz.prog w=.ok (pV b o) w:=by kernel_rfl
theorem qM (b o:Nat)(w:World):(Instr.fieldAt 201 (pV b o) 1).run Tryz.prog w=.ok (.pointer (some ⟨b,o+1,none⟩)) w:=by kernel_rfl
theorem ne (b o:Nat)(w:World):(Instr.fieldAt 201 (pV b o) 2).run Tryz.prog w=.ok (.pointer (some ⟨b,o+4,none⟩)) w:=by kernel_rfl
theorem qL (b o:Nat)(w:World):(Instr.fieldAt 201 (pV b o) 3).run Tryz.prog w=.ok (.pointer (some ⟨b,o+5,none⟩)) w:=by kernel_rfl
theorem nd (b o:Nat)(w:World):(Instr.fieldAt 205 (pV b o) 0).run Tryz.prog w=.ok (pV b o) w:=by kernel_rfl
theorem tp (b o:Nat)(w:World):(Instr.fieldAt 205 (pV b o) 1).run Tryz.prog w=.ok (.pointer (some ⟨b,o+1,none⟩)) w:=by kernel_rfl
theorem za (b o:Nat)(w:World):(Instr.fieldAt 247 (pV b o) 0).run Tryz.prog w=.ok (pV b o) w:=by kernel_rfl
theorem cv:fL Tryz.prog 3=true:=by kernel_rfl
theorem ws:fL Tryz.prog 4=true:=by kernel_rfl
theorem C4:fL Tryz.prog 9=true:=by kernel_rfl
theorem rS:fL Tryz.prog 36=true:=by kernel_rfl
theorem eC:fL Tryz.prog 38=true:=by kernel_rfl
theorem yT:fL Tryz.prog 67=true:=by kernel_rfl
theorem iK:fL Tryz.prog 142=true:=by kernel_rfl
theorem yU:fL Tryz.prog 144=true:=by kernel_rfl
theorem rv:fL Tryz.prog 193=true:=by kernel_rfl
theorem uC:fL Tryz.prog 195=true:=by kernel_rfl
theorem ly:fL Tryz.prog 202=true:=by kernel_rfl
theorem wt:fL Tryz.prog 203=true:=by kernel_rfl
theorem BO:fL Tryz.prog 211=true:=by kernel_rfl
theorem BN:fL Tryz.prog 245=true:=by kernel_rfl
theorem bp:pg Tryz.prog 24 3=true:=by kernel_rfl
theorem aC:pg Tryz.prog 30 3=true:=by kernel_rfl
theorem cI:pg Tryz.prog 32 11=true:=by kernel_rfl
theorem ce:pg Tryz.prog 42 13=true:=by kernel_rfl
theorem BD:pg Tryz.prog 57 7=true:=by kernel_rfl
theorem bC:pg Tryz.prog 138 6=true:=by kernel_rfl
theorem zG:pg Tryz.prog 197 2=true:=by kernel_rfl
theorem mM:pg Tryz.prog 201 6=true:=by kernel_rfl
theorem f7:dZ Tryz.prog 3 1=true:=by kernel_rfl
theorem sQ:dZ Tryz.prog 4 1=true:=by kernel_rfl
theorem dE:dZ Tryz.prog 24 3=true:=by kernel_rfl
theorem ba:dZ Tryz.prog 30 3=true:=by kernel_rfl
theorem rm:dZ Tryz.prog 32 11=true:=by kernel_rfl
theorem kf:dZ Tryz.prog 38 1=true:=by kernel_rfl
theorem bz:dZ Tryz.prog 42 13=true:=by kernel_rfl
theorem rl:dZ Tryz.prog 67 1=true:=by kernel_rfl
theorem bY:dZ Tryz.prog 138 6=true:=by kernel_rfl
theorem z4:dZ Tryz.prog 195 1=true:=by kernel_rfl
theorem cC:dZ Tryz.prog 201 6=true:=by kernel_rfl
theorem zZ:dZ Tryz.prog 202 1=true:=by kernel_rfl
theorem zY:dZ Tryz.prog 211 1=true:=by kernel_rfl
theorem CA (w:World):(zeroValue 3).run Tryz.prog w=.ok (iV 0) w:=by kernel_rfl
theorem Bw (w:World):(zeroValue 4).run Tryz.prog w=.ok (.bool false) w:=by kernel_rfl
theorem mt (w:World):(zeroValue 24).run Tryz.prog w=.ok (.agg #[iV 0,iV 0,.string ⟨#[]⟩]) w:=by kernel_rfl
theorem fH (w:World):(zeroValue 30).run Tryz.prog w=.ok (.agg #[iV 0,iV 0,.string ⟨#[]⟩]) w:=by kernel_rfl
theorem sN (w:World):(zeroValue 32).run Tryz.prog w=.ok (.agg #[iV 0,iV 0,iV 0,iV 0,.string ⟨#[]⟩,iV 0,iV 0,.string ⟨#[]⟩,iV 0,iV 0,.string ⟨#[]⟩]) w:=by kernel_rfl
theorem ci (w:World):(zeroValue 42).run Tryz.prog w=.ok (.agg #[iV 0,iV 0,.string ⟨#[]⟩,iV 0,iV 0,iV 0,.string ⟨#[]⟩,iV 0,iV 0,.string ⟨#[]⟩,iV 0,iV 0,.string ⟨#[]⟩]) w:=by kernel_rfl
theorem yC (w:World):(zeroValue 67).run Tryz.prog w=.ok (I none 0 0) w:=by kernel_rfl
theorem dm (w:World):(zeroValue 138).run Tryz.prog w=.ok (.agg #[iV 0,iV 0,iV 0,iV 0,I none 0 0,I none 0 0]) w:=by kernel_rfl
theorem nt (w:World):(zeroValue 201).run Tryz.prog w=.ok (.agg #[iV 0,iV 0,iV 0,.string ⟨#[]⟩,iV 0,iV 0]) w:=by kernel_rfl
theorem zQ (w:World):(zeroValue 211).run Tryz.prog w=.ok (I none 0 0) w:=by kernel_rfl
theorem yZ (x0_:Int)(x1_:Int)(x2_:ByteArray)(w:World):(Instr.field 30 (.agg #[iV x0_,iV x1_,.string x2_]) 0).run Tryz.prog w=.ok (iV x0_) w:=by kernel_rfl
theorem yY (x0_:Int)(x1_:Int)(x2_0_:Int)(x2_1_:Int)(x2_2_:ByteArray)(x3_0_:Int)(x3_1_:Int)(x3_2_:ByteArray)(x4_0_:Int)(x4_1_:Int)(x4_2_:ByteArray)(w:World):(Instr.field 32 (.agg #[iV x0_,iV x1_,iV x2_0_,iV x2_1_,.string x2_2_,iV x3_0_,iV x3_1_,.string x3_2_,iV x4_0_,iV x4_1_,.string x4_2_]) 0).run Tryz.prog w=.ok (iV x0_) w:=by kernel_rfl
theorem ym (x0_:Int)(x1_:Int)(x2_:Int)(x3_:Int)(x4_a:Option Addr)(x4_n x4_c:Nat)(x5_a:Option Addr)(x5_n x5_c:Nat)(w:World):(Instr.field 138 (.agg #[iV x0_,iV x1_,iV x2_,iV x3_,.slice x4_a x4_n x4_c,.slice x5_a x5_n x5_c]) 0).run Tryz.prog w=.ok (iV x0_) w:=by kernel_rfl
theorem tS (x0_:Int)(x1_:Int)(w:World):(Instr.build 24 #[(0,iV x0_),(1,iV x1_)]).run Tryz.prog w=.ok (.agg #[iV x0_,iV x1_,.string ⟨#[]⟩]) w:=by kernel_rfl
theorem tR (x0_:Int)(x2_:ByteArray)(w:World):(Instr.build 24 #[(0,iV x0_),(2,.string x2_)]).run Tryz.prog w=.ok (.agg #[iV x0_,iV 0,.string x2_]) w:=by kernel_rfl
theorem zB (x1_:Int)(w:World):(Instr.build 24 #[(1,iV x1_)]).run Tryz.prog w=.ok (.agg #[iV 0,iV x1_,.string ⟨#[]⟩]) w:=by kernel_rfl
theorem lc  (w:World):(Instr.build 30 #[]).run Tryz.prog w=.ok (.agg #[iV 0,iV 0,.string ⟨#[]⟩]) w:=by kernel_rfl
theorem zA (x0_:Int)(w:World):(Instr.build 30 #[(0,iV x0_)]).run Tryz.prog w=.ok (.agg #[iV x0_,iV 0,.string ⟨#[]⟩]) w:=by kernel_rfl
theorem lN (x0_:Int)(x1_:Int)(w:World):(Instr.build 30 #[(0,iV x0_),(1,iV x1_)]).run Tryz.prog w=.ok (.agg #[iV x0_,iV x1_,.string ⟨#[]⟩]) w:=by kernel_rfl
theorem wc (x0_:Int)(w:World):(Instr.build 32 #[(0,iV x0_)]).run Tryz.prog w=.ok (.agg #[iV x0_,iV 0,iV 0,iV 0,.string ⟨#[]⟩,iV 0,iV 0,.string ⟨#[]⟩,iV 0,iV 0,.string ⟨#[]⟩]) w:=by kernel_rfl
theorem vt (x0_:Int)(x1_:Int)(x2_0_:Int)(x2_1_:Int)(x2_2_:ByteArray)(w:World):(Instr.build 32 #[(0,iV x0_),(1,iV x1_),(2,.agg #[iV x2_0_,iV x2_1_,.string x2_2_])]).run Tryz.prog w=.ok (.agg #[iV x0_,iV x1_,iV x2_0_,iV x2_1_,.string x2_2_,iV 0,iV 0,.string ⟨#[]⟩,iV 0,iV 0,.string ⟨#[]⟩]) w:=by kernel_rfl
theorem tO (x0_:Int)(x1_:Int)(x3_0_:Int)(x3_1_:Int)(x3_2_:ByteArray)(x4_0_:Int)(x4_1_:Int)(x4_2_:ByteArray)(w:World):(Instr.build 32 #[(0,iV x0_),(1,iV x1_),(3,.agg #[iV x3_0_,iV x3_1_,.string x3_2_]),(4,.agg #[iV x4_0_,iV x4_1_,.string x4_2_])]).run Tryz.prog w=.ok (.agg #[iV x0_,iV x1_,iV 0,iV 0,.string ⟨#[]⟩,iV x3_0_,iV x3_1_,.string x3_2_,iV x4_0_,iV x4_1_,.string x4_2_]) w:=by kernel_rfl
theorem mp  (w:World):(Instr.build 42 #[]).run Tryz.prog w=.ok (.agg #[iV 0,iV 0,.string ⟨#[]⟩,iV 0,iV 0,iV 0,.string ⟨#[]⟩,iV 0,iV 0,.string ⟨#[]⟩,iV 0,iV 0,.string ⟨#[]⟩]) w:=by kernel_rfl
theorem zz (x0_0_:Int)(x0_1_:Int)(x0_2_:ByteArray)(w:World):(Instr.build 42 #[(0,.agg #[iV x0_0_,iV x0_1_,.string x0_2_])]).run Tryz.prog w=.ok (.agg #[iV x0_0_,iV x0_1_,.string x0_2_,iV 0,iV 0,iV 0,.string ⟨#[]⟩,iV 0,iV 0,.string ⟨#[]⟩,iV 0,iV 0,.string ⟨#[]⟩]) w:=by kernel_rfl
theorem wI (x0_0_:Int)(x0_1_:Int)(x0_2_:ByteArray)(x1_:Int)(w:World):(Instr.build 42 #[(0,.agg #[iV x0_0_,iV x0_1_,.string x0_2_]),(1,iV x1_)]).run Tryz.prog w=.ok (.agg #[iV x0_0_,iV x0_1_,.string x0_2_,iV x1_,iV 0,iV 0,.string ⟨#[]⟩,iV 0,iV 0,.string ⟨#[]⟩,iV 0,iV 0,.string ⟨#[]⟩]) w:=by kernel_rfl
theorem lb (x0_0_:Int)(x0_1_:Int)(x0_2_:ByteArray)(x1_:Int)(x2_0_:Int)(x2_1_:Int)(x2_2_:ByteArray)(w:World):(Instr.build 42 #[(0,.agg #[iV x0_0_,iV x0_1_,.string x0_2_]),(1,iV x1_),(2,.agg #[iV x2_0_,iV x2_1_,.string x2_2_])]).run Tryz.prog w=.ok (.agg #[iV x0_0_,iV x0_1_,.string x0_2_,iV x1_,iV x2_0_,iV x2_1_,.string x2_2_,iV 0,iV 0,.string ⟨#[]⟩,iV 0,iV 0,.string ⟨#[]⟩]) w:=by kernel_rfl
theorem rJ (x1_:Int)(x2_:Int)(x3_:Int)(x5_:Int)(x6_:Int)(w:World):(Instr.build 57 #[(1,iV x1_),(2,iV x2_),(3,iV x3_),(5,iV x5_),(6,iV x6_)]).run Tryz.prog w=.ok (.agg #[iV 0,iV x1_,iV x2_,iV x3_,iV 0,iV x5_,iV x6_]) w:=by kernel_rfl
theorem qY  (w:World):(Instr.build 138 #[]).run Tryz.prog w=.ok (.agg #[iV 0,iV 0,iV 0,iV 0,I none 0 0,I none 0 0]) w:=by kernel_rfl
theorem ur (x0_:Int)(w:World):(Instr.build 138 #[(0,iV x0_)]).run Tryz.prog w=.ok (.agg #[iV x0_,iV 0,iV 0,iV 0,I none 0 0,I none 0 0]) w:=by kernel_rfl
theorem ua (x0_:Int)(x2_:Int)(x4_a:Option Addr)(x4_n x4_c:Nat)(w:World):(Instr.build 138 #[(0,iV x0_),(2,iV x2_),(4,.slice x4_a x4_n x4_c)]).run Tryz.prog w=.ok (.agg #[iV x0_,iV 0,iV x2_,iV 0,.slice x4_a x4_n x4_c,I none 0 0]) w:=by kernel_rfl
theorem sm (x0_:Int)(x2_:Int)(x4_a:Option Addr)(x4_n x4_c:Nat)(x5_a:Option Addr)(x5_n x5_c:Nat)(w:World):(Instr.build 138 #[(0,iV x0_),(2,iV x2_),(4,.slice x4_a x4_n x4_c),(5,.slice x5_a x5_n x5_c)]).run Tryz.prog w=.ok (.agg #[iV x0_,iV 0,iV x2_,iV 0,.slice x4_a x4_n x4_c,.slice x5_a x5_n x5_c]) w:=by kernel_rfl
theorem wg (x0_:Int)(x4_a:Option Addr)(x4_n x4_c:Nat)(w:World):(Instr.build 138 #[(0,iV x0_),(4,.slice x4_a x4_n x4_c)]).run Tryz.prog w=.ok (.agg #[iV x0_,iV 0,iV 0,iV 0,.slice x4_a x4_n x4_c,I none 0 0]) w:=by kernel_rfl
theorem t9 (x0_0_:Int)(x0_1_:Int)(x0_2_:Int)(x0_3_:Int)(x0_4_a:Option Addr)(x0_4_n x0_4_c:Nat)(x0_5_a:Option Addr)(x0_5_n x0_5_c:Nat)(x1_:Option Addr)(x2_0_:Int)(x2_1_:Int)(x2_2_:ByteArray)(w:World):(Instr.build 140 #[(0,.agg #[iV x0_0_,iV x0_1_,iV x0_2_,iV x0_3_,.slice x0_4_a x0_4_n x0_4_c,.slice x0_5_a x0_5_n x0_5_c]),(1,.pointer x1_),(2,.agg #[iV x2_0_,iV x2_1_,.string x2_2_])]).run Tryz.prog w=.ok (.agg #[iV x0_0_,iV x0_1_,iV x0_2_,iV x0_3_,.slice x0_4_a x0_4_n x0_4_c,.slice x0_5_a x0_5_n x0_5_c,.pointer x1_,iV x2_0_,iV x2_1_,.string x2_2_]) w:=by kernel_rfl
theorem t8 (x1_0_:Int)(x1_1_:Int)(x1_2_:Int)(x1_3_:Int)(x1_4_:Int)(x1_5_:Int)(x1_6_:Int)(x3_:Option Addr)(x4_:Option Addr)(w:World):(Instr.build 151 #[(1,.agg #[iV x1_0_,iV x1_1_,iV x1_2_,iV x1_3_,iV x1_4_,iV x1_5_,iV x1_6_]),(3,.pointer x3_),(4,.pointer x4_)]).run Tryz.prog w=.ok (.agg #[iV 0,iV 0,iV 0,iV x1_0_,iV x1_1_,iV x1_2_,iV x1_3_,iV x1_4_,iV x1_5_,iV x1_6_,.nilIface,.pointer x3_,.pointer x4_,I none 0 0,iV 0,iV 0,iV 0,I none 0 0,I none 0 0]) w:=by kernel_rfl
theorem yv (x3_:Option Addr)(w:World):(Instr.build 199 #[(3,.pointer x3_)]).run Tryz.prog w=.ok (.agg #[I none 0 0,I none 0 0,I none 0 0,I none 0 0,.pointer x3_]) w:=by kernel_rfl
theorem zC  (w:World):(Instr.build 201 #[]).run Tryz.prog w=.ok (.agg #[iV 0,iV 0,iV 0,.string ⟨#[]⟩,iV 0,iV 0]) w:=by kernel_rfl
theorem yu (x0_:Int)(w:World):(Instr.build 201 #[(0,iV x0_)]).run Tryz.prog w=.ok (.agg #[iV x0_,iV 0,iV 0,.string ⟨#[]⟩,iV 0,iV 0]) w:=by kernel_rfl
theorem sk (x0_:Int)(x1_0_:Int)(x1_1_:Int)(x1_2_:ByteArray)(x2_:Int)(x3_:Int)(w:World):(Instr.build 201 #[(0,iV x0_),(1,.agg #[iV x1_0_,iV x1_1_,.string x1_2_]),(2,iV x2_),(3,iV x3_)]).run Tryz.prog w=.ok (.agg #[iV x0_,iV x1_0_,iV x1_1_,.string x1_2_,iV x2_,iV x3_]) w:=by kernel_rfl
theorem we (x1_0_:Int)(x1_1_:Int)(x1_2_:ByteArray)(x2_:Int)(w:World):(Instr.build 201 #[(1,.agg #[iV x1_0_,iV x1_1_,.string x1_2_]),(2,iV x2_)]).run Tryz.prog w=.ok (.agg #[iV 0,iV x1_0_,iV x1_1_,.string x1_2_,iV x2_,iV 0]) w:=by kernel_rfl
theorem wd (x0_a:Option Addr)(x0_n x0_c:Nat)(x1_:Option Nat)(w:World):(Instr.build 205 #[(0,.slice x0_a x0_n x0_c),(1,.map x1_)]).run Tryz.prog w=.ok (.agg #[.slice x0_a x0_n x0_c,.map x1_]) w:=by kernel_rfl
theorem yt (x0_:Option Nat)(w:World):(Instr.build 247 #[(0,.map x0_)]).run Tryz.prog w=.ok (.agg #[.map x0_]) w:=by kernel_rfl
theorem pX (x0_:Int)(x1_0_:Int)(x1_1_:Int)(x1_2_:ByteArray)(x2_:Int)(w:World):(Instr.build 257 #[(0,iV x0_),(1,.agg #[iV x1_0_,iV x1_1_,.string x1_2_]),(2,iV x2_)]).run Tryz.prog w=.ok (.agg #[iV x0_,iV x1_0_,iV x1_1_,.string x1_2_,iV x2_]) w:=by kernel_rfl
theorem zy  (w:World):(Instr.buildSlice 38 0 #[]).run Tryz.prog w=.ok (.slice (some ⟨w.heap.size,0,none⟩) 0 0) (w.alloc (.cells #[] 30)):=by kernel_rfl
theorem gZ (x0_0_:Int)(x0_1_:Int)(x0_2_:ByteArray)(w:World):(Instr.buildSlice 38 1 #[(0,.agg #[iV x0_0_,iV x0_1_,.string x0_2_])]).run Tryz.prog w=.ok (.slice (some ⟨w.heap.size,0,none⟩) 1 1) (w.alloc (.cells #[iV x0_0_,iV x0_1_,.string x0_2_] 30)):=by kernel_rfl
theorem wb (x0_0_:Int)(x0_1_:Int)(x0_2_:ByteArray)(x1_0_:Int)(x1_1_:Int)(x1_2_:ByteArray)(w:World):(Instr.buildSlice 38 2 #[(0,.agg #[iV x0_0_,iV x0_1_,.string x0_2_]),(1,.agg #[iV x1_0_,iV x1_1_,.string x1_2_])]).run Tryz.prog w=.ok (.slice (some ⟨w.heap.size,0,none⟩) 2 2) (w.alloc (.cells #[iV x0_0_,iV x0_1_,.string x0_2_,iV x1_0_,iV x1_1_,.string x1_2_] 30)):=by kernel_rfl
theorem kb (x0_0_:Int)(x0_1_:Int)(x0_2_:ByteArray)(w:World):(Instr.buildSlice 67 1 #[(0,.agg #[iV x0_0_,iV x0_1_,.string x0_2_])]).run Tryz.prog w=.ok (.slice (some ⟨w.heap.size,0,none⟩) 1 1) (w.alloc (.cells #[iV x0_0_,iV x0_1_,.string x0_2_] 24)):=by kernel_rfl
theorem zx (x0_0_0_:Int)(x0_0_1_:Int)(x0_0_2_:ByteArray)(x0_1_:Int)(x0_2_0_:Int)(x0_2_1_:Int)(x0_2_2_:ByteArray)(x0_3_0_:Int)(x0_3_1_:Int)(x0_3_2_:ByteArray)(x0_4_0_:Int)(x0_4_1_:Int)(x0_4_2_:ByteArray)(w:World):(Instr.buildSlice 82 1 #[(0,.agg #[iV x0_0_0_,iV x0_0_1_,.string x0_0_2_,iV x0_1_,iV x0_2_0_,iV x0_2_1_,.string x0_2_2_,iV x0_3_0_,iV x0_3_1_,.string x0_3_2_,iV x0_4_0_,iV x0_4_1_,.string x0_4_2_])]).run Tryz.prog w=.ok (.slice (some ⟨w.heap.size,0,none⟩) 1 1) (w.alloc (.cells #[iV x0_0_0_,iV x0_0_1_,.string x0_0_2_,iV x0_1_,iV x0_2_0_,iV x0_2_1_,.string x0_2_2_,iV x0_3_0_,iV x0_3_1_,.string x0_3_2_,iV x0_4_0_,iV x0_4_1_,.string x0_4_2_] 42)):=by kernel_rfl
theorem yr (x0_0_:Int)(x0_1_:Int)(x0_2_:Int)(x0_3_:Int)(x0_4_a:Option Addr)(x0_4_n x0_4_c:Nat)(x0_5_a:Option Addr)(x0_5_n x0_5_c:Nat)(w:World):(Instr.buildSlice 195 1 #[(0,.agg #[iV x0_0_,iV x0_1_,iV x0_2_,iV x0_3_,.slice x0_4_a x0_4_n x0_4_c,.slice x0_5_a x0_5_n x0_5_c])]).run Tryz.prog w=.ok (.slice (some ⟨w.heap.size,0,none⟩) 1 1) (w.alloc (.cells #[iV x0_0_,iV x0_1_,iV x0_2_,iV x0_3_,.slice x0_4_a x0_4_n x0_4_c,.slice x0_5_a x0_5_n x0_5_c] 138)):=by kernel_rfl
theorem rI (x0_0_:Int)(x0_1_0_:Int)(x0_1_1_:Int)(x0_1_2_:ByteArray)(x0_2_:Int)(x0_3_:Int)(w:World):(Instr.buildSlice 202 1 #[(0,.agg #[iV x0_0_,iV x0_1_0_,iV x0_1_1_,.string x0_1_2_,iV x0_2_,iV x0_3_])]).run Tryz.prog w=.ok (.slice (some ⟨w.heap.size,0,none⟩) 1 1) (w.alloc (.cells #[iV x0_0_,iV x0_1_0_,iV x0_1_1_,.string x0_1_2_,iV x0_2_,iV x0_3_] 201)):=by kernel_rfl
theorem uq (x0_:Int)(w:World):(Instr.buildSlice 211 1 #[(0,iV x0_)]).run Tryz.prog w=.ok (.slice (some ⟨w.heap.size,0,none⟩) 1 1) (w.alloc (.cells #[iV x0_] 3)):=by kernel_rfl
theorem De:qp Tryz.prog 3 1 8=true:=by kernel_rfl
theorem vA:qp Tryz.prog 24 3 32=true:=by kernel_rfl
theorem ut:qp Tryz.prog 30 3 32=true:=by kernel_rfl
theorem CY:qp Tryz.prog 42 13 136=true:=by kernel_rfl
theorem CC:qp Tryz.prog 138 6 80=true:=by kernel_rfl
theorem CB:qp Tryz.prog 201 6 56=true:=by kernel_rfl
instance:Fc (fL Tryz.prog 3=true):=⟨cv⟩
instance:Fc (fL Tryz.prog 4=true):=⟨ws⟩
instance:Fc (fL Tryz.prog 9=true):=⟨C4⟩
instance:Fc (fL Tryz.prog 36=true):=⟨rS⟩
instance:Fc (fL Tryz.prog 38=true):=⟨eC⟩
instance:Fc (fL Tryz.prog 67=true):=⟨yT⟩
instance:Fc (fL Tryz.prog 142=true):=⟨iK⟩
instance:Fc (fL Tryz.prog 144=true):=⟨yU⟩
instance:Fc (fL Tryz.prog 193=true):=⟨rv⟩
instance:Fc (fL Tryz.prog 195=true):=⟨uC⟩
instance:Fc (fL Tryz.prog 202=true):=⟨ly⟩
instance:Fc (fL Tryz.prog 203=true):=⟨wt⟩
instance:Fc (fL Tryz.prog 211=true):=⟨BO⟩
instance:Fc (fL Tryz.prog 245=true):=⟨BN⟩
instance:FcA0 Tryz.prog 24 0:=⟨Ay⟩
instance:FcA Tryz.prog 24 1 1:=⟨sD⟩
instance:FcA Tryz.prog 24 2 2:=⟨Ax⟩
instance:FcA0 Tryz.prog 30 0:=⟨kW⟩
instance:FcA Tryz.prog 30 1 1:=⟨sC⟩
instance:FcA Tryz.prog 30 2 2:=⟨Aw⟩
instance:FcA0 Tryz.prog 32 0:=⟨xb⟩
instance:FcA Tryz.prog 32 1 1:=⟨xa⟩
instance:FcA Tryz.prog 32 2 2:=⟨Au⟩
instance:FcA Tryz.prog 32 3 5:=⟨At⟩
instance:FcA Tryz.prog 32 4 8:=⟨Ar⟩
instance:FcA0 Tryz.prog 42 0:=⟨uJ⟩
instance:FcA Tryz.prog 42 1 3:=⟨qK⟩
instance:FcA Tryz.prog 42 2 4:=⟨wZ⟩
instance:FcA Tryz.prog 42 3 7:=⟨sB⟩
instance:FcA Tryz.prog 42 4 10:=⟨sy⟩
instance:FcA0 Tryz.prog 57 0:=⟨Aq⟩
instance:FcA Tryz.prog 57 1 1:=⟨Ap⟩
instance:FcA Tryz.prog 57 2 2:=⟨Ao⟩
instance:FcA Tryz.prog 57 3 3:=⟨wY⟩
instance:FcA Tryz.prog 57 4 4:=⟨An⟩
instance:FcA Tryz.prog 57 5 5:=⟨Am⟩
instance:FcA Tryz.prog 57 6 6:=⟨Al⟩
instance:FcA0 Tryz.prog 138 0:=⟨vT⟩
instance:FcA Tryz.prog 138 1 1:=⟨jZ⟩
instance:FcA Tryz.prog 138 2 2:=⟨vS⟩
instance:FcA Tryz.prog 138 3 3:=⟨iY⟩
instance:FcA Tryz.prog 138 4 4:=⟨gm⟩
instance:FcA Tryz.prog 138 5 5:=⟨jY⟩
instance:FcA0 Tryz.prog 140 0:=⟨dR⟩
instance:FcA Tryz.prog 140 1 6:=⟨lJ⟩
instance:FcA Tryz.prog 140 2 7:=⟨vR⟩
instance:FcA Tryz.prog 147 1 1:=⟨vQ⟩
instance:FcA0 Tryz.prog 151 0:=⟨vP⟩
instance:FcA Tryz.prog 151 1 3:=⟨vO⟩
instance:FcA Tryz.prog 151 3 11:=⟨gX⟩
instance:FcA Tryz.prog 151 4 12:=⟨zd⟩
instance:FcA Tryz.prog 151 6 14:=⟨zc⟩
instance:FcA0 Tryz.prog 197 0:=⟨ts⟩
instance:FcA Tryz.prog 197 1 1:=⟨zb⟩
instance:FcA0 Tryz.prog 199 0:=⟨tr⟩
instance:FcA Tryz.prog 199 1 2:=⟨tq⟩
instance:FcA Tryz.prog 199 3 4:=⟨oR⟩
instance:FcA0 Tryz.prog 201 0:=⟨qN⟩
instance:FcA Tryz.prog 201 1 1:=⟨qM⟩
instance:FcA Tryz.prog 201 2 4:=⟨ne⟩
instance:FcA Tryz.prog 201 3 5:=⟨qL⟩
instance:FcA0 Tryz.prog 205 0:=⟨nd⟩
instance:FcA Tryz.prog 205 1 1:=⟨tp⟩
instance:FcA0 Tryz.prog 247 0:=⟨za⟩
theorem yi:Tryz.prog.eqGuardType Tryz.prog.depth 24=false:=by kernel_rfl
theorem AB (x y:DX)(w:World):(Op.equalIn 10000 24 (.agg #[iV x.Kind,iV x.N,.string x.S]) (.agg #[iV y.Kind,iV y.N,.string y.S])).run Tryz.prog w=.ok (decide (x=y)) w:=by
 obtain ⟨xKind,xN,xS⟩:=x;obtain ⟨yKind,yN,yS⟩:=y;show (Op.equalIn 10000 24 (.agg #[iV xKind,iV xN,.string xS]) (.agg #[iV yKind,iV yN,.string yS])).run Tryz.prog w=_
 go_simp
 simp only [tN];by_cases h0:xKind=yKind<;>by_cases h1:xN=yN<;>by_cases h2:xS=yS<;>simp [h0,h1,h2]
theorem oT {s:bP}{C:World→Prop}{d:Option Nat}{ty u:TypeId}{pos:String}{af:Array Edge}{gd:Option (Nat×Bool)}{a b:Operand}{x y:DX}(hx:bQ s a=some (.agg #[iV x.Kind,iV x.N,.string x.S]))(hy:bQ s b=some (.agg #[iV y.Kind,iV y.N,.string y.S])):Ev Tryz.prog s C ⟨d,.binOp .eql 24 a b u,ty,pos,af,gd⟩ (.bool (decide (x=y))):=
 dG hx hy fun w=>by
  rw [Sem.run_bind,run_eqGuard_agg w _ _ _ _ _ _ yi];simp only [Result.andThen_ok];rw [run_eql_struct,AB];rfl
theorem uj:Tryz.prog.eqGuardType Tryz.prog.depth 30=false:=by kernel_rfl
theorem xe (x y:Ea)(w:World):(Op.equalIn 10000 30 (.agg #[iV x.Kind,iV x.N,.string x.S]) (.agg #[iV y.Kind,iV y.N,.string y.S])).run Tryz.prog w=.ok (decide (x=y)) w:=by
 obtain ⟨xKind,xN,xS⟩:=x;obtain ⟨yKind,yN,yS⟩:=y;show (Op.equalIn 10000 30 (.agg #[iV xKind,iV xN,.string xS]) (.agg #[iV yKind,iV yN,.string yS])).run Tryz.prog w=_
 go_simp
 simp only [tN];by_cases h0:xKind=yKind<;>by_cases h1:xN=yN<;>by_cases h2:xS=yS<;>simp [h0,h1,h2]
theorem oS {s:bP}{C:World→Prop}{d:Option Nat}{ty u:TypeId}{pos:String}{af:Array Edge}{gd:Option (Nat×Bool)}{a b:Operand}{x y:Ea}(hx:bQ s a=some (.agg #[iV x.Kind,iV x.N,.string x.S]))(hy:bQ s b=some (.agg #[iV y.Kind,iV y.N,.string y.S])):Ev Tryz.prog s C ⟨d,.binOp .eql 30 a b u,ty,pos,af,gd⟩ (.bool (decide (x=y))):=
 dG hx hy fun w=>by
  rw [Sem.run_bind,run_eqGuard_agg w _ _ _ _ _ _ uj];simp only [Result.andThen_ok];rw [run_eql_struct,xe];rfl
theorem uk {s:bP}{C:World→Prop}{d:Option Nat}{ty u:TypeId}{pos:String}{af:Array Edge}{gd:Option (Nat×Bool)}{a b:Operand}{x y:Ea}(hx:bQ s a=some (.agg #[iV x.Kind,iV x.N,.string x.S]))(hy:bQ s b=some (.agg #[iV y.Kind,iV y.N,.string y.S])):Ev Tryz.prog s C ⟨d,.binOp .neq 30 a b u,ty,pos,af,gd⟩ (.bool (!decide (x=y))):=
 dG hx hy fun w=>by
  rw [Sem.run_bind,run_eqGuard_agg w _ _ _ _ _ _ uj];simp only [Result.andThen_ok];rw [run_neq_struct,xe];rfl
theorem zi (x y:D3)(w:World):(Op.equalIn 10000 257 (.agg #[iV x.up_,iV x.key_.Kind,iV x.key_.N,.string x.key_.S,iV x.attrs_]) (.agg #[iV y.up_,iV y.key_.Kind,iV y.key_.N,.string y.key_.S,iV y.attrs_])).run Tryz.prog w=.ok (decide (x=y)) w:=by
 obtain ⟨xup_,⟨xkey_Kind,xkey_N,xkey_S⟩,xattrs_⟩:=x;obtain ⟨yup_,⟨ykey_Kind,ykey_N,ykey_S⟩,yattrs_⟩:=y;show (Op.equalIn 10000 257 (.agg #[iV xup_,iV xkey_Kind,iV xkey_N,.string xkey_S,iV xattrs_]) (.agg #[iV yup_,iV ykey_Kind,iV ykey_N,.string ykey_S,iV yattrs_])).run Tryz.prog w=_
 go_simp
 simp only [tN];by_cases h0:xup_=yup_
 rotate_left
 ·simp [h0]
 by_cases h1:xkey_Kind=ykey_Kind
 rotate_left
 ·simp [h0,h1]
 by_cases h2:xkey_N=ykey_N
 rotate_left
 ·simp [h0,h1,h2]
 by_cases h3:xkey_S=ykey_S
 rotate_left
 ·simp [h0,h1,h2,h3]
 by_cases h4:xattrs_=yattrs_
 rotate_left
 ·simp [h0,h1,h2,h3,h4]
 simp [h0,h1,h2,h3,h4]
def az (x:D3):Value:=.agg #[iV x.up_,iV x.key_.Kind,iV x.key_.N,.string x.key_.S,iV x.attrs_]
theorem ti:KeyOk Tryz.prog 257 az where
 und:=⟨_,Tryz.underlying257,fun a b=> .inl rfl⟩
 eq:=fun a b w=>zi a b w
 check:=fun e a w=>by
  obtain ⟨xup_,⟨xkey_Kind,xkey_N,xkey_S⟩,xattrs_⟩:=a;kernel_rfl
 bits:=fun a=>by
  obtain ⟨xup_,⟨xkey_Kind,xkey_N,xkey_S⟩,xattrs_⟩:=a;simp [az,Instr.sameBits,wJ]
def db (N:Nat)(a0:Int)(a1:Int)(a2:Int):Option Bool:=
 (bif decide (a1≤a0) then (some (decide (a0≤a2))) else (some false)).bind fun b1=>some b1
theorem dj {N:Nat}{a0:Int}{a1:Int}{a2:Int}{r:Bool}(h:db N a0 a1 a2=some r):Okc Tryz.prog 147 [iV a0,iV a1,iV a2] ([]) (fun u post=>u=.bool r∧post=[]):=by
 refine be Tryz.func147 J J ?_;simp only [aM];refine U ?_;obtain ⟨b1,hb1,h⟩:=aa h;refine aJ 4 14 b1 ?_ ?_
 ·clear h;refine aH 10 J (fun g1=> ?_) (fun g1=> ?_)
  ·have h:=ag g1 hb1;refine U ?_;obtain rfl:=am h;exact ae sA (cS [] 0)
  have h:=ah g1 hb1;refine U ?_;obtain rfl:=am h;exact ae sA (cS [] 0)
 refine U ?_;obtain rfl:=am h;exact aI J J (cS [] 0) ⟨J,J⟩
theorem cO {r:Bool}: ∀v post,((fun (u:Value) (post:List Chunk)=>u=.bool r∧post=[])) v post→ ∀c∈post,bI c:=by
 rintro _ _ ⟨rfl,rfl⟩;exact ac
def pM (N:Nat)(a0:Ec):Option Bool:=
 (db N a0.Way 0 1).bind fun y2=>(bif y2 then ((db N a0.Steps 0 1073741824).bind fun y4=>some y4) else (some false)).bind fun b3=>(bif b3 then ((db N a0.Calls 1 200).bind fun y6=>some y6) else (some false)).bind fun b5=>(bif b5 then ((db N a0.Made 0 1048576).bind fun y8=>some y8) else (some false)).bind fun b7=>(bif b7 then ((db N a0.Young 0 1073741824).bind fun y10=>some y10) else (some false)).bind fun b9=>(bif b9 then ((db N a0.Full 0 1073741824).bind fun y12=>some y12) else (some false)).bind fun b11=>(bif b11 then ((db N a0.Sites 0 4).bind fun y14=>some y14) else (some false)).bind fun b13=>some b13
theorem sU {N:Nat}{a0:Ec}{r:Bool}(h:pM N a0=some r):Okc Tryz.prog 85 [.agg #[iV a0.Way,iV a0.Steps,iV a0.Calls,iV a0.Made,iV a0.Young,iV a0.Full,iV a0.Sites]] ([]) (fun u post=>u=.bool r∧post=[]):=by
 refine be Tryz.func85 J J ?_;simp only [aM];refine U ?_;refine gD (aE J J) ?_;rintro _ _ ⟨B1,rfl,rfl⟩;refine U ?_;obtain ⟨y2,hy2,h⟩:=aa h;refine gD (dK (dj hy2) nM J J J (ac) cO) ?_;rintro _ _ ⟨_,⟨rfl,rfl⟩,rfl⟩;refine U ?_;obtain ⟨b3,hb3,h⟩:=aa h;refine aJ 5 13 b3 ?_ ?_
 ·clear h;refine aH 8 J (fun g3=> ?_) (fun g3=> ?_)
  ·have h:=ag g3 hb3;refine U ?_;obtain ⟨y4,hy4,h⟩:=aa h;refine bX (dK (dj hy4) nM J J J (ac) cO) J (aX g3 J) J ?_;rintro _ _ ⟨_,⟨rfl,rfl⟩,rfl⟩;refine U ?_;obtain rfl:=am h;exact ae sA (cS [0] 1)
  have h:=ah g3 hb3;refine U ?_;obtain rfl:=am h;exact ae sA (cS [0] 1)
 refine U ?_;obtain ⟨b5,hb5,h⟩:=aa h;refine aJ 5 19 b5 ?_ ?_
 ·clear h;refine aH 14 J (fun g5=> ?_) (fun g5=> ?_)
  ·have h:=ag g5 hb5;refine U ?_;obtain ⟨y6,hy6,h⟩:=aa h;refine bX (dK (dj hy6) nM J J J (ac) cO) J (aX g5 J) J ?_;rintro _ _ ⟨_,⟨rfl,rfl⟩,rfl⟩;refine U ?_;obtain rfl:=am h;exact ae sA (cS [0] 1)
  have h:=ah g5 hb5;refine U ?_;obtain rfl:=am h;exact ae sA (cS [0] 1)
 refine U ?_;obtain ⟨b7,hb7,h⟩:=aa h;refine aJ 5 25 b7 ?_ ?_
 ·clear h;refine aH 20 J (fun g7=> ?_) (fun g7=> ?_)
  ·have h:=ag g7 hb7;refine U ?_;obtain ⟨y8,hy8,h⟩:=aa h;refine bX (dK (dj hy8) nM J J J (ac) cO) J (aX g7 J) J ?_;rintro _ _ ⟨_,⟨rfl,rfl⟩,rfl⟩;refine U ?_;obtain rfl:=am h;exact ae sA (cS [0] 1)
  have h:=ah g7 hb7;refine U ?_;obtain rfl:=am h;exact ae sA (cS [0] 1)
 refine U ?_;obtain ⟨b9,hb9,h⟩:=aa h;refine aJ 5 31 b9 ?_ ?_
 ·clear h;refine aH 26 J (fun g9=> ?_) (fun g9=> ?_)
  ·have h:=ag g9 hb9;refine U ?_;obtain ⟨y10,hy10,h⟩:=aa h;refine bX (dK (dj hy10) nM J J J (ac) cO) J (aX g9 J) J ?_;rintro _ _ ⟨_,⟨rfl,rfl⟩,rfl⟩;refine U ?_;obtain rfl:=am h;exact ae sA (cS [0] 1)
  have h:=ah g9 hb9;refine U ?_;obtain rfl:=am h;exact ae sA (cS [0] 1)
 refine U ?_;obtain ⟨b11,hb11,h⟩:=aa h;refine aJ 5 37 b11 ?_ ?_
 ·clear h;refine aH 32 J (fun g11=> ?_) (fun g11=> ?_)
  ·have h:=ag g11 hb11;refine U ?_;obtain ⟨y12,hy12,h⟩:=aa h;refine bX (dK (dj hy12) nM J J J (ac) cO) J (aX g11 J) J ?_;rintro _ _ ⟨_,⟨rfl,rfl⟩,rfl⟩;refine U ?_;obtain rfl:=am h;exact ae sA (cS [0] 1)
  have h:=ah g11 hb11;refine U ?_;obtain rfl:=am h;exact ae sA (cS [0] 1)
 refine U ?_;obtain ⟨b13,hb13,h⟩:=aa h;refine aJ 5 43 b13 ?_ ?_
 ·clear h;refine aH 38 J (fun g13=> ?_) (fun g13=> ?_)
  ·have h:=ag g13 hb13;refine U ?_;obtain ⟨y14,hy14,h⟩:=aa h;refine bX (dK (dj hy14) nM J J J (ac) cO) J (aX g13 J) J ?_;rintro _ _ ⟨_,⟨rfl,rfl⟩,rfl⟩;refine U ?_;obtain rfl:=am h;exact ae sA (cS [0] 1)
  have h:=ah g13 hb13;refine U ?_;obtain rfl:=am h;exact ae sA (cS [0] 1)
 refine U ?_;obtain rfl:=am h;exact aI J J (cS [] 1) ⟨J,J⟩
theorem rq {r:Bool}: ∀v post,((fun (u:Value) (post:List Chunk)=>u=.bool r∧post=[])) v post→ ∀c∈post,bI c:=by
 rintro _ _ ⟨rfl,rfl⟩;exact ac
def qw (N:Nat):Option Eb:=
 some (⟨([]:(List (Int×Bool)))⟩:Eb)
theorem tX {N:Nat}{r:Eb}(h:qw N=some r):Okc Tryz.prog 148 [] ([]) (fun u post=> ∃B0 M1,u=pV B0 0∧post=[ad B0 247 [.map (some M1)],aD bS bU M1 r.at_]):=by
 refine be Tryz.func148 J J ?_;simp only [aM];refine U ?_;refine gD (sZ (ek:=bS) (ev:=bU)) ?_;rintro _ _ ⟨M1,rfl,rfl⟩;refine gE (aY J (yt _)) ?_;refine gD (aE J J) ?_;rintro _ _ ⟨B2,rfl,rfl⟩;refine U ?_;obtain rfl:=am h;exact aI J J (cS [0,1] 2) ⟨_,_,J,J⟩
def tj (N:Nat):Option D1:=
 (qw N).bind fun y1=>some (⟨(⟨[],[]⟩:DY),[],[],y1⟩:D1)
theorem vM {N:Nat}{r:D1}(h:tj N=some r):Okc Tryz.prog 86 [] ([]) (fun u post=> ∃B0 A1 n1 c1 A2 n2 c2 A3 n3 c3 A4 n4 c4 B5 M6,u=pV B0 0∧post=[ad B0 199 [I A1 n1 c1,I A2 n2 c2,I A3 n3 c3,I A4 n4 c4,pV B5 0],bd A1 n1 c1 r.m_.Young,bd A2 n2 c2 r.m_.Old,aQ A3 n3 c3 r.roots_,aQ A4 n4 c4 r.pending_,ad B5 247 [.map (some M6)],aD bS bU M6 r.set_.at_]):=by
 refine be Tryz.func86 J J ?_;simp only [aM];refine U ?_;obtain ⟨y1,hy1,h⟩:=aa h;refine gD (aB (tX hy1) Be J (ay [] [] [] 0 J)) ?_;rintro _ _ ⟨_,⟨B2,M3,rfl,rfl⟩,rfl⟩;refine gE (aY J (yv _)) ?_;refine gD (aE J J) ?_;rintro _ _ ⟨B4,rfl,rfl⟩;refine U ?_;obtain rfl:=am h;exact aI J J ((dH oI 138 _).trans ((dH oI 138 _).trans ((dH bG 30 _).trans ((dH bG 30 _).trans (cS [4,3,2,1,0,5,6] 7))))) ⟨_,_,_,_,_,_,_,_,_,_,_,_,_,_,_,J,J⟩
def rN (N:Nat):Option D9:=
 some (⟨([(⟨(-1),(⟨0,0,⟨#[]⟩⟩:DX),0,0⟩:Ed)]:List Ed),([]:(List (D3×Int)))⟩:D9)
theorem uz {N:Nat}{r:D9}(h:rN N=some r):Okc Tryz.prog 87 [] ([]) (fun u post=> ∃B0 A1 n1 c1 M2,u=pV B0 0∧post=[ad B0 205 [I A1 n1 c1,.map (some M2)],cf A1 n1 c1 r.shapes_,aD az bR M2 r.next_]):=by
 refine be Tryz.func87 J J ?_;simp only [aM];refine U ?_;refine gE (aY J (yu _)) ?_;refine gD (bM (R:=pp) (vss:=[[iV (-1),iV 0,iV 0,.string (⟨#[]⟩),iV 0,iV 0]]) (xs:=[(⟨(-1),(⟨0,0,⟨#[]⟩⟩:DX),0,0⟩:Ed)]) J (rI _ _ _ _ _ _) J J (fun _ _ hr=> .cons J All2.nil)) ?_;rintro _ _ ⟨A1,n1,c1,rfl,rfl⟩;refine gD (sZ (ek:=az) (ev:=bR)) ?_;rintro _ _ ⟨M2,rfl,rfl⟩;refine gE (aY J (wd _ _ _ _)) ?_;refine gD (aE J J) ?_;rintro _ _ ⟨B3,rfl,rfl⟩;refine U ?_;obtain rfl:=am h;exact aI J J (cS [0,2,1] 3) ⟨_,_,_,_,_,J,J⟩
def cW (N:Nat)(a0:D1):Option Bool:=
 some false
theorem dl {N:Nat}{a0:D1}{r:Bool}(h:cW N a0=some r):Okc Tryz.prog 149 [pV B1 0] ([aL B1 199 [I A2 n2 c2,I A3 n3 c3,I A4 n4 c4,I A5 n5 c5,pV B6 0],nZ A2 n2 c2 a0.m_.Young,nZ A3 n3 c3 a0.m_.Old,cx A4 n4 c4 a0.roots_,cx A5 n5 c5 a0.pending_,aL B6 247 [.map (some M7)],eY bS bU M7 a0.set_.at_]) (fun u post=>u=.bool r∧post=[]):=by
 refine be Tryz.func149 J J ?_;simp only [aM];refine U ?_;refine gE (cA J Tryz.underlying142) ?_;refine U ?_;refine gR (bT 0 J J rv J) ?_;refine gE (cA J Tryz.underlying193) ?_;refine U ?_;obtain rfl:=am h;exact aI J J (cS [] 7) ⟨J,J⟩
theorem cU {r:Bool}: ∀v post,((fun (u:Value) (post:List Chunk)=>u=.bool r∧post=[])) v post→ ∀c∈post,bI c:=by
 rintro _ _ ⟨rfl,rfl⟩;exact ac
def eR (N:Nat)(a0:D1)(a1:Int):Option Ea:=
 (cW N a0).bind fun y9=>(bif y9 then (some true) else (some (decide (a1<0)))).bind fun b10=>(bif b10 then (some true) else (some (decide ((a0.roots_.length:Int)≤a1)))).bind fun b11=>bif b11 then (some (⟨0,0,⟨#[]⟩⟩:Ea)) else ((cm a0.roots_ a1).bind fun x13=>some x13)
theorem fY {N:Nat}{a0:D1}{a1:Int}{r:Ea}(h:eR N a0 a1=some r):Okc Tryz.prog 95 [pV B1 0,iV a1] ([aL B1 199 [I A2 n2 c2,I A3 n3 c3,I A4 n4 c4,I A5 n5 c5,pV B6 0],nZ A2 n2 c2 a0.m_.Young,nZ A3 n3 c3 a0.m_.Old,cx A4 n4 c4 a0.roots_,cx A5 n5 c5 a0.pending_,aL B6 247 [.map (some M7)],eY bS bU M7 a0.set_.at_]) (fun u post=>u=.agg #[iV r.Kind,iV r.N,.string r.S]∧post=[]):=by
 refine be Tryz.func95 J J ?_;simp only [aM];refine U ?_;refine gD (aF fH J) ?_;rintro _ _ ⟨B8,rfl,rfl⟩;refine U ?_;refine ax ?_;refine U ?_;obtain ⟨y9,hy9,h⟩:=aa h;refine gD (ak (dl hy9) pA J (hE (ai (i:=1) J J) (hE (ai (i:=2) J J) (hE (ai (i:=3) J J) (hE (ai (i:=4) J J) (hE (ai (i:=5) J J) (hE (ai (i:=6) J J) (hE (ai (i:=7) J J) ac))))))) cU) ?_;rintro _ _ ⟨_,⟨rfl,rfl⟩,rfl⟩;refine U ?_;obtain ⟨b10,hb10,h⟩:=aa h;refine aJ 3 10 b10 ?_ ?_
 ·clear h;refine aH 7 J (fun g10=> ?_) (fun g10=> ?_)
  ·have h:=ag g10 hb10;refine U ?_;obtain rfl:=am h;exact ae sA (cS [0,1,2,3,4,5,6,7] 8)
  have h:=ah g10 hb10;refine U ?_;obtain rfl:=am h;exact ae sA (cS [0,1,2,3,4,5,6,7] 8)
 refine U ?_;obtain ⟨b11,hb11,h⟩:=aa h;refine aJ 8 19 b11 ?_ ?_
 ·clear h;refine aH 11 J (fun g11=> ?_) (fun g11=> ?_)
  ·have h:=ag g11 hb11;refine U ?_;obtain rfl:=am h;exact ae sA (cS [0,1,2,3,4,5,6,7] 8)
  have h:=ah g11 hb11;refine U ?_;refine bH (bT 1 J J eC J) J (cB g11 J) J ?_;refine bH (bu 4 J aP J hN) J (cB g11 J) J ?_;refine U ?_;obtain rfl:=am h;exact ae sA (cS [0,1,2,3,4,5,6,7] 8)
 refine U ?_;refine aq J (fun g12=> ?_) (fun g12=> ?_)
 ·replace h:=ag g12 h;refine U ?_;refine gE (aY J (lc)) ?_;refine gO (ao (us:=[iV 0,iV 0,.string (⟨#[]⟩)]) (cs':=[iV 0,iV 0,.string (⟨#[]⟩)]) 0 J J J J ba J J J) ?_;rintro _ _ rfl;refine U ?_;obtain rfl:=am h;exact bJ (rs:=[.cell 4 30]) (vs:=[.agg #[iV 0,iV 0,.string (⟨#[]⟩)]]) J (.cons (bg 0 J J aC) .nil) J (cS [] 8) ⟨J,J⟩
 replace h:=ah g12 h;refine U ?_;refine gR (bT 1 J J eC J) ?_;refine U ?_;obtain ⟨x13,hx13,h⟩:=aa h;obtain ⟨lx13,ux13,hx13⟩:=aK hx13;refine gR (bi 4 J aP J J hN ba lx13 ux13) ?_;refine gR (bm (us:=[iV x13.Kind,iV x13.N,.string x13.S]) 4 J aP J hx13 aC (fun _ _ _ h=>by rw [show _=_ from h];rfl)) ?_;refine gO (ao (us:=[iV x13.Kind,iV x13.N,.string x13.S]) (cs':=[iV x13.Kind,iV x13.N,.string x13.S]) 0 J J J J ba J J J) ?_;rintro _ _ rfl;refine U ?_;obtain rfl:=am h;exact bJ (rs:=[.cell 4 30]) (vs:=[.agg #[iV x13.Kind,iV x13.N,.string x13.S]]) J (.cons (bg 0 J J aC) .nil) J (cS [] 8) ⟨J,J⟩
theorem eI {r:Ea}: ∀v post,((fun (u:Value) (post:List Chunk)=>u=.agg #[iV r.Kind,iV r.N,.string r.S]∧post=[])) v post→ ∀c∈post,bI c:=by
 rintro _ _ ⟨rfl,rfl⟩;exact ac
def ky (N:Nat){σ:Type}(fy:(Bool×Ea)→σ→Option (Bool×σ))(a1:DZ):Nat→Int→σ→Option σ
 |0,_,_=>none
 |m15+1,p16,p17=>bif decide (p16<(a1.More.length:Int)) then ((cm a1.More p16).bind fun x19=>(bif !decide (a1.Kind=8) then ((bif !decide (a1.Kind=10) then (some true) else (some (decide (p16.tmod 2=0)))).bind fun b22=>some b22) else (some false)).bind fun b21=>(fy (b21,x19) p17).bind fun y23=>bif !y23.1 then (some y23.2) else (dC (cg (p16+1)) ((ky N fy a1 m15) (p16+1) y23.2))) else (some p17)
def o4 (N:Nat){σ:Type}(fy:(Bool×Ea)→σ→Option (Bool×σ))(a1:DZ)(p5:σ):Option σ:=
 ky N fy a1 N 0 p5
def lL (N:Nat){σ:Type}(fy:(Bool×Ea)→σ→Option (Bool×σ))(a1:DZ):Nat→Int→σ→Option σ
 |0,_,_=>none
 |m6+1,p7,p8=>bif decide (p7<(a1.Slots.length:Int)) then ((cm a1.Slots p7).bind fun x10=>(fy (true,x10) p8).bind fun y12=>bif !y12.1 then (some y12.2) else (dC (cg (p7+1)) ((lL N fy a1 m6) (p7+1) y12.2))) else (o4 N fy a1 p8)
def mJ (N:Nat){σ:Type}(a1:DZ)(fy:(Bool×Ea)→σ→Option (Bool×σ))(s0:σ):Option σ:=
 lL N fy a1 N 0 s0
theorem o3 {N:Nat}{σ:Type}{a1:DZ}{fy:(Bool×Ea)→σ→Option (Bool×σ)}{s0:σ}{r:σ}(h:mJ N a1 fy s0=some r){l:Nat}{G:σ→List Chunk}(hY:nP Tryz.prog l G (fun x=> [.bool x.1,.agg #[iV x.2.Kind,iV x.2.N,.string x.2.S]]) fy):Okc Tryz.prog 238 [.func (.yield l) #[] #[],pV B1 0] (aL B1 138 [iV a1.Kind,iV a1.Shape,iV a1.Flags,iV a1.Age,I A2 n2 c2,I A3 n3 c3]::cx A2 n2 c2 a1.Slots::cx A3 n3 c3 a1.More::(G s0)) (fun u post=>u=.tuple #[]∧post=G r):=by
 refine be Tryz.func238 J J ?_;simp only [aM];refine aW (fun s L=> ∃p5,o4 N fy a1 p5=some r∧s=[(0,.func (.yield l) #[] #[]),(1,pV B1 0)]∧L=cx A2 n2 c2 a1.Slots::cx A3 n3 c3 a1.More::aL B1 138 [iV a1.Kind,iV a1.Shape,iV a1.Flags,iV a1.Age,I A2 n2 c2,I A3 n3 c3]::(G p5)) ?_ ?_
 ·refine U ?_;refine gR (bT 0 J J eC J) ?_;refine gR (bu 1 J aP J hN) ?_;refine U ?_;refine bV (fun m s L=> ∃p7 p8,lL N fy a1 m p7 p8=some r∧s=[(0,.func (.yield l) #[] #[]),(1,pV B1 0),(9,I A2 n2 c2),(10,iV (a1.Slots.length:Int)),(11,iV p7)]∧L=cx A2 n2 c2 a1.Slots::cx A3 n3 c3 a1.More::aL B1 138 [iV a1.Kind,iV a1.Shape,iV a1.Flags,iV a1.Age,I A2 n2 c2,I A3 n3 c3]::(G p8)) N _ _ ⟨0,s0,h,J,J⟩ sA (cS [1,2,0] 3) ?_;rintro (_|m6) _ _ ⟨p7,p8,h,rfl,rfl⟩
  ·exact bc h
  rw [lL.eq_2] at h;refine U ?_;refine ax ?_;refine aq J (fun g9=> ?_) (fun g9=> ?_)
  ·replace h:=ag g9 h;refine U ?_;refine ax ?_;refine U ?_;obtain ⟨x10,hx10,h⟩:=aa h;obtain ⟨lx10,ux10,hx10⟩:=aK hx10;refine gR (bi 0 J aP J J hN ba lx10 ux10) ?_;refine gR (bm (us:=[iV x10.Kind,iV x10.N,.string x10.S]) 0 J aP J hx10 aC (fun _ _ _ h=>by rw [show _=_ from h];rfl)) ?_;refine gD (aF fH J) ?_;rintro _ _ ⟨B11,rfl,rfl⟩;refine gO (ao (us:=[iV x10.Kind,iV x10.N,.string x10.S]) (cs':=[iV x10.Kind,iV x10.N,.string x10.S]) 0 J J J J ba J J J) ?_;rintro _ _ rfl;refine U ?_;refine gR (ab (us:=[iV x10.Kind,iV x10.N,.string x10.S]) 0 J J aC J) ?_;obtain ⟨y12,hy12,h⟩:=aa h;refine gD (ru (a:=(true,x10)) [ad B11 30 [iV x10.Kind,iV x10.N,.string x10.S],cx A2 n2 c2 a1.Slots,cx A3 n3 c3 a1.More,aL B1 138 [iV a1.Kind,iV a1.Shape,iV a1.Flags,iV a1.Age,I A2 n2 c2,I A3 n3 c3]] hY hy12 J J) ?_;rintro _ _ ⟨rfl,rfl⟩;refine U ?_;refine aq J (fun g13=> ?_) (fun g13=> ?_)
   ·replace h:=ag g13 h;refine U ?_;obtain rfl:=am h;exact xg J (cS [] 4) ⟨J,J⟩
   replace h:=ah g13 h;refine U ?_;obtain ⟨q14,h⟩:=aG h;refine gE (bO J J q14.1 q14.2) ?_;refine U ?_;exact ⟨m6,_,_,Eg _,⟨p7+1,y12.2,h,J,J⟩,sA,cS [1,2,3] 4⟩
  replace h:=ah g9 h;refine U ?_;exact ⟨_,_,⟨p8,h,J,J⟩,sA,cS [0,1,2] 3⟩
 rintro _ _ ⟨p5,h,rfl,rfl⟩;refine U ?_;refine gR (bT 2 J J eC J) ?_;refine gR (bu 1 J aP J hN) ?_;refine U ?_;refine bV (fun m s L=> ∃p16 p17,ky N fy a1 m p16 p17=some r∧s=[(0,.func (.yield l) #[] #[]),(1,pV B1 0),(21,I A3 n3 c3),(22,iV (a1.More.length:Int)),(23,iV p16)]∧L=cx A3 n3 c3 a1.More::cx A2 n2 c2 a1.Slots::aL B1 138 [iV a1.Kind,iV a1.Shape,iV a1.Flags,iV a1.Age,I A2 n2 c2,I A3 n3 c3]::(G p17)) N _ _ ⟨0,p5,h,J,J⟩ sA (cS [1,0,2] 3) ?_;rintro (_|m15) _ _ ⟨p16,p17,h,rfl,rfl⟩
 ·exact bc h
 rw [ky.eq_2] at h;refine U ?_;refine ax ?_;refine aq J (fun g18=> ?_) (fun g18=> ?_)
 ·replace h:=ag g18 h;refine U ?_;refine ax ?_;refine U ?_;obtain ⟨x19,hx19,h⟩:=aa h;obtain ⟨lx19,ux19,hx19⟩:=aK hx19;refine gR (bi 0 J aP J J hN ba lx19 ux19) ?_;refine gR (bm (us:=[iV x19.Kind,iV x19.N,.string x19.S]) 0 J aP J hx19 aC (fun _ _ _ h=>by rw [show _=_ from h];rfl)) ?_;refine gD (aF fH J) ?_;rintro _ _ ⟨B20,rfl,rfl⟩;refine U ?_;refine gO (ao (us:=[iV x19.Kind,iV x19.N,.string x19.S]) (cs':=[iV x19.Kind,iV x19.N,.string x19.S]) 0 J J J J ba J J J) ?_;rintro _ _ rfl;refine bA ?_;refine U ?_;refine gR (bT 3 J J cv J) ?_;refine U ?_;obtain ⟨b21,hb21,h⟩:=aa h;refine aJ 9 40 b21 ?_ ?_
  ·clear h;refine aH 31 J (fun g21=> ?_) (fun g21=> ?_)
   ·have h:=ag g21 hb21;refine U ?_;refine bH (bT 3 J J cv J) J (aX g21 J) J ?_;refine U ?_;obtain ⟨b22,hb22,h⟩:=aa h;refine aJ 4 39 b22 ?_ ?_
    ·clear h;refine aH 35 J (fun g22=> ?_) (fun g22=> ?_)
     ·have h:=ag g22 hb22;refine U ?_;obtain rfl:=am h;exact ae sA (cS [0,1,2,3] 4)
     have h:=ah g22 hb22;refine U ?_;refine iG (mB J J (by decide)) J (cB g22 J) J ?_;refine U ?_;obtain rfl:=am h;exact ae sA (cS [0,1,2,3] 4)
    refine U ?_;obtain rfl:=am h;exact ae sA (cS [0,1,2,3] 4)
   have h:=ah g21 hb21;refine U ?_;obtain rfl:=am h;exact ae sA (cS [0,1,2,3] 4)
  refine U ?_;refine gR (ab (us:=[iV x19.Kind,iV x19.N,.string x19.S]) 0 J J aC J) ?_;obtain ⟨y23,hy23,h⟩:=aa h;refine gD (ru (a:=(b21,x19)) [ad B20 30 [iV x19.Kind,iV x19.N,.string x19.S],cx A3 n3 c3 a1.More,cx A2 n2 c2 a1.Slots,aL B1 138 [iV a1.Kind,iV a1.Shape,iV a1.Flags,iV a1.Age,I A2 n2 c2,I A3 n3 c3]] hY hy23 J J) ?_;rintro _ _ ⟨rfl,rfl⟩;refine U ?_;refine aq J (fun g24=> ?_) (fun g24=> ?_)
  ·replace h:=ag g24 h;refine U ?_;obtain rfl:=am h;exact xg J (cS [] 4) ⟨J,J⟩
  replace h:=ah g24 h;refine U ?_;obtain ⟨q25,h⟩:=aG h;refine gE (bO J J q25.1 q25.2) ?_;refine U ?_;exact ⟨m15,_,_,Eg _,⟨p16+1,y23.2,h,J,J⟩,sA,cS [1,2,3] 4⟩
 replace h:=ah g18 h;refine U ?_;obtain rfl:=am h;exact eu J (cS [] 3) ⟨J,J⟩
def ql (N:Nat)(a0:DZ):Option Unit:=
 some ()
theorem r4 {N:Nat}{a0:DZ}{r:Unit}(h:ql N a0=some r):Okc Tryz.prog 225 [.agg #[iV a0.Kind,iV a0.Shape,iV a0.Flags,iV a0.Age,I A1 n1 c1,I A2 n2 c2]] ([cx A1 n1 c1 a0.Slots,cx A2 n2 c2 a0.More]) (fun u post=> ∃B900,u=.func (.func 238) #[] #[pV B900 0]∧post=[ad B900 138 [iV a0.Kind,iV a0.Shape,iV a0.Flags,iV a0.Age,I A1 n1 c1,I A2 n2 c2]]):=by
 refine be Tryz.func225 J J ?_;simp only [aM];refine U ?_;refine gD (aE J J) ?_;rintro _ _ ⟨B3,rfl,rfl⟩;refine U ?_;refine gE (oU J) ?_;refine U ?_;obtain rfl:=am h;exact aI J J (cS [0] 3) ⟨_,J,J⟩
theorem pU {a0:DZ}{A1:Option Addr}{n1:Nat}{c1:Nat}{A2:Option Addr}{n2:Nat}{c2:Nat}: ∀v post,((fun (u:Value) (post:List Chunk)=> ∃B900,u=.func (.func 238) #[] #[pV B900 0]∧post=[ad B900 138 [iV a0.Kind,iV a0.Shape,iV a0.Flags,iV a0.Age,I A1 n1 c1,I A2 n2 c2]])) v post→ ∀c∈post,bI c:=by
 rintro _ _ ⟨_,rfl,rfl⟩;exact hE oP (ac)
def mm (N:Nat)(a0:Ea)(p10:Bool):Option Bool:=
 bif p10 then (some (decide (1≤a0.N))) else ((bif decide (a0.N=0) then (some (decide (0≤a0.Kind))) else (some false)).bind fun b14=>(bif b14 then (some (decide (a0.Kind≤9))) else (some false)).bind fun b15=>some b15)
def tG (N:Nat)(a0:Ea):Option Bool:=
 bif decide (a0.Kind=5) then ((bif decide (a0.N=0) then (some (decide ((a0.S.size:Int)≤65536))) else (some false)).bind fun b3=>some b3) else (bif !(a0.S.toList==(⟨#[]⟩:ByteArray).toList) then (some false) else (bif decide (a0.Kind=2) then ((bif decide (a0.N=0) then (some true) else (some (decide (a0.N=1)))).bind fun b6=>some b6) else (bif decide (a0.Kind=3) then ((bif decide ((-9007199254740992)≤a0.N) then (some (decide (a0.N≤9007199254740992))) else (some false)).bind fun b8=>some b8) else (bif decide (a0.Kind=6) then (mm N a0 (decide (a0.Kind=6))) else (bif decide (a0.Kind=7) then (mm N a0 (decide (a0.Kind=7))) else (mm N a0 (decide (a0.Kind=9))))))))
theorem vZ {N:Nat}{a0:Ea}{r:Bool}(h:tG N a0=some r):Okc Tryz.prog 226 [.agg #[iV a0.Kind,iV a0.N,.string a0.S]] ([]) (fun u post=>u=.bool r∧post=[]):=by
 refine be Tryz.func226 J J ?_;simp only [aM];refine U ?_;refine gD (aE J J) ?_;rintro _ _ ⟨B1,rfl,rfl⟩;refine U ?_;refine ax ?_;refine U ?_;refine aq J (fun g2=> ?_) (fun g2=> ?_)
 ·replace h:=ag g2 h;refine U ?_;obtain ⟨b3,hb3,h⟩:=aa h;refine aJ 5 14 b3 ?_ ?_
  ·clear h;refine aH 9 J (fun g3=> ?_) (fun g3=> ?_)
   ·have h:=ag g3 hb3;refine U ?_;refine iG (qP J hO) J (aX g3 J) J ?_;refine U ?_;obtain rfl:=am h;exact ae sA (cS [0] 1)
   have h:=ah g3 hb3;refine U ?_;obtain rfl:=am h;exact ae sA (cS [0] 1)
  refine U ?_;obtain rfl:=am h;exact aI J J (cS [] 1) ⟨J,J⟩
 replace h:=ah g2 h;refine U ?_;refine ax ?_;refine U ?_;refine gE (ze J J) ?_;refine U ?_;refine aq J (fun g4=> ?_) (fun g4=> ?_)
 ·replace h:=ag g4 h;refine U ?_;obtain rfl:=am h;exact aI J J (cS [] 1) ⟨J,J⟩
 replace h:=ah g4 h;refine U ?_;refine ax ?_;refine U ?_;refine aq J (fun g5=> ?_) (fun g5=> ?_)
 ·replace h:=ag g5 h;refine U ?_;obtain ⟨b6,hb6,h⟩:=aa h;refine aJ 4 29 b6 ?_ ?_
  ·clear h;refine aH 25 J (fun g6=> ?_) (fun g6=> ?_)
   ·have h:=ag g6 hb6;refine U ?_;obtain rfl:=am h;exact ae sA (cS [0] 1)
   have h:=ah g6 hb6;refine U ?_;obtain rfl:=am h;exact ae sA (cS [0] 1)
  refine U ?_;obtain rfl:=am h;exact aI J J (cS [] 1) ⟨J,J⟩
 replace h:=ah g5 h;refine U ?_;refine aq J (fun g7=> ?_) (fun g7=> ?_)
 ·replace h:=ag g7 h;refine U ?_;obtain ⟨b8,hb8,h⟩:=aa h;refine aJ 4 39 b8 ?_ ?_
  ·clear h;refine aH 35 J (fun g8=> ?_) (fun g8=> ?_)
   ·have h:=ag g8 hb8;refine U ?_;obtain rfl:=am h;exact ae sA (cS [0] 1)
   have h:=ah g8 hb8;refine U ?_;obtain rfl:=am h;exact ae sA (cS [0] 1)
  refine U ?_;obtain rfl:=am h;exact aI J J (cS [] 1) ⟨J,J⟩
 replace h:=ah g7 h;refine aW (fun s L=> ∃p10,mm N a0 p10=some r∧s=[(1,pV B1 0),(2,.bool false),(40,.bool p10)]∧L=[ad B1 30 [iV a0.Kind,iV a0.N,.string a0.S]]) ?_ ?_
 ·refine U ?_;refine aq J (fun g11=> ?_) (fun g11=> ?_)
  ·replace h:=ag g11 h;refine U ?_;exact ⟨_,_,⟨decide (a0.Kind=6),h,J,J⟩,sA,cS [0] 1⟩
  replace h:=ah g11 h;refine U ?_;refine aq J (fun g12=> ?_) (fun g12=> ?_)
  ·replace h:=ag g12 h;refine U ?_;exact ⟨_,_,⟨decide (a0.Kind=7),h,J,J⟩,sA,cS [0] 1⟩
  replace h:=ah g12 h;refine U ?_;exact ⟨_,_,⟨decide (a0.Kind=9),h,J,J⟩,sA,cS [0] 1⟩
 rintro _ _ ⟨p10,h,rfl,rfl⟩;refine aq J (fun g13=> ?_) (fun g13=> ?_)
 ·replace h:=ag g13 h;refine U ?_;obtain rfl:=am h;exact aI J J (cS [] 1) ⟨J,J⟩
 replace h:=ah g13 h;refine U ?_;obtain ⟨b14,hb14,h⟩:=aa h;refine aJ 4 54 b14 ?_ ?_
 ·clear h;refine aH 50 J (fun g14=> ?_) (fun g14=> ?_)
  ·have h:=ag g14 hb14;refine U ?_;obtain rfl:=am h;exact ae sA (cS [0] 1)
  have h:=ah g14 hb14;refine U ?_;obtain rfl:=am h;exact ae sA (cS [0] 1)
 refine U ?_;obtain ⟨b15,hb15,h⟩:=aa h;refine aJ 4 59 b15 ?_ ?_
 ·clear h;refine aH 55 J (fun g15=> ?_) (fun g15=> ?_)
  ·have h:=ag g15 hb15;refine U ?_;obtain rfl:=am h;exact ae sA (cS [0] 1)
  have h:=ah g15 hb15;refine U ?_;obtain rfl:=am h;exact ae sA (cS [0] 1)
 refine U ?_;obtain rfl:=am h;exact aI J J (cS [] 1) ⟨J,J⟩
theorem t4 {r:Bool}: ∀v post,((fun (u:Value) (post:List Chunk)=>u=.bool r∧post=[])) v post→ ∀c∈post,bI c:=by
 rintro _ _ ⟨rfl,rfl⟩;exact ac
def fe (N:Nat)(p2:Bool):Option Bool:=
 bif p2 then (some true) else (some false)
def tH (N:Nat)(a0:Int):Option Bool:=
 bif decide (a0=1) then (fe N (decide (a0=1))) else (bif decide (a0=2) then (fe N (decide (a0=2))) else (bif decide (a0=3) then (fe N (decide (a0=3))) else (bif decide (a0=6) then (fe N (decide (a0=6))) else (bif decide (a0=8) then (fe N (decide (a0=8))) else (bif decide (a0=9) then (fe N (decide (a0=9))) else (fe N (decide (a0=10))))))))
theorem wa {N:Nat}{a0:Int}{r:Bool}(h:tH N a0=some r):Okc Tryz.prog 239 [iV a0] ([]) (fun u post=>u=.bool r∧post=[]):=by
 refine be Tryz.func239 J J ?_;simp only [aM];refine U ?_;refine ax ?_;refine U ?_;refine aW (fun s L=> ∃p2,fe N p2=some r∧s=[(2,.bool false),(4,.bool p2)]∧L=[]) ?_ ?_
 ·refine U ?_;refine aq J (fun g3=> ?_) (fun g3=> ?_)
  ·replace h:=ag g3 h;refine U ?_;exact ⟨_,_,⟨decide (a0=1),h,J,J⟩,sA,cS [] 0⟩
  replace h:=ah g3 h;refine U ?_;refine aq J (fun g4=> ?_) (fun g4=> ?_)
  ·replace h:=ag g4 h;refine U ?_;exact ⟨_,_,⟨decide (a0=2),h,J,J⟩,sA,cS [] 0⟩
  replace h:=ah g4 h;refine U ?_;refine aq J (fun g5=> ?_) (fun g5=> ?_)
  ·replace h:=ag g5 h;refine U ?_;exact ⟨_,_,⟨decide (a0=3),h,J,J⟩,sA,cS [] 0⟩
  replace h:=ah g5 h;refine U ?_;refine aq J (fun g6=> ?_) (fun g6=> ?_)
  ·replace h:=ag g6 h;refine U ?_;exact ⟨_,_,⟨decide (a0=6),h,J,J⟩,sA,cS [] 0⟩
  replace h:=ah g6 h;refine U ?_;refine aq J (fun g7=> ?_) (fun g7=> ?_)
  ·replace h:=ag g7 h;refine U ?_;exact ⟨_,_,⟨decide (a0=8),h,J,J⟩,sA,cS [] 0⟩
  replace h:=ah g7 h;refine U ?_;refine aq J (fun g8=> ?_) (fun g8=> ?_)
  ·replace h:=ag g8 h;refine U ?_;exact ⟨_,_,⟨decide (a0=9),h,J,J⟩,sA,cS [] 0⟩
  replace h:=ah g8 h;refine U ?_;exact ⟨_,_,⟨decide (a0=10),h,J,J⟩,sA,cS [] 0⟩
 rintro _ _ ⟨p2,h,rfl,rfl⟩;refine aq J (fun g9=> ?_) (fun g9=> ?_)
 ·replace h:=ag g9 h;refine U ?_;obtain rfl:=am h;exact aI J J (cS [] 0) ⟨J,J⟩
 replace h:=ah g9 h;refine U ?_;obtain rfl:=am h;exact aI J J (cS [] 0) ⟨J,J⟩
theorem t6 {r:Bool}: ∀v post,((fun (u:Value) (post:List Chunk)=>u=.bool r∧post=[])) v post→ ∀c∈post,bI c:=by
 rintro _ _ ⟨rfl,rfl⟩;exact ac
def eA (N:Nat)(a0:Ea)(a1:Int):Option Bool:=
 (bif decide (a0.Kind=0) then (some true) else (some (decide (a0.Kind=a1)))).bind fun b2=>some b2
theorem eS {N:Nat}{a0:Ea}{a1:Int}{r:Bool}(h:eA N a0 a1=some r):Okc Tryz.prog 240 [.agg #[iV a0.Kind,iV a0.N,.string a0.S],iV a1] ([]) (fun u post=>u=.bool r∧post=[]):=by
 refine be Tryz.func240 J J ?_;simp only [aM];refine U ?_;refine gD (aE J J) ?_;rintro _ _ ⟨B1,rfl,rfl⟩;refine U ?_;obtain ⟨b2,hb2,h⟩:=aa h;refine aJ 5 13 b2 ?_ ?_
 ·clear h;refine aH 8 J (fun g2=> ?_) (fun g2=> ?_)
  ·have h:=ag g2 hb2;refine U ?_;obtain rfl:=am h;exact ae sA (cS [0] 1)
  have h:=ah g2 hb2;refine U ?_;obtain rfl:=am h;exact ae sA (cS [0] 1)
 refine U ?_;obtain rfl:=am h;exact aI J J (cS [] 1) ⟨J,J⟩
theorem d4 {r:Bool}: ∀v post,((fun (u:Value) (post:List Chunk)=>u=.bool r∧post=[])) v post→ ∀c∈post,bI c:=by
 rintro _ _ ⟨rfl,rfl⟩;exact ac
def ml (N:Nat)(a0:DZ):Option Bool:=
 (tH N a0.Kind).bind fun y4=>(bif y4 then (some true) else ((bif decide (a0.Kind=7) then (some (decide (0<(a0.Slots.length:Int)))) else (some false)).bind fun b6=>some b6)).bind fun b5=>bif b5 then ((bif decide (1≤(a0.Slots.length:Int)) then (some (decide ((a0.Slots.length:Int)≤1025))) else (some false)).bind fun b8=>(bif b8 then ((cm a0.Slots 0).bind fun x10=>(bif decide (x10.Kind=1) then (some true) else ((cm a0.Slots 0).bind fun x12=>some (decide (x12.Kind=7)))).bind fun b11=>some b11) else (some false)).bind fun b9=>some b9) else (bif decide (a0.Kind=7) then (some (decide (a0.Shape=0))) else ((bif !decide (a0.Shape=0) then (some true) else (some (!decide (a0.Flags=0)))).bind fun b14=>bif b14 then (some false) else (bif decide (a0.Kind=5) then ((bif decide ((a0.Slots.length:Int)=2) then ((cm a0.Slots 0).bind fun x18=>(eA N x18 7).bind fun y19=>some y19) else (some false)).bind fun b17=>(bif b17 then ((cm a0.Slots 1).bind fun x21=>(eA N x21 7).bind fun y22=>some y22) else (some false)).bind fun b20=>some b20) else (some (decide ((a0.Slots.length:Int)=0))))))
theorem qk {N:Nat}{a0:DZ}{r:Bool}(h:ml N a0=some r):Okc Tryz.prog 227 [.agg #[iV a0.Kind,iV a0.Shape,iV a0.Flags,iV a0.Age,I A1 n1 c1,I A2 n2 c2]] ([cx A1 n1 c1 a0.Slots,cx A2 n2 c2 a0.More]) (fun u post=>u=.bool r∧post=[]):=by
 refine be Tryz.func227 J J ?_;simp only [aM];refine U ?_;refine gD (aE J J) ?_;rintro _ _ ⟨B3,rfl,rfl⟩;refine U ?_;refine ax ?_;refine U ?_;obtain ⟨y4,hy4,h⟩:=aa h;refine gD (ak (wa hy4) AL J (ac) t6) ?_;rintro _ _ ⟨_,⟨rfl,rfl⟩,rfl⟩;refine U ?_;obtain ⟨b5,hb5,h⟩:=aa h;refine aJ 10 16 b5 ?_ ?_
 ·clear h;refine aH 6 J (fun g5=> ?_) (fun g5=> ?_)
  ·have h:=ag g5 hb5;refine U ?_;obtain rfl:=am h;exact ae sA (cS [0,1,2] 3)
  have h:=ah g5 hb5;refine U ?_;obtain ⟨b6,hb6,h⟩:=aa h;refine aJ 5 15 b6 ?_ ?_
  ·clear h;refine aH 10 J (fun g6=> ?_) (fun g6=> ?_)
   ·have h:=ag g6 hb6;refine U ?_;refine bH (bu 1 J aP J hN) J (aX g6 J) J ?_;refine U ?_;obtain rfl:=am h;exact ae sA (cS [0,1,2] 3)
   have h:=ah g6 hb6;refine U ?_;obtain rfl:=am h;exact ae sA (cS [0,1,2] 3)
  refine U ?_;obtain rfl:=am h;exact ae sA (cS [0,1,2] 3)
 refine U ?_;refine aq J (fun g7=> ?_) (fun g7=> ?_)
 ·replace h:=ag g7 h;refine U ?_;refine gR (bu 1 J aP J hN) ?_;refine U ?_;obtain ⟨b8,hb8,h⟩:=aa h;refine aJ 5 26 b8 ?_ ?_
  ·clear h;refine aH 21 J (fun g8=> ?_) (fun g8=> ?_)
   ·have h:=ag g8 hb8;refine U ?_;refine bH (bu 1 J aP J hN) J (aX g8 J) J ?_;refine U ?_;obtain rfl:=am h;exact ae sA (cS [0,1,2] 3)
   have h:=ah g8 hb8;refine U ?_;obtain rfl:=am h;exact ae sA (cS [0,1,2] 3)
  refine U ?_;obtain ⟨b9,hb9,h⟩:=aa h;refine aJ 15 42 b9 ?_ ?_
  ·clear h;refine aH 27 J (fun g9=> ?_) (fun g9=> ?_)
   ·have h:=ag g9 hb9;refine U ?_;obtain ⟨x10,hx10,h⟩:=aa h;obtain ⟨lx10,ux10,hx10⟩:=aK hx10;refine bH (bi 1 J aP J J hN ba lx10 ux10) J (aX g9 J) J ?_;refine bH (nA 1 J aP J (bf lx10 ux10) kW) J (aX g9 J) J ?_;refine bH (dp (u:=iV x10.Kind) 1 J aP J hx10 cv (fun _ _ _ h=>by rw [show _=_ from h];rfl)) J (aX g9 J) J ?_;refine U ?_;obtain ⟨b11,hb11,h⟩:=aa h;refine aJ 7 41 b11 ?_ ?_
    ·clear h;refine aH 34 J (fun g11=> ?_) (fun g11=> ?_)
     ·have h:=ag g11 hb11;refine U ?_;obtain rfl:=am h;exact ae sA (cS [0,1,2] 3)
     have h:=ah g11 hb11;refine U ?_;obtain ⟨x12,hx12,h⟩:=aa h;obtain ⟨lx12,ux12,hx12⟩:=aK hx12;refine bH (bi 1 J aP J J hN ba lx12 ux12) J (cB g11 J) J ?_;refine bH (nA 1 J aP J (bf lx12 ux12) kW) J (cB g11 J) J ?_;refine bH (dp (u:=iV x12.Kind) 1 J aP J hx12 cv (fun _ _ _ h=>by rw [show _=_ from h];rfl)) J (cB g11 J) J ?_;refine U ?_;obtain rfl:=am h;exact ae sA (cS [0,1,2] 3)
    refine U ?_;obtain rfl:=am h;exact ae sA (cS [0,1,2] 3)
   have h:=ah g9 hb9;refine U ?_;obtain rfl:=am h;exact ae sA (cS [0,1,2] 3)
  refine U ?_;obtain rfl:=am h;exact aI J J (cS [] 3) ⟨J,J⟩
 replace h:=ah g7 h;refine U ?_;refine ax ?_;refine U ?_;refine aq J (fun g13=> ?_) (fun g13=> ?_)
 ·replace h:=ag g13 h;refine U ?_;obtain rfl:=am h;exact aI J J (cS [] 3) ⟨J,J⟩
 replace h:=ah g13 h;refine U ?_;refine ax ?_;refine U ?_;obtain ⟨b14,hb14,h⟩:=aa h;refine aJ 4 56 b14 ?_ ?_
 ·clear h;refine aH 52 J (fun g14=> ?_) (fun g14=> ?_)
  ·have h:=ag g14 hb14;refine U ?_;obtain rfl:=am h;exact ae sA (cS [0,1,2] 3)
  have h:=ah g14 hb14;refine U ?_;obtain rfl:=am h;exact ae sA (cS [0,1,2] 3)
 refine U ?_;refine aq J (fun g15=> ?_) (fun g15=> ?_)
 ·replace h:=ag g15 h;refine U ?_;obtain rfl:=am h;exact aI J J (cS [] 3) ⟨J,J⟩
 replace h:=ah g15 h;refine U ?_;refine ax ?_;refine U ?_;refine aq J (fun g16=> ?_) (fun g16=> ?_)
 ·replace h:=ag g16 h;refine U ?_;refine gR (bu 1 J aP J hN) ?_;refine U ?_;obtain ⟨b17,hb17,h⟩:=aa h;refine aJ 6 70 b17 ?_ ?_
  ·clear h;refine aH 64 J (fun g17=> ?_) (fun g17=> ?_)
   ·have h:=ag g17 hb17;refine U ?_;obtain ⟨x18,hx18,h⟩:=aa h;obtain ⟨lx18,ux18,hx18⟩:=aK hx18;refine bH (bi 1 J aP J J hN ba lx18 ux18) J (aX g17 J) J ?_;refine bH (bm (us:=[iV x18.Kind,iV x18.N,.string x18.S]) 1 J aP J hx18 aC (fun _ _ _ h=>by rw [show _=_ from h];rfl)) J (aX g17 J) J ?_;obtain ⟨y19,hy19,h⟩:=aa h;refine bX (ak (eS hy19) pw J (ac) d4) J (aX g17 J) J ?_;rintro _ _ ⟨_,⟨rfl,rfl⟩,rfl⟩;refine U ?_;obtain rfl:=am h;exact ae sA (cS [0,1,2] 3)
   have h:=ah g17 hb17;refine U ?_;obtain rfl:=am h;exact ae sA (cS [0,1,2] 3)
  refine U ?_;obtain ⟨b20,hb20,h⟩:=aa h;refine aJ 6 77 b20 ?_ ?_
  ·clear h;refine aH 71 J (fun g20=> ?_) (fun g20=> ?_)
   ·have h:=ag g20 hb20;refine U ?_;obtain ⟨x21,hx21,h⟩:=aa h;obtain ⟨lx21,ux21,hx21⟩:=aK hx21;refine bH (bi 1 J aP J J hN ba lx21 ux21) J (aX g20 J) J ?_;refine bH (bm (us:=[iV x21.Kind,iV x21.N,.string x21.S]) 1 J aP J hx21 aC (fun _ _ _ h=>by rw [show _=_ from h];rfl)) J (aX g20 J) J ?_;obtain ⟨y22,hy22,h⟩:=aa h;refine bX (ak (eS hy22) pw J (ac) d4) J (aX g20 J) J ?_;rintro _ _ ⟨_,⟨rfl,rfl⟩,rfl⟩;refine U ?_;obtain rfl:=am h;exact ae sA (cS [0,1,2] 3)
   have h:=ah g20 hb20;refine U ?_;obtain rfl:=am h;exact ae sA (cS [0,1,2] 3)
  refine U ?_;obtain rfl:=am h;exact aI J J (cS [] 3) ⟨J,J⟩
 replace h:=ah g16 h;refine U ?_;refine gR (bu 1 J aP J hN) ?_;refine U ?_;obtain rfl:=am h;exact aI J J (cS [] 3) ⟨J,J⟩
theorem o1 {r:Bool}: ∀v post,((fun (u:Value) (post:List Chunk)=>u=.bool r∧post=[])) v post→ ∀c∈post,bI c:=by
 rintro _ _ ⟨rfl,rfl⟩;exact ac
def eB (N:Nat)(a0:Ea)(a1:Int)(a2:Int):Option Bool:=
 (bif decide (a0.Kind=3) then (some (decide (a1≤a0.N))) else (some false)).bind fun b2=>(bif b2 then (some (decide (a0.N≤a2))) else (some false)).bind fun b3=>some b3
theorem eT {N:Nat}{a0:Ea}{a1:Int}{a2:Int}{r:Bool}(h:eB N a0 a1 a2=some r):Okc Tryz.prog 241 [.agg #[iV a0.Kind,iV a0.N,.string a0.S],iV a1,iV a2] ([]) (fun u post=>u=.bool r∧post=[]):=by
 refine be Tryz.func241 J J ?_;simp only [aM];refine U ?_;refine gD (aE J J) ?_;rintro _ _ ⟨B1,rfl,rfl⟩;refine U ?_;obtain ⟨b2,hb2,h⟩:=aa h;refine aJ 5 15 b2 ?_ ?_
 ·clear h;refine aH 10 J (fun g2=> ?_) (fun g2=> ?_)
  ·have h:=ag g2 hb2;refine U ?_;obtain rfl:=am h;exact ae sA (cS [0] 1)
  have h:=ah g2 hb2;refine U ?_;obtain rfl:=am h;exact ae sA (cS [0] 1)
 refine U ?_;obtain ⟨b3,hb3,h⟩:=aa h;refine aJ 5 21 b3 ?_ ?_
 ·clear h;refine aH 16 J (fun g3=> ?_) (fun g3=> ?_)
  ·have h:=ag g3 hb3;refine U ?_;obtain rfl:=am h;exact ae sA (cS [0] 1)
  have h:=ah g3 hb3;refine U ?_;obtain rfl:=am h;exact ae sA (cS [0] 1)
 refine U ?_;obtain rfl:=am h;exact aI J J (cS [] 1) ⟨J,J⟩
theorem d5 {r:Bool}: ∀v post,((fun (u:Value) (post:List Chunk)=>u=.bool r∧post=[])) v post→ ∀c∈post,bI c:=by
 rintro _ _ ⟨rfl,rfl⟩;exact ac
def ke (N:Nat){σ:Type}(fy:(List Ea)→σ→Option (Bool×σ))(a1:(List Ea))(a2:Int):Nat→Int→σ→Option σ
 |0,_,_=>none
 |m4+1,p5,p6=>bif decide (p5<(a1.length:Int)) then (dC ((0:Int)≤p5∧p5.toNat≤a1.length∧a1.length≤a1.length) (dC (cg (p5+(min a2 (((a1.drop p5.toNat).take (a1.length - p5.toNat)).length:Int)))) (dC (cg (p5+(min a2 (((a1.drop p5.toNat).take (a1.length - p5.toNat)).length:Int)))) (dC ((0:Int)≤p5∧(0:Int)≤p5+(min a2 (((a1.drop p5.toNat).take (a1.length - p5.toNat)).length:Int))∧p5.toNat≤(p5+(min a2 (((a1.drop p5.toNat).take (a1.length - p5.toNat)).length:Int))).toNat∧(p5+(min a2 (((a1.drop p5.toNat).take (a1.length - p5.toNat)).length:Int))).toNat≤a1.length) ((fy ((a1.drop p5.toNat).take ((p5+(min a2 (((a1.drop p5.toNat).take (a1.length - p5.toNat)).length:Int))).toNat - p5.toNat)) p6).bind fun y14=>bif !y14.1 then (some y14.2) else (dC (cg (p5+a2)) ((ke N fy a1 a2 m4) (p5+a2) y14.2))))))) else (some p6)
def ox (N:Nat){σ:Type}(a1:(List Ea))(a2:Int)(fy:(List Ea)→σ→Option (Bool×σ))(s0:σ):Option σ:=
 ke N fy a1 a2 N 0 s0
theorem r9 {N:Nat}{σ:Type}{a1:(List Ea)}{a2:Int}{fy:(List Ea)→σ→Option (Bool×σ)}{s0:σ}{r:σ}(h:ox N a1 a2 fy s0=some r){l:Nat}{G:σ→List Chunk}(hY:ph Tryz.prog l G (fun (x:(List Ea)) vs cs=> ∃A0 n0 c0,vs=[I A0 n0 c0]∧cs=[cx A0 n0 c0 x]) fy):Okc Tryz.prog 262 [.func (.yield l) #[] #[],pV B1 0,pV B3 0] (aL B1 38 [I A2 n2 c2]::cx A2 n2 c2 a1::aL B3 3 [iV a2]::(G s0)) (fun u post=>u=.tuple #[]∧post=G r):=by
 refine be Tryz.func262 J J ?_;simp only [aM];refine U ?_;refine bV (fun m s L=> ∃p5 p6,ke N fy a1 a2 m p5 p6=some r∧s=[(0,.func (.yield l) #[] #[]),(1,pV B1 0),(2,pV B3 0),(4,iV p5)]∧L=cx A2 n2 c2 a1::aL B1 38 [I A2 n2 c2]::aL B3 3 [iV a2]::(G p6)) N _ _ ⟨0,s0,h,J,J⟩ sA (cS [1,0,2] 3) ?_;rintro (_|m4) _ _ ⟨p5,p6,h,rfl,rfl⟩
 ·exact bc h
 rw [ke.eq_2] at h;refine ax ?_;refine U ?_;refine gR (bT 1 J J eC J) ?_;refine gR (bu 0 J aP J hN) ?_;refine U ?_;refine aq J (fun g7=> ?_) (fun g7=> ?_)
 ·replace h:=ag g7 h;refine U ?_;refine ax ?_;refine f5 ?_;refine ax ?_;refine bq O _ (aj _) ?_;refine zR 0 J (bT 2 J J cv J) ?_;refine zR 1 J (bT 1 J J eC J) ?_;refine zE 2 J (aw J) ?_;obtain ⟨q8,h⟩:=aG h;refine zH 0 J (l:=p5.toNat) (h:=a1.length) q8.2.1 q8.2.2 ?_;rintro A9 n9 c9 e9;refine zR 3 J (sv 1 J e9 J hN ba J (by rw [Int.toNat_of_nonneg q8.1];rfl) q8.2.1) ?_;refine zR 4 J (bu 0 J aP J hN) ?_;refine zE 5 J (BV J J hP hP) ?_;refine zE 6 J (aT J) ?_;refine bh O ?_;refine U ?_;refine gR (bT 2 J J eC J) ?_;refine U ?_;obtain ⟨q10,h⟩:=aG h;refine gE (bO J J q10.1 q10.2) ?_;refine U ?_;obtain ⟨q11,h⟩:=aG h;refine gE (bO J J q11.1 q11.2) ?_;obtain ⟨q12,h⟩:=aG h;refine Cy 1 J (l:=p5.toNat) (h:=(p5+(min a2 (((a1.drop p5.toNat).take (a1.length - p5.toNat)).length:Int))).toNat) q12.2.2.1 q12.2.2.2 ?_;rintro A13 n13 c13 e13;refine gR (z8 2 J e13 J hN ba J (by rw [Int.toNat_of_nonneg q12.1];rfl) (by rw [Int.toNat_of_nonneg q12.2.1];rfl) (by rw [Int.toNat_of_nonneg q12.2.1];rfl) q12.2.2.1 q12.2.2.2) ?_;obtain ⟨y14,hy14,h⟩:=aa h
  refine gD (yb (a:=(a1.drop p5.toNat).take ((p5+(min a2 (((a1.drop p5.toNat).take (a1.length - p5.toNat)).length:Int))).toNat - p5.toNat)) [cx A13 n13 c13 ((a1.drop p5.toNat).take ((p5+(min a2 (((a1.drop p5.toNat).take (a1.length - p5.toNat)).length:Int))).toNat - p5.toNat)),cx A9 n9 c9 ((a1.drop p5.toNat).take (a1.length - p5.toNat)),cx A2 n2 c2 a1,aL B1 38 [I A2 n2 c2],aL B3 3 [iV a2]] hY hy14 J J ⟨_,_,_,J,J⟩ (Cb 0 J J)) ?_;rintro _ _ ⟨rfl,rfl⟩;refine U ?_;refine aq J (fun g15=> ?_) (fun g15=> ?_)
  ·replace h:=ag g15 h;refine U ?_;obtain rfl:=am h;exact xg J (cS [] 5) ⟨J,J⟩
  replace h:=ah g15 h;refine U ?_;refine gR (bT 4 J J cv J) ?_;obtain ⟨q16,h⟩:=aG h;refine gE (bO J J q16.1 q16.2) ?_;refine U ?_;exact ⟨m4,_,_,Eg _,⟨p5+a2,y14.2,h,J,J⟩,sA,cS [2,3,4] 5⟩
 replace h:=ah g7 h;refine U ?_;obtain rfl:=am h;exact eu J (cS [] 3) ⟨J,J⟩
def ln (N:Nat)(a0:(List Ea))(a1:Int):Option Unit:=
 bif decide (a1<1) then none else (some ())
theorem pE {N:Nat}{a0:(List Ea)}{a1:Int}{r:Unit}(h:ln N a0 a1=some r):Okc Tryz.prog 253 [I A1 n1 c1,iV a1] ([cx A1 n1 c1 a0]) (fun u post=> ∃B900 B901,u=.func (.func 262) #[] #[pV B900 0,pV B901 0]∧post=[ad B900 38 [I A1 n1 c1],ad B901 3 [iV a1]]):=by
 refine be Tryz.func253 J J ?_;simp only [aM];refine U ?_;refine gD (aE J J) ?_;rintro _ _ ⟨B2,rfl,rfl⟩;refine gD (aE J J) ?_;rintro _ _ ⟨B3,rfl,rfl⟩;refine U ?_;refine ax ?_;refine U ?_;refine aq J (fun g4=> ?_) (fun g4=> ?_)
 ·replace h:=ag g4 h;exact bc h
 replace h:=ah g4 h;refine U ?_;refine gE (oU J) ?_;refine U ?_;obtain rfl:=am h;exact aI J J (cS [1,0] 3) ⟨_,_,J,J⟩
theorem om {a1:Int}{A1:Option Addr}{n1:Nat}{c1:Nat}: ∀v post,((fun (u:Value) (post:List Chunk)=> ∃B900 B901,u=.func (.func 262) #[] #[pV B900 0,pV B901 0]∧post=[ad B900 38 [I A1 n1 c1],ad B901 3 [iV a1]])) v post→ ∀c∈post,bI c:=by
 rintro _ _ ⟨_,_,rfl,rfl⟩;exact hE oP (hE oP (ac))
def gp (N:Nat)(a1:Int)(x9:(List Ea)):(Unit)→Option (Option Exit×Unit)
 |()=>(cm x9 0).bind fun x12=>(bif !decide (x12.Kind=7) then (some true) else ((cm x9 1).bind fun x14=>some (decide (x14.Kind=8)))).bind fun b13=>bif b13 then (some (some .ret,())) else ((bif decide (a1=4) then ((cm x9 2).bind fun x17=>(eA N x17 7).bind fun y18=>(bif !y18 then (some true) else ((cm x9 3).bind fun x20=>(eB N x20 0 9007199254740992).bind fun y21=>some (!y21))).bind fun b19=>some b19) else (some false)).bind fun b16=>bif b16 then (some (some .ret,())) else (some (none,())))
def gM (N:Nat)(a0:(List Ea))(a1:Int):Option Bool:=
 dC (a1≠0) (bif !decide ((a0.length:Int).tmod a1=0) then (some false) else ((ln N a0 a1).bind fun y6=>(ox N a0 a1 (na (fun x st=>gp N a1 x st)) (none,())).bind fun y11=>tJ y11.1 (some true) (some false) (fun _=>none)))
theorem ka {N:Nat}{a0:(List Ea)}{a1:Int}{r:Bool}(h:gM N a0 a1=some r):Okc Tryz.prog 242 [I A1 n1 c1,iV a1] ([cx A1 n1 c1 a0]) (fun u post=>u=.bool r∧post=[]):=by
 refine be Tryz.func242 J J ?_;simp only [aM];refine U ?_;refine gD (aE J J) ?_;rintro _ _ ⟨B2,rfl,rfl⟩;refine gD (aF Bw J) ?_;rintro _ _ ⟨B3,rfl,rfl⟩;refine U ?_;refine ax ?_;refine U ?_;refine gR (bu 2 J aP J hN) ?_;refine U ?_;obtain ⟨q4,h⟩:=aG h;refine gE (mB J J q4) ?_;refine U ?_;refine aq J (fun g5=> ?_) (fun g5=> ?_)
 ·replace h:=ag g5 h;refine U ?_;refine gO (ao (us:=[.bool false]) (cs':=[.bool false]) 0 J J J J sQ J J J) ?_;rintro _ _ rfl;refine U ?_;obtain rfl:=am h;exact bJ (rs:=[.cell 4 4]) (vs:=[.bool false]) J (.cons (pn 0 J J ws) .nil) J (cS [] 3) ⟨J,J⟩
 replace h:=ah g5 h;refine U ?_;refine ax ?_;refine U ?_;obtain ⟨y6,hy6,h⟩:=aa h;refine gD (ak (pE hy6) AH J (hE (ai (i:=2) J J) ac) om) ?_;rintro _ _ ⟨_,⟨B7,B8,rfl,rfl⟩,rfl⟩;refine lV ?_;refine dT ?_;refine eX ?_ bv (lg 0 J);refine eX ?_ bv (lg 1 J);refine wO ?_;obtain ⟨y11,hy11,h⟩:=aa h;refine yA (R:=(fun (x:(List Ea)) vs cs=> ∃A0 n0 c0,vs=[I A0 n0 c0]∧cs=[cx A0 n0 c0 x])) (fun x st=>gp N a1 x st) (fun (st:Unit) (mz:Unit)=> [ad B2 3 [iV a1],ad B3 4 [.bool false]]) [aL B7 38 [I A1 n1 c1],cx A1 n1 c1 a0,aL B8 3 [iV a1]] (()) (()) J J AF J (by rintro _ _ _ ⟨_,_,_,rfl,rfl⟩;rfl) (fun l G hY=>(r9 hy11 hY).mono fun _ _ hh=>hh.2) (ay [0,4,1] [] [3,2] 5 J) h ?_ ?_ ?_ ?_
 ·rintro l x9 _ je sr9 _ h _ _ ⟨A10,n10,c10,rfl,rfl⟩;replace h:gp N a1 x9 ()=some (je,sr9):=h;simp only [tx,List.zip_cons_cons,List.zip_nil_left,List.zip_nil_right,List.reverse_cons,List.reverse_nil,List.nil_append,List.cons_append];refine U ?_;refine ax ?_;refine U ?_;obtain ⟨x12,hx12,h⟩:=aa h;obtain ⟨lx12,ux12,hx12⟩:=aK hx12;refine gR (bi 0 J aP J J hN ba lx12 ux12) ?_;refine gR (nA 0 J aP J (bf lx12 ux12) kW) ?_;refine gR (dp (u:=iV x12.Kind) 0 J aP J hx12 cv (fun _ _ _ h=>by rw [show _=_ from h];rfl)) ?_;refine U ?_;obtain ⟨b13,hb13,h⟩:=aa h;refine aJ 6 26 b13 ?_ ?_
  ·clear h;refine aH 20 J (fun g13=> ?_) (fun g13=> ?_)
   ·have h:=ag g13 hb13;refine U ?_;obtain rfl:=am h;exact ae sA (cS [0,1,2] 3)
   have h:=ah g13 hb13;refine U ?_;obtain ⟨x14,hx14,h⟩:=aa h;obtain ⟨lx14,ux14,hx14⟩:=aK hx14;refine bH (bi 0 J aP J J hN ba lx14 ux14) J (cB g13 J) J ?_;refine bH (nA 0 J aP J (bf lx14 ux14) kW) J (cB g13 J) J ?_;refine bH (dp (u:=iV x14.Kind) 0 J aP J hx14 cv (fun _ _ _ h=>by rw [show _=_ from h];rfl)) J (cB g13 J) J ?_;refine U ?_;obtain rfl:=am h;exact ae sA (cS [0,1,2] 3)
  refine U ?_;refine aq J (fun g15=> ?_) (fun g15=> ?_)
  ·replace h:=ag g15 h;refine U ?_;refine gO (ao (us:=[.bool false]) (cs':=[.bool false]) 2 J J J J sQ J J J) ?_;rintro _ _ rfl;refine U ?_;obtain ⟨rfl,rfl⟩:=Prod.mk.inj (Option.some.inj h);exact wL ((cS [1,2] 3).trans (gn () J))
  replace h:=ah g15 h;refine U ?_;obtain ⟨b16,hb16,h⟩:=aa h;refine aJ 13 42 b16 ?_ ?_
  ·clear h;refine aH 29 J (fun g16=> ?_) (fun g16=> ?_)
   ·have h:=ag g16 hb16;refine U ?_;obtain ⟨x17,hx17,h⟩:=aa h;obtain ⟨lx17,ux17,hx17⟩:=aK hx17;refine bH (bi 0 J aP J J hN ba lx17 ux17) J (aX g16 J) J ?_;refine bH (bm (us:=[iV x17.Kind,iV x17.N,.string x17.S]) 0 J aP J hx17 aC (fun _ _ _ h=>by rw [show _=_ from h];rfl)) J (aX g16 J) J ?_;obtain ⟨y18,hy18,h⟩:=aa h;refine bX (ak (eS hy18) pw J (ac) d4) J (aX g16 J) J ?_;rintro _ _ ⟨_,⟨rfl,rfl⟩,rfl⟩;refine U ?_;obtain ⟨b19,hb19,h⟩:=aa h;refine aJ 6 41 b19 ?_ ?_
    ·clear h;refine aH 35 J (fun g19=> ?_) (fun g19=> ?_)
     ·have h:=ag g19 hb19;refine U ?_;obtain rfl:=am h;exact ae sA (cS [0,1,2] 3)
     have h:=ah g19 hb19;refine U ?_;obtain ⟨x20,hx20,h⟩:=aa h;obtain ⟨lx20,ux20,hx20⟩:=aK hx20;refine bH (bi 0 J aP J J hN ba lx20 ux20) J (cB g19 J) J ?_;refine bH (bm (us:=[iV x20.Kind,iV x20.N,.string x20.S]) 0 J aP J hx20 aC (fun _ _ _ h=>by rw [show _=_ from h];rfl)) J (cB g19 J) J ?_;obtain ⟨y21,hy21,h⟩:=aa h;refine bX (ak (eT hy21) pv J (ac) d5) J (cB g19 J) J ?_;rintro _ _ ⟨_,⟨rfl,rfl⟩,rfl⟩;refine U ?_;obtain rfl:=am h;exact ae sA (cS [0,1,2] 3)
    refine U ?_;obtain rfl:=am h;exact ae sA (cS [0,1,2] 3)
   have h:=ah g16 hb16;refine U ?_;obtain rfl:=am h;exact ae sA (cS [0,1,2] 3)
  refine U ?_;refine aq J (fun g22=> ?_) (fun g22=> ?_)
  ·replace h:=ag g22 h;refine U ?_;refine gO (ao (us:=[.bool false]) (cs':=[.bool false]) 2 J J J J sQ J J J) ?_;rintro _ _ rfl;refine U ?_;obtain ⟨rfl,rfl⟩:=Prod.mk.inj (Option.some.inj h);exact wL ((cS [1,2] 3).trans (gn () J))
  replace h:=ah g22 h;refine U ?_;obtain ⟨rfl,rfl⟩:=Prod.mk.inj (Option.some.inj h);exact yy ((cS [1,2] 3).trans (gn () J))
 ·rintro _ h;refine nQ ([ad B2 3 [iV a1],ad B3 4 [.bool false]]) J ?_;refine U ?_;refine gO (ao (us:=[.bool true]) (cs':=[.bool true]) 1 J J J J sQ J J J) ?_;rintro _ _ rfl;refine bA ?_;refine U ?_;obtain rfl:=am h;exact bJ (rs:=[.cell 4 4]) (vs:=[.bool true]) J (.cons (pn 1 J J ws) .nil) J (cS [] 2) ⟨J,J⟩
 ·rintro _ h;refine nQ ([ad B2 3 [iV a1],ad B3 4 [.bool false]]) J ?_;refine U ?_;obtain rfl:=am h;exact bJ (rs:=[.cell 4 4]) (vs:=[.bool false]) J (.cons (pn 1 J J ws) .nil) J (cS [] 2) ⟨J,J⟩
 rintro i _ h;exact bc h
theorem i2 {r:Bool}: ∀v post,((fun (u:Value) (post:List Chunk)=>u=.bool r∧post=[])) v post→ ∀c∈post,bI c:=by
 rintro _ _ ⟨rfl,rfl⟩;exact ac
end Go.Proofs.YtanojiedimeegaaGreatDoor