/- Merged texts: part 3. No conditions of their own. -/
import Derived.Test.YtanojiedimeegaaGreatDoorG2
import Derived.Test.YtanojiedimeegaaGreatDoorChecked
import Derived.ProofKit
namespace Go.Proofs.YtanojiedimeegaaGreatDoor
theorem hJ:type_of% Tryz.underlying3:=Tryz.underlying3
theorem hH:type_of% Tryz.underlying9:=Tryz.underlying9
variable {A1 A2 A3 A4 A5:Option Addr} {B1 B3 B6 M7 c1 c2 c3 c4 c5 n1 n2 n3 n4 n5:Nat}
open Go.RowKit Asn
set_option maxRecDepth 20000
structure JO where
 Way:Int
 Steps:Int
 Calls:Int
 Made:Int
 Young:Int
 Full:Int
 Sites:Int
 deriving DecidableEq,Inhabited
def Ia:Rep JO:=.flat 7 (fun x=> [iV x.Way,iV x.Steps,iV x.Calls,iV x.Made,iV x.Young,iV x.Full,iV x.Sites]) (fun _=>rfl) (fun _=>rfl)
structure JI where
 at_:(List (Int×Bool))
 deriving DecidableEq,Inhabited
structure JS where
 Kind:Int
 N:Int
 S:ByteArray
 deriving DecidableEq,Inhabited
def bW:Rep JS:=.flat 3 (fun x=> [iV x.Kind,iV x.N,.string x.S]) (fun _=>rfl) (fun _=>rfl)
structure JU where
 Kind:Int
 Shape:Int
 Flags:Int
 Age:Int
 Slots:(List JS)
 More:(List JS)
 deriving DecidableEq,Inhabited
def qh:Rep JU where
 sz:=6
 rel S w vs x:= ∃A4 n4 c4 A5 n5 c5,vs=[iV x.Kind,iV x.Shape,iV x.Flags,iV x.Age,I A4 n4 c4,I A5 n5 c5]∧SlR bW S w (I A4 n4 c4) x.Slots∧SlR bW S w (I A5 n5 c5) x.More
 loc:=fun h ⟨_,_,_,_,_,_,e,h4,h5⟩=>⟨_,_,_,_,_,_,e,h4.loc h,h5.loc h⟩
 mono:=fun h ⟨_,_,_,_,_,_,e,h4,h5⟩=>⟨_,_,_,_,_,_,e,h4.mono h,h5.mono h⟩
 len:=fun ⟨_,_,_,_,_,_,e,_⟩=>by rw [e];rfl
 one:=fun ⟨_,_,_,_,_,_,e,_⟩=>by rw [e];rfl
theorem vm (x:JU):En qh x fun vs cs=> ∃A4 n4 c4 A5 n5 c5,vs=[iV x.Kind,iV x.Shape,iV x.Flags,iV x.Age,I A4 n4 c4,I A5 n5 c5]∧cs=[nu bW (I A4 n4 c4) x.Slots,nu bW (I A5 n5 c5) x.More]:=fun S w vs ⟨_,_,_,_,_,_,e,h4,h5⟩=>⟨_,⟨_,_,_,_,_,_,e,rfl⟩,hD h4 (hD h5 (ak))⟩
structure JN where
 Young:(List JU)
 Old:(List JU)
 deriving DecidableEq,Inhabited
def H9:Rep JN where
 sz:=2
 rel S w vs x:= ∃A0 n0 c0 A1 n1 c1,vs=[I A0 n0 c0,I A1 n1 c1]∧SlR qh S w (I A0 n0 c0) x.Young∧SlR qh S w (I A1 n1 c1) x.Old
 loc:=fun h ⟨_,_,_,_,_,_,e,h0,h1⟩=>⟨_,_,_,_,_,_,e,h0.loc h,h1.loc h⟩
 mono:=fun h ⟨_,_,_,_,_,_,e,h0,h1⟩=>⟨_,_,_,_,_,_,e,h0.mono h,h1.mono h⟩
 len:=fun ⟨_,_,_,_,_,_,e,_⟩=>by rw [e];rfl
 one:=fun ⟨_,_,_,_,_,_,e,_⟩=>by rw [e];rfl
structure JJ where
 m_:JN
 roots_:(List JS)
 pending_:(List JS)
 set_:JI
 deriving DecidableEq,Inhabited
structure JW where
 Kind:Int
 N:Int
 S:ByteArray
 deriving DecidableEq,Inhabited
def mM:Rep JW:=.flat 3 (fun x=> [iV x.Kind,iV x.N,.string x.S]) (fun _=>rfl) (fun _=>rfl)
structure JG where
 Up:Int
 Key:JW
 Attrs:Int
 Len:Int
 deriving DecidableEq,Inhabited
def qQ:Rep JG:=.flat 6 (fun x=> [iV x.Up,iV x.Key.Kind,iV x.Key.N,.string x.Key.S,iV x.Attrs,iV x.Len]) (fun _=>rfl) (fun _=>rfl)
structure JK where
 up_:Int
 key_:JW
 attrs_:Int
 deriving DecidableEq,Inhabited
def Iz:Rep JK:=.flat 5 (fun x=> [iV x.up_,iV x.key_.Kind,iV x.key_.N,.string x.key_.S,iV x.attrs_]) (fun _=>rfl) (fun _=>rfl)
structure JP where
 shapes_:(List JG)
 next_:(List (JK×Int))
 deriving DecidableEq,Inhabited
structure JH where
 steps_:Int
 made_:Int
 calls_:Int
 deriving DecidableEq,Inhabited
def Ix:Rep JH:=.flat 3 (fun x=> [iV x.steps_,iV x.made_,iV x.calls_]) (fun _=>rfl) (fun _=>rfl)
structure JR where
 Kind:Int
 Key:JW
 S:ByteArray
 deriving DecidableEq,Inhabited
def AX:Rep JR:=.flat 5 (fun x=> [iV x.Kind,iV x.Key.Kind,iV x.Key.N,.string x.Key.S,.string x.S]) (fun _=>rfl) (fun _=>rfl)
structure JL where
 spent_:JH
 config_:JO
 host_:Unit
 heap_:JJ
 shapes_:JP
 symbols_:(List ByteArray)
 epoch_:Int
 serial_:Int
 sleepers_:Int
 events_:(List JR)
 out_:(List ByteArray)
 deriving DecidableEq,Inhabited
structure JQ where
 Key:JW
 Attrs:Int
 Value:JS
 Get:JS
 Set:JS
 deriving DecidableEq,Inhabited
def nB:Rep JQ:=.flat 13 (fun x=> [iV x.Key.Kind,iV x.Key.N,.string x.Key.S,iV x.Attrs,iV x.Value.Kind,iV x.Value.N,.string x.Value.S,iV x.Get.Kind,iV x.Get.N,.string x.Get.S,iV x.Set.Kind,iV x.Set.N,.string x.Set.S]) (fun _=>rfl) (fun _=>rfl)
structure JV where
 Array:Bool
 Elements:Int
 Props:(List JQ)
 Shut:Bool
 deriving DecidableEq,Inhabited
def ER:Rep JV where
 sz:=4
 rel S w vs x:= ∃A2 n2 c2,vs=[.bool x.Array,iV x.Elements,I A2 n2 c2,.bool x.Shut]∧SlR nB S w (I A2 n2 c2) x.Props
 loc:=fun h ⟨_,_,_,e,h2⟩=>⟨_,_,_,e,h2.loc h⟩
 mono:=fun h ⟨_,_,_,e,h2⟩=>⟨_,_,_,e,h2.mono h⟩
 len:=fun ⟨_,_,_,e,_⟩=>by rw [e];rfl
 one:=fun ⟨_,_,_,e,_⟩=>by rw [e];rfl
structure JM where
 Has:Int
 Attrs:Int
 Value:JS
 Get:JS
 Set:JS
 deriving DecidableEq,Inhabited
def IA:Rep JM:=.flat 11 (fun x=> [iV x.Has,iV x.Attrs,iV x.Value.Kind,iV x.Value.N,.string x.Value.S,iV x.Get.Kind,iV x.Get.N,.string x.Get.S,iV x.Set.Kind,iV x.Set.N,.string x.Set.S]) (fun _=>rfl) (fun _=>rfl)
structure JT where
 Cell:JU
 w_:JL
 at_:JS
 deriving DecidableEq,Inhabited
abbrev aY (A:Option Addr)(n c:Nat):=dJ bW 30 (.slice A n c)
abbrev bj (A:Option Addr)(n c:Nat):=nu EQ (.slice A n c)
abbrev br (A:Option Addr)(n c:Nat):=dJ qh 138 (.slice A n c)
abbrev cC (A:Option Addr)(n c:Nat):=nu AX (.slice A n c)
abbrev cE (A:Option Addr)(n c:Nat):=dJ qQ 201 (.slice A n c)
abbrev dB (A:Option Addr)(n c:Nat):=nu bW (.slice A n c)
abbrev iN (A:Option Addr)(n c:Nat):=dJ mM 24 (.slice A n c)
abbrev pD (A:Option Addr)(n c:Nat):=nu qh (.slice A n c)
abbrev zW (A:Option Addr)(n c:Nat):=nu nB (.slice A n c)
abbrev sX (A:Option Addr)(n c:Nat):=nu qQ (.slice A n c)
abbrev tp (A:Option Addr)(n c:Nat):=dJ nB 42 (.slice A n c)
abbrev zu (x:JO):Value:=.agg #[iV x.Way,iV x.Steps,iV x.Calls,iV x.Made,iV x.Young,iV x.Full,iV x.Sites]
abbrev eW (x:JM):Value:=.agg #[iV x.Has,iV x.Attrs,iV x.Value.Kind,iV x.Value.N,.string x.Value.S,iV x.Get.Kind,iV x.Get.N,.string x.Get.S,iV x.Set.Kind,iV x.Set.N,.string x.Set.S]
abbrev fG (x:JW):Value:=.agg #[iV x.Kind,iV x.N,.string x.S]
abbrev bE (x:JQ):Value:=.agg #[iV x.Key.Kind,iV x.Key.N,.string x.Key.S,iV x.Attrs,iV x.Value.Kind,iV x.Value.N,.string x.Value.S,iV x.Get.Kind,iV x.Get.N,.string x.Get.S,iV x.Set.Kind,iV x.Set.N,.string x.Set.S]
abbrev xX (x:JG):Value:=.agg #[iV x.Up,iV x.Key.Kind,iV x.Key.N,.string x.Key.S,iV x.Attrs,iV x.Len]
abbrev DF (x:JK):Value:=.agg #[iV x.up_,iV x.key_.Kind,iV x.key_.N,.string x.key_.S,iV x.attrs_]
abbrev bv (x:JS):Value:=.agg #[iV x.Kind,iV x.N,.string x.S]
abbrev zs (x:JO):List Value:=[iV x.Way,iV x.Steps,iV x.Calls,iV x.Made,iV x.Young,iV x.Full,iV x.Sites]
abbrev bU (x:JM):List Value:=[iV x.Has,iV x.Attrs,iV x.Value.Kind,iV x.Value.N,.string x.Value.S,iV x.Get.Kind,iV x.Get.N,.string x.Get.S,iV x.Set.Kind,iV x.Set.N,.string x.Set.S]
abbrev bX (x:JW):List Value:=[iV x.Kind,iV x.N,.string x.S]
abbrev aS (x:JQ):List Value:=[iV x.Key.Kind,iV x.Key.N,.string x.Key.S,iV x.Attrs,iV x.Value.Kind,iV x.Value.N,.string x.Value.S,iV x.Get.Kind,iV x.Get.N,.string x.Get.S,iV x.Set.Kind,iV x.Set.N,.string x.Set.S]
abbrev ez (x:JG):List Value:=[iV x.Up,iV x.Key.Kind,iV x.Key.N,.string x.Key.S,iV x.Attrs,iV x.Len]
abbrev ax (x:JS):List Value:=[iV x.Kind,iV x.N,.string x.S]
theorem HM:aw Tryz.prog 16:=⟨Tryz.f16,Tryz.func16,rfl,rfl⟩
theorem D5:aw Tryz.prog 18:=⟨Tryz.f18,Tryz.func18,rfl,rfl⟩
theorem wh:aw Tryz.prog 19:=⟨Tryz.f19,Tryz.func19,rfl,rfl⟩
theorem D4:aw Tryz.prog 21:=⟨Tryz.f21,Tryz.func21,rfl,rfl⟩
theorem HL:aw Tryz.prog 24:=⟨Tryz.f24,Tryz.func24,rfl,rfl⟩
theorem yv:aw Tryz.prog 25:=⟨Tryz.f25,Tryz.func25,rfl,rfl⟩
theorem HK:aw Tryz.prog 26:=⟨Tryz.f26,Tryz.func26,rfl,rfl⟩
theorem yt:aw Tryz.prog 27:=⟨Tryz.f27,Tryz.func27,rfl,rfl⟩
theorem D3:aw Tryz.prog 28:=⟨Tryz.f28,Tryz.func28,rfl,rfl⟩
theorem HJ:aw Tryz.prog 30:=⟨Tryz.f30,Tryz.func30,rfl,rfl⟩
theorem HI:aw Tryz.prog 32:=⟨Tryz.f32,Tryz.func32,rfl,rfl⟩
theorem HH:aw Tryz.prog 33:=⟨Tryz.f33,Tryz.func33,rfl,rfl⟩
theorem HG:aw Tryz.prog 35:=⟨Tryz.f35,Tryz.func35,rfl,rfl⟩
theorem D2:aw Tryz.prog 38:=⟨Tryz.f38,Tryz.func38,rfl,rfl⟩
theorem Az:aw Tryz.prog 39:=⟨Tryz.f39,Tryz.func39,rfl,rfl⟩
theorem yr:aw Tryz.prog 40:=⟨Tryz.f40,Tryz.func40,rfl,rfl⟩
theorem HF:aw Tryz.prog 41:=⟨Tryz.f41,Tryz.func41,rfl,rfl⟩
theorem yq:aw Tryz.prog 42:=⟨Tryz.f42,Tryz.func42,rfl,rfl⟩
theorem Ay:aw Tryz.prog 43:=⟨Tryz.f43,Tryz.func43,rfl,rfl⟩
theorem HE:aw Tryz.prog 45:=⟨Tryz.f45,Tryz.func45,rfl,rfl⟩
theorem HD:aw Tryz.prog 46:=⟨Tryz.f46,Tryz.func46,rfl,rfl⟩
theorem D1:aw Tryz.prog 47:=⟨Tryz.f47,Tryz.func47,rfl,rfl⟩
theorem yp:aw Tryz.prog 48:=⟨Tryz.f48,Tryz.func48,rfl,rfl⟩
theorem HC:aw Tryz.prog 49:=⟨Tryz.f49,Tryz.func49,rfl,rfl⟩
theorem HB:aw Tryz.prog 50:=⟨Tryz.f50,Tryz.func50,rfl,rfl⟩
theorem D0:aw Tryz.prog 51:=⟨Tryz.f51,Tryz.func51,rfl,rfl⟩
theorem HA:aw Tryz.prog 52:=⟨Tryz.f52,Tryz.func52,rfl,rfl⟩
theorem tA:aw Tryz.prog 54:=⟨Tryz.f54,Tryz.func54,rfl,rfl⟩
theorem wg:aw Tryz.prog 55:=⟨Tryz.f55,Tryz.func55,rfl,rfl⟩
theorem yo:aw Tryz.prog 56:=⟨Tryz.f56,Tryz.func56,rfl,rfl⟩
theorem DZ:aw Tryz.prog 66:=⟨Tryz.f66,Tryz.func66,rfl,rfl⟩
theorem Hz:aw Tryz.prog 77:=⟨Tryz.f77,Tryz.func77,rfl,rfl⟩
theorem Hy:aw Tryz.prog 78:=⟨Tryz.f78,Tryz.func78,rfl,rfl⟩
theorem Hx:aw Tryz.prog 79:=⟨Tryz.f79,Tryz.func79,rfl,rfl⟩
theorem DY:aw Tryz.prog 80:=⟨Tryz.f80,Tryz.func80,rfl,rfl⟩
theorem DX:aw Tryz.prog 81:=⟨Tryz.f81,Tryz.func81,rfl,rfl⟩
theorem yn:aw Tryz.prog 82:=⟨Tryz.f82,Tryz.func82,rfl,rfl⟩
theorem Hw:aw Tryz.prog 83:=⟨Tryz.f83,Tryz.func83,rfl,rfl⟩
theorem gk:aw Tryz.prog 84:=⟨Tryz.f84,Tryz.func84,rfl,rfl⟩
theorem Hv:aw Tryz.prog 85:=⟨Tryz.f85,Tryz.func85,rfl,rfl⟩
theorem Hu:aw Tryz.prog 86:=⟨Tryz.f86,Tryz.func86,rfl,rfl⟩
theorem Ht:aw Tryz.prog 87:=⟨Tryz.f87,Tryz.func87,rfl,rfl⟩
theorem tz:aw Tryz.prog 88:=⟨Tryz.f88,Tryz.func88,rfl,rfl⟩
theorem DW:aw Tryz.prog 89:=⟨Tryz.f89,Tryz.func89,rfl,rfl⟩
theorem we:aw Tryz.prog 90:=⟨Tryz.f90,Tryz.func90,rfl,rfl⟩
theorem ym:aw Tryz.prog 95:=⟨Tryz.f95,Tryz.func95,rfl,rfl⟩
theorem oJ:aw Tryz.prog 96:=⟨Tryz.f96,Tryz.func96,rfl,rfl⟩
theorem wd:aw Tryz.prog 97:=⟨Tryz.f97,Tryz.func97,rfl,rfl⟩
theorem DV:aw Tryz.prog 98:=⟨Tryz.f98,Tryz.func98,rfl,rfl⟩
theorem tx:aw Tryz.prog 99:=⟨Tryz.f99,Tryz.func99,rfl,rfl⟩
theorem Gm:aw Tryz.prog 100:=⟨Tryz.f100,Tryz.func100,rfl,rfl⟩
theorem Gl:aw Tryz.prog 101:=⟨Tryz.f101,Tryz.func101,rfl,rfl⟩
theorem Gk:aw Tryz.prog 102:=⟨Tryz.f102,Tryz.func102,rfl,rfl⟩
theorem Gj:aw Tryz.prog 103:=⟨Tryz.f103,Tryz.func103,rfl,rfl⟩
theorem Gi:aw Tryz.prog 104:=⟨Tryz.f104,Tryz.func104,rfl,rfl⟩
theorem sL:aw Tryz.prog 105:=⟨Tryz.f105,Tryz.func105,rfl,rfl⟩
theorem BY:aw Tryz.prog 106:=⟨Tryz.f106,Tryz.func106,rfl,rfl⟩
theorem nb:aw Tryz.prog 107:=⟨Tryz.f107,Tryz.func107,rfl,rfl⟩
theorem Gh:aw Tryz.prog 108:=⟨Tryz.f108,Tryz.func108,rfl,rfl⟩
theorem Gg:aw Tryz.prog 109:=⟨Tryz.f109,Tryz.func109,rfl,rfl⟩
theorem BX:aw Tryz.prog 110:=⟨Tryz.f110,Tryz.func110,rfl,rfl⟩
theorem Gf:aw Tryz.prog 111:=⟨Tryz.f111,Tryz.func111,rfl,rfl⟩
theorem yI:aw Tryz.prog 114:=⟨Tryz.f114,Tryz.func114,rfl,rfl⟩
theorem BW:aw Tryz.prog 116:=⟨Tryz.f116,Tryz.func116,rfl,rfl⟩
theorem uI:aw Tryz.prog 117:=⟨Tryz.f117,Tryz.func117,rfl,rfl⟩
theorem ra:aw Tryz.prog 118:=⟨Tryz.f118,Tryz.func118,rfl,rfl⟩
theorem Ge:aw Tryz.prog 119:=⟨Tryz.f119,Tryz.func119,rfl,rfl⟩
theorem Gd:aw Tryz.prog 120:=⟨Tryz.f120,Tryz.func120,rfl,rfl⟩
theorem uH:aw Tryz.prog 121:=⟨Tryz.f121,Tryz.func121,rfl,rfl⟩
theorem sK:aw Tryz.prog 122:=⟨Tryz.f122,Tryz.func122,rfl,rfl⟩
theorem BV:aw Tryz.prog 123:=⟨Tryz.f123,Tryz.func123,rfl,rfl⟩
theorem BU:aw Tryz.prog 124:=⟨Tryz.f124,Tryz.func124,rfl,rfl⟩
theorem Gc:aw Tryz.prog 125:=⟨Tryz.f125,Tryz.func125,rfl,rfl⟩
theorem Gb:aw Tryz.prog 127:=⟨Tryz.f127,Tryz.func127,rfl,rfl⟩
theorem BT:aw Tryz.prog 128:=⟨Tryz.f128,Tryz.func128,rfl,rfl⟩
theorem BS:aw Tryz.prog 129:=⟨Tryz.f129,Tryz.func129,rfl,rfl⟩
theorem Ga:aw Tryz.prog 130:=⟨Tryz.f130,Tryz.func130,rfl,rfl⟩
theorem F9:aw Tryz.prog 131:=⟨Tryz.f131,Tryz.func131,rfl,rfl⟩
theorem F8:aw Tryz.prog 132:=⟨Tryz.f132,Tryz.func132,rfl,rfl⟩
theorem F7:aw Tryz.prog 133:=⟨Tryz.f133,Tryz.func133,rfl,rfl⟩
theorem F6:aw Tryz.prog 135:=⟨Tryz.f135,Tryz.func135,rfl,rfl⟩
theorem F5:aw Tryz.prog 144:=⟨Tryz.f144,Tryz.func144,rfl,rfl⟩
theorem F4:aw Tryz.prog 145:=⟨Tryz.f145,Tryz.func145,rfl,rfl⟩
theorem uG:aw Tryz.prog 146:=⟨Tryz.f146,Tryz.func146,rfl,rfl⟩
theorem pt:aw Tryz.prog 147:=⟨Tryz.f147,Tryz.func147,rfl,rfl⟩
theorem F3:aw Tryz.prog 148:=⟨Tryz.f148,Tryz.func148,rfl,rfl⟩
theorem qZ:aw Tryz.prog 149:=⟨Tryz.f149,Tryz.func149,rfl,rfl⟩
theorem yH:aw Tryz.prog 150:=⟨Tryz.f150,Tryz.func150,rfl,rfl⟩
theorem F2:aw Tryz.prog 151:=⟨Tryz.f151,Tryz.func151,rfl,rfl⟩
theorem fc:aw Tryz.prog 152:=⟨Tryz.f152,Tryz.func152,rfl,rfl⟩
theorem BR:aw Tryz.prog 153:=⟨Tryz.f153,Tryz.func153,rfl,rfl⟩
theorem BQ:aw Tryz.prog 154:=⟨Tryz.f154,Tryz.func154,rfl,rfl⟩
theorem BP:aw Tryz.prog 155:=⟨Tryz.f155,Tryz.func155,rfl,rfl⟩
theorem BO:aw Tryz.prog 156:=⟨Tryz.f156,Tryz.func156,rfl,rfl⟩
theorem F1:aw Tryz.prog 157:=⟨Tryz.f157,Tryz.func157,rfl,rfl⟩
theorem F0:aw Tryz.prog 158:=⟨Tryz.f158,Tryz.func158,rfl,rfl⟩
theorem BN:aw Tryz.prog 159:=⟨Tryz.f159,Tryz.func159,rfl,rfl⟩
theorem FZ:aw Tryz.prog 160:=⟨Tryz.f160,Tryz.func160,rfl,rfl⟩
theorem uF:aw Tryz.prog 161:=⟨Tryz.f161,Tryz.func161,rfl,rfl⟩
theorem yG:aw Tryz.prog 162:=⟨Tryz.f162,Tryz.func162,rfl,rfl⟩
theorem BM:aw Tryz.prog 163:=⟨Tryz.f163,Tryz.func163,rfl,rfl⟩
theorem uE:aw Tryz.prog 164:=⟨Tryz.f164,Tryz.func164,rfl,rfl⟩
theorem yF:aw Tryz.prog 165:=⟨Tryz.f165,Tryz.func165,rfl,rfl⟩
theorem yE:aw Tryz.prog 166:=⟨Tryz.f166,Tryz.func166,rfl,rfl⟩
theorem BL:aw Tryz.prog 167:=⟨Tryz.f167,Tryz.func167,rfl,rfl⟩
theorem uD:aw Tryz.prog 168:=⟨Tryz.f168,Tryz.func168,rfl,rfl⟩
theorem FY:aw Tryz.prog 169:=⟨Tryz.f169,Tryz.func169,rfl,rfl⟩
theorem FX:aw Tryz.prog 170:=⟨Tryz.f170,Tryz.func170,rfl,rfl⟩
theorem FW:aw Tryz.prog 171:=⟨Tryz.f171,Tryz.func171,rfl,rfl⟩
theorem BK:aw Tryz.prog 172:=⟨Tryz.f172,Tryz.func172,rfl,rfl⟩
theorem yD:aw Tryz.prog 173:=⟨Tryz.f173,Tryz.func173,rfl,rfl⟩
theorem FV:aw Tryz.prog 174:=⟨Tryz.f174,Tryz.func174,rfl,rfl⟩
theorem yC:aw Tryz.prog 175:=⟨Tryz.f175,Tryz.func175,rfl,rfl⟩
theorem FU:aw Tryz.prog 176:=⟨Tryz.f176,Tryz.func176,rfl,rfl⟩
theorem yB:aw Tryz.prog 177:=⟨Tryz.f177,Tryz.func177,rfl,rfl⟩
theorem FT:aw Tryz.prog 202:=⟨Tryz.f202,Tryz.func202,rfl,rfl⟩
theorem BJ:aw Tryz.prog 203:=⟨Tryz.f203,Tryz.func203,rfl,rfl⟩
theorem yA:aw Tryz.prog 204:=⟨Tryz.f204,Tryz.func204,rfl,rfl⟩
theorem pq:aw Tryz.prog 205:=⟨Tryz.f205,Tryz.func205,rfl,rfl⟩
theorem FS:aw Tryz.prog 206:=⟨Tryz.f206,Tryz.func206,rfl,rfl⟩
theorem FR:aw Tryz.prog 207:=⟨Tryz.f207,Tryz.func207,rfl,rfl⟩
theorem BI:aw Tryz.prog 208:=⟨Tryz.f208,Tryz.func208,rfl,rfl⟩
theorem yz:aw Tryz.prog 209:=⟨Tryz.f209,Tryz.func209,rfl,rfl⟩
theorem qY:aw Tryz.prog 210:=⟨Tryz.f210,Tryz.func210,rfl,rfl⟩
theorem uC:aw Tryz.prog 211:=⟨Tryz.f211,Tryz.func211,rfl,rfl⟩
theorem yy:aw Tryz.prog 212:=⟨Tryz.f212,Tryz.func212,rfl,rfl⟩
theorem FQ:aw Tryz.prog 213:=⟨Tryz.f213,Tryz.func213,rfl,rfl⟩
theorem yx:aw Tryz.prog 214:=⟨Tryz.f214,Tryz.func214,rfl,rfl⟩
theorem FP:aw Tryz.prog 215:=⟨Tryz.f215,Tryz.func215,rfl,rfl⟩
theorem BH:aw Tryz.prog 225:=⟨Tryz.f225,Tryz.func225,rfl,rfl⟩
theorem FO:aw Tryz.prog 226:=⟨Tryz.f226,Tryz.func226,rfl,rfl⟩
theorem FN:aw Tryz.prog 227:=⟨Tryz.f227,Tryz.func227,rfl,rfl⟩
theorem FM:aw Tryz.prog 228:=⟨Tryz.f228,Tryz.func228,rfl,rfl⟩
theorem BG:aw Tryz.prog 229:=⟨Tryz.f229,Tryz.func229,rfl,rfl⟩
theorem yw:aw Tryz.prog 230:=⟨Tryz.f230,Tryz.func230,rfl,rfl⟩
theorem ot:aw Tryz.prog 231:=⟨Tryz.f231,Tryz.func231,rfl,rfl⟩
theorem BF:aw Tryz.prog 232:=⟨Tryz.f232,Tryz.func232,rfl,rfl⟩
theorem FL:aw Tryz.prog 233:=⟨Tryz.f233,Tryz.func233,rfl,rfl⟩
theorem FK:aw Tryz.prog 234:=⟨Tryz.f234,Tryz.func234,rfl,rfl⟩
theorem FJ:aw Tryz.prog 235:=⟨Tryz.f235,Tryz.func235,rfl,rfl⟩
theorem BE:aw Tryz.prog 238:=⟨Tryz.f238,Tryz.func238,rfl,rfl⟩
theorem FI:aw Tryz.prog 239:=⟨Tryz.f239,Tryz.func239,rfl,rfl⟩
theorem qX:aw Tryz.prog 240:=⟨Tryz.f240,Tryz.func240,rfl,rfl⟩
theorem qW:aw Tryz.prog 241:=⟨Tryz.f241,Tryz.func241,rfl,rfl⟩
theorem BD:aw Tryz.prog 242:=⟨Tryz.f242,Tryz.func242,rfl,rfl⟩
theorem FH:aw Tryz.prog 243:=⟨Tryz.f243,Tryz.func243,rfl,rfl⟩
theorem FG:aw Tryz.prog 244:=⟨Tryz.f244,Tryz.func244,rfl,rfl⟩
theorem BC:aw Tryz.prog 245:=⟨Tryz.f245,Tryz.func245,rfl,rfl⟩
theorem FF:aw Tryz.prog 246:=⟨Tryz.f246,Tryz.func246,rfl,rfl⟩
theorem BB:aw Tryz.prog 247:=⟨Tryz.f247,Tryz.func247,rfl,rfl⟩
theorem FE:aw Tryz.prog 248:=⟨Tryz.f248,Tryz.func248,rfl,rfl⟩
theorem FD:aw Tryz.prog 253:=⟨Tryz.f253,Tryz.func253,rfl,rfl⟩
theorem yu:aw Tryz.prog 254:=⟨Tryz.f254,Tryz.func254,rfl,rfl⟩
theorem FC:aw Tryz.prog 255:=⟨Tryz.f255,Tryz.func255,rfl,rfl⟩
theorem BA:aw Tryz.prog 256:=⟨Tryz.f256,Tryz.func256,rfl,rfl⟩
theorem FB:aw Tryz.prog 262:=⟨Tryz.f262,Tryz.func262,rfl,rfl⟩
theorem FA:aw Tryz.prog 263:=⟨Tryz.f263,Tryz.func263,rfl,rfl⟩
theorem Fq (b o:Nat)(w:World):(Instr.fieldAt 24 (pV b o) 0).run Tryz.prog w=.ok (pV b o) w:=by kernel_rfl
theorem ya (b o:Nat)(w:World):(Instr.fieldAt 24 (pV b o) 1).run Tryz.prog w=.ok (.pointer (some ⟨b,o+1,none⟩)) w:=by kernel_rfl
theorem Fo (b o:Nat)(w:World):(Instr.fieldAt 24 (pV b o) 2).run Tryz.prog w=.ok (.pointer (some ⟨b,o+2,none⟩)) w:=by kernel_rfl
theorem mY (b o:Nat)(w:World):(Instr.fieldAt 30 (pV b o) 0).run Tryz.prog w=.ok (pV b o) w:=by kernel_rfl
theorem uz (b o:Nat)(w:World):(Instr.fieldAt 30 (pV b o) 1).run Tryz.prog w=.ok (.pointer (some ⟨b,o+1,none⟩)) w:=by kernel_rfl
theorem Fn (b o:Nat)(w:World):(Instr.fieldAt 30 (pV b o) 2).run Tryz.prog w=.ok (.pointer (some ⟨b,o+2,none⟩)) w:=by kernel_rfl
theorem Bo (b o:Nat)(w:World):(Instr.fieldAt 32 (pV b o) 0).run Tryz.prog w=.ok (pV b o) w:=by kernel_rfl
theorem Bn (b o:Nat)(w:World):(Instr.fieldAt 32 (pV b o) 1).run Tryz.prog w=.ok (.pointer (some ⟨b,o+1,none⟩)) w:=by kernel_rfl
theorem Fm (b o:Nat)(w:World):(Instr.fieldAt 32 (pV b o) 2).run Tryz.prog w=.ok (.pointer (some ⟨b,o+2,none⟩)) w:=by kernel_rfl
theorem Fl (b o:Nat)(w:World):(Instr.fieldAt 32 (pV b o) 3).run Tryz.prog w=.ok (.pointer (some ⟨b,o+5,none⟩)) w:=by kernel_rfl
theorem Fk (b o:Nat)(w:World):(Instr.fieldAt 32 (pV b o) 4).run Tryz.prog w=.ok (.pointer (some ⟨b,o+8,none⟩)) w:=by kernel_rfl
theorem uy (b o:Nat)(w:World):(Instr.fieldAt 42 (pV b o) 0).run Tryz.prog w=.ok (pV b o) w:=by kernel_rfl
theorem sr (b o:Nat)(w:World):(Instr.fieldAt 42 (pV b o) 1).run Tryz.prog w=.ok (.pointer (some ⟨b,o+3,none⟩)) w:=by kernel_rfl
theorem Bm (b o:Nat)(w:World):(Instr.fieldAt 42 (pV b o) 2).run Tryz.prog w=.ok (.pointer (some ⟨b,o+4,none⟩)) w:=by kernel_rfl
theorem ux (b o:Nat)(w:World):(Instr.fieldAt 42 (pV b o) 3).run Tryz.prog w=.ok (.pointer (some ⟨b,o+7,none⟩)) w:=by kernel_rfl
theorem uw (b o:Nat)(w:World):(Instr.fieldAt 42 (pV b o) 4).run Tryz.prog w=.ok (.pointer (some ⟨b,o+10,none⟩)) w:=by kernel_rfl
theorem Fj (b o:Nat)(w:World):(Instr.fieldAt 57 (pV b o) 0).run Tryz.prog w=.ok (pV b o) w:=by kernel_rfl
theorem Fi (b o:Nat)(w:World):(Instr.fieldAt 57 (pV b o) 1).run Tryz.prog w=.ok (.pointer (some ⟨b,o+1,none⟩)) w:=by kernel_rfl
theorem Fh (b o:Nat)(w:World):(Instr.fieldAt 57 (pV b o) 2).run Tryz.prog w=.ok (.pointer (some ⟨b,o+2,none⟩)) w:=by kernel_rfl
theorem Bl (b o:Nat)(w:World):(Instr.fieldAt 57 (pV b o) 3).run Tryz.prog w=.ok (.pointer (some ⟨b,o+3,none⟩)) w:=by kernel_rfl
theorem Fg (b o:Nat)(w:World):(Instr.fieldAt 57 (pV b o) 4).run Tryz.prog w=.ok (.pointer (some ⟨b,o+4,none⟩)) w:=by kernel_rfl
theorem Ff (b o:Nat)(w:World):(Instr.fieldAt 57 (pV b o) 5).run Tryz.prog w=.ok (.pointer (some ⟨b,o+5,none⟩)) w:=by kernel_rfl
theorem Fe (b o:Nat)(w:World):(Instr.fieldAt 57 (pV b o) 6).run Tryz.prog w=.ok (.pointer (some ⟨b,o+6,none⟩)) w:=by kernel_rfl
theorem Fd (b o:Nat)(w:World):(Instr.fieldAt 84 (pV b o) 0).run Tryz.prog w=.ok (pV b o) w:=by kernel_rfl
theorem Fb (b o:Nat)(w:World):(Instr.fieldAt 84 (pV b o) 1).run Tryz.prog w=.ok (.pointer (some ⟨b,o+1,none⟩)) w:=by kernel_rfl
theorem xZ (b o:Nat)(w:World):(Instr.fieldAt 84 (pV b o) 2).run Tryz.prog w=.ok (.pointer (some ⟨b,o+2,none⟩)) w:=by kernel_rfl
theorem Fa (b o:Nat)(w:World):(Instr.fieldAt 84 (pV b o) 3).run Tryz.prog w=.ok (.pointer (some ⟨b,o+3,none⟩)) w:=by kernel_rfl
theorem zB (b o:Nat)(w:World):(Instr.fieldAt 138 (pV b o) 0).run Tryz.prog w=.ok (pV b o) w:=by kernel_rfl
theorem mq (b o:Nat)(w:World):(Instr.fieldAt 138 (pV b o) 1).run Tryz.prog w=.ok (.pointer (some ⟨b,o+1,none⟩)) w:=by kernel_rfl
theorem zA (b o:Nat)(w:World):(Instr.fieldAt 138 (pV b o) 2).run Tryz.prog w=.ok (.pointer (some ⟨b,o+2,none⟩)) w:=by kernel_rfl
theorem ln (b o:Nat)(w:World):(Instr.fieldAt 138 (pV b o) 3).run Tryz.prog w=.ok (.pointer (some ⟨b,o+3,none⟩)) w:=by kernel_rfl
theorem jD (b o:Nat)(w:World):(Instr.fieldAt 138 (pV b o) 4).run Tryz.prog w=.ok (.pointer (some ⟨b,o+4,none⟩)) w:=by kernel_rfl
theorem nM (b o:Nat)(w:World):(Instr.fieldAt 138 (pV b o) 5).run Tryz.prog w=.ok (.pointer (some ⟨b,o+5,none⟩)) w:=by kernel_rfl
theorem fk (b o:Nat)(w:World):(Instr.fieldAt 140 (pV b o) 0).run Tryz.prog w=.ok (pV b o) w:=by kernel_rfl
theorem nL (b o:Nat)(w:World):(Instr.fieldAt 140 (pV b o) 1).run Tryz.prog w=.ok (.pointer (some ⟨b,o+6,none⟩)) w:=by kernel_rfl
theorem zz (b o:Nat)(w:World):(Instr.fieldAt 140 (pV b o) 2).run Tryz.prog w=.ok (.pointer (some ⟨b,o+7,none⟩)) w:=by kernel_rfl
theorem zy (b o:Nat)(w:World):(Instr.fieldAt 147 (pV b o) 1).run Tryz.prog w=.ok (.pointer (some ⟨b,o+1,none⟩)) w:=by kernel_rfl
theorem zx (b o:Nat)(w:World):(Instr.fieldAt 151 (pV b o) 0).run Tryz.prog w=.ok (pV b o) w:=by kernel_rfl
theorem zw (b o:Nat)(w:World):(Instr.fieldAt 151 (pV b o) 1).run Tryz.prog w=.ok (.pointer (some ⟨b,o+3,none⟩)) w:=by kernel_rfl
theorem km (b o:Nat)(w:World):(Instr.fieldAt 151 (pV b o) 3).run Tryz.prog w=.ok (.pointer (some ⟨b,o+11,none⟩)) w:=by kernel_rfl
theorem DN (b o:Nat)(w:World):(Instr.fieldAt 151 (pV b o) 4).run Tryz.prog w=.ok (.pointer (some ⟨b,o+12,none⟩)) w:=by kernel_rfl
theorem DM (b o:Nat)(w:World):(Instr.fieldAt 151 (pV b o) 6).run Tryz.prog w=.ok (.pointer (some ⟨b,o+14,none⟩)) w:=by kernel_rfl
theorem vL (b o:Nat)(w:World):(Instr.fieldAt 197 (pV b o) 0).run Tryz.prog w=.ok (pV b o) w:=by kernel_rfl
theorem DL (b o:Nat)(w:World):(Instr.fieldAt 197 (pV b o) 1).run Tryz.prog w=.ok (.pointer (some ⟨b,o+1,none⟩)) w:=by kernel_rfl
theorem vK (b o:Nat)(w:World):(Instr.fieldAt 199 (pV b o) 0).run Tryz.prog w=.ok (pV b o) w:=by kernel_rfl
theorem vJ (b o:Nat)(w:World):(Instr.fieldAt 199 (pV b o) 1).run Tryz.prog w=.ok (.pointer (some ⟨b,o+2,none⟩)) w:=by kernel_rfl
theorem qn (b o:Nat)(w:World):(Instr.fieldAt 199 (pV b o) 3).run Tryz.prog w=.ok (.pointer (some ⟨b,o+4,none⟩)) w:=by kernel_rfl
theorem sw (b o:Nat)(w:World):(Instr.fieldAt 201 (pV b o) 0).run Tryz.prog w=.ok (pV b o) w:=by kernel_rfl
theorem su (b o:Nat)(w:World):(Instr.fieldAt 201 (pV b o) 1).run Tryz.prog w=.ok (.pointer (some ⟨b,o+1,none⟩)) w:=by kernel_rfl
theorem oX (b o:Nat)(w:World):(Instr.fieldAt 201 (pV b o) 2).run Tryz.prog w=.ok (.pointer (some ⟨b,o+4,none⟩)) w:=by kernel_rfl
theorem ss (b o:Nat)(w:World):(Instr.fieldAt 201 (pV b o) 3).run Tryz.prog w=.ok (.pointer (some ⟨b,o+5,none⟩)) w:=by kernel_rfl
theorem oW (b o:Nat)(w:World):(Instr.fieldAt 205 (pV b o) 0).run Tryz.prog w=.ok (pV b o) w:=by kernel_rfl
theorem vI (b o:Nat)(w:World):(Instr.fieldAt 205 (pV b o) 1).run Tryz.prog w=.ok (.pointer (some ⟨b,o+1,none⟩)) w:=by kernel_rfl
theorem DK (b o:Nat)(w:World):(Instr.fieldAt 247 (pV b o) 0).run Tryz.prog w=.ok (pV b o) w:=by kernel_rfl
theorem dy:iB Tryz.prog 3=true:=by kernel_rfl
theorem zi:iB Tryz.prog 4=true:=by kernel_rfl
theorem ID:iB Tryz.prog 9=true:=by kernel_rfl
theorem tS:iB Tryz.prog 36=true:=by kernel_rfl
theorem gX:iB Tryz.prog 38=true:=by kernel_rfl
theorem GE:iB Tryz.prog 67=true:=by kernel_rfl
theorem Dp:iB Tryz.prog 82=true:=by kernel_rfl
theorem kY:iB Tryz.prog 142=true:=by kernel_rfl
theorem Dq:iB Tryz.prog 144=true:=by kernel_rfl
theorem tj:iB Tryz.prog 193=true:=by kernel_rfl
theorem xK:iB Tryz.prog 195=true:=by kernel_rfl
theorem nD:iB Tryz.prog 202=true:=by kernel_rfl
theorem Ah:iB Tryz.prog 203=true:=by kernel_rfl
theorem G3:iB Tryz.prog 211=true:=by kernel_rfl
theorem G2:iB Tryz.prog 245=true:=by kernel_rfl
theorem bI:pR Tryz.prog 24 3=true:=by kernel_rfl
theorem aJ:pR Tryz.prog 30 3=true:=by kernel_rfl
theorem dA:pR Tryz.prog 32 11=true:=by kernel_rfl
theorem dg:pR Tryz.prog 42 13=true:=by kernel_rfl
theorem GO:pR Tryz.prog 57 7=true:=by kernel_rfl
theorem GN:pR Tryz.prog 84 4=true:=by kernel_rfl
theorem cj:pR Tryz.prog 138 6=true:=by kernel_rfl
theorem Ej:pR Tryz.prog 197 2=true:=by kernel_rfl
theorem oL:pR Tryz.prog 201 6=true:=by kernel_rfl
theorem gJ:fu Tryz.prog 3 1=true:=by kernel_rfl
theorem uP:fu Tryz.prog 4 1=true:=by kernel_rfl
theorem cF:fu Tryz.prog 24 3=true:=by kernel_rfl
theorem bi:fu Tryz.prog 30 3=true:=by kernel_rfl
theorem rI:fu Tryz.prog 32 11=true:=by kernel_rfl
theorem mw:fu Tryz.prog 38 1=true:=by kernel_rfl
theorem ce:fu Tryz.prog 42 13=true:=by kernel_rfl
theorem z7:fu Tryz.prog 67 1=true:=by kernel_rfl
theorem dc:fu Tryz.prog 138 6=true:=by kernel_rfl
theorem EK:fu Tryz.prog 195 1=true:=by kernel_rfl
theorem dD:fu Tryz.prog 201 6=true:=by kernel_rfl
theorem EJ:fu Tryz.prog 202 1=true:=by kernel_rfl
theorem EI:fu Tryz.prog 211 1=true:=by kernel_rfl
theorem HZ (w:World):(zeroValue 3).run Tryz.prog w=.ok (iV 0) w:=by kernel_rfl
theorem Gz (w:World):(zeroValue 4).run Tryz.prog w=.ok (.bool false) w:=by kernel_rfl
theorem rG (w:World):(zeroValue 24).run Tryz.prog w=.ok (.agg #[iV 0,iV 0,.string ⟨#[]⟩]) w:=by kernel_rfl
theorem fH (w:World):(zeroValue 30).run Tryz.prog w=.ok (.agg #[iV 0,iV 0,.string ⟨#[]⟩]) w:=by kernel_rfl
theorem uK (w:World):(zeroValue 32).run Tryz.prog w=.ok (.agg #[iV 0,iV 0,iV 0,iV 0,.string ⟨#[]⟩,iV 0,iV 0,.string ⟨#[]⟩,iV 0,iV 0,.string ⟨#[]⟩]) w:=by kernel_rfl
theorem dx (w:World):(zeroValue 42).run Tryz.prog w=.ok (.agg #[iV 0,iV 0,.string ⟨#[]⟩,iV 0,iV 0,iV 0,.string ⟨#[]⟩,iV 0,iV 0,.string ⟨#[]⟩,iV 0,iV 0,.string ⟨#[]⟩]) w:=by kernel_rfl
theorem GV (w:World):(zeroValue 67).run Tryz.prog w=.ok (I none 0 0) w:=by kernel_rfl
theorem f6 (w:World):(zeroValue 138).run Tryz.prog w=.ok (.agg #[iV 0,iV 0,iV 0,iV 0,I none 0 0,I none 0 0]) w:=by kernel_rfl
theorem o5 (w:World):(zeroValue 201).run Tryz.prog w=.ok (.agg #[iV 0,iV 0,iV 0,.string ⟨#[]⟩,iV 0,iV 0]) w:=by kernel_rfl
theorem Ew (w:World):(zeroValue 211).run Tryz.prog w=.ok (I none 0 0) w:=by kernel_rfl
theorem DH (x0_:Int)(x1_:Int)(x2_:ByteArray)(w:World):(Instr.field 30 (.agg #[iV x0_,iV x1_,.string x2_]) 0).run Tryz.prog w=.ok (iV x0_) w:=by kernel_rfl
theorem DG (x0_:Int)(x1_:Int)(x2_0_:Int)(x2_1_:Int)(x2_2_:ByteArray)(x3_0_:Int)(x3_1_:Int)(x3_2_:ByteArray)(x4_0_:Int)(x4_1_:Int)(x4_2_:ByteArray)(w:World):(Instr.field 32 (.agg #[iV x0_,iV x1_,iV x2_0_,iV x2_1_,.string x2_2_,iV x3_0_,iV x3_1_,.string x3_2_,iV x4_0_,iV x4_1_,.string x4_2_]) 0).run Tryz.prog w=.ok (iV x0_) w:=by kernel_rfl
theorem CF (x0_:Int)(x1_:Int)(x2_:Int)(x3_:Int)(x4_a:Option Addr)(x4_n x4_c:Nat)(x5_a:Option Addr)(x5_n x5_c:Nat)(w:World):(Instr.field 138 (.agg #[iV x0_,iV x1_,iV x2_,iV x3_,.slice x4_a x4_n x4_c,.slice x5_a x5_n x5_c]) 0).run Tryz.prog w=.ok (iV x0_) w:=by kernel_rfl
theorem AB (x0_:Int)(x1_:Int)(w:World):(Instr.build 24 #[(0,iV x0_),(1,iV x1_)]).run Tryz.prog w=.ok (.agg #[iV x0_,iV x1_,.string ⟨#[]⟩]) w:=by kernel_rfl
theorem wj (x0_:Int)(x2_:ByteArray)(w:World):(Instr.build 24 #[(0,iV x0_),(2,.string x2_)]).run Tryz.prog w=.ok (.agg #[iV x0_,iV 0,.string x2_]) w:=by kernel_rfl
theorem Ea (x1_:Int)(w:World):(Instr.build 24 #[(1,iV x1_)]).run Tryz.prog w=.ok (.agg #[iV 0,iV x1_,.string ⟨#[]⟩]) w:=by kernel_rfl
theorem fM  (w:World):(Instr.build 30 #[]).run Tryz.prog w=.ok (.agg #[iV 0,iV 0,.string ⟨#[]⟩]) w:=by kernel_rfl
theorem sO (x0_:Int)(w:World):(Instr.build 30 #[(0,iV x0_)]).run Tryz.prog w=.ok (.agg #[iV x0_,iV 0,.string ⟨#[]⟩]) w:=by kernel_rfl
theorem nP (x0_:Int)(x1_:Int)(w:World):(Instr.build 30 #[(0,iV x0_),(1,iV x1_)]).run Tryz.prog w=.ok (.agg #[iV x0_,iV x1_,.string ⟨#[]⟩]) w:=by kernel_rfl
theorem D9 (x0_:Int)(w:World):(Instr.build 32 #[(0,iV x0_)]).run Tryz.prog w=.ok (.agg #[iV x0_,iV 0,iV 0,iV 0,.string ⟨#[]⟩,iV 0,iV 0,.string ⟨#[]⟩,iV 0,iV 0,.string ⟨#[]⟩]) w:=by kernel_rfl
theorem sN (x0_:Int)(x1_:Int)(x2_0_:Int)(x2_1_:Int)(x2_2_:ByteArray)(w:World):(Instr.build 32 #[(0,iV x0_),(1,iV x1_),(2,.agg #[iV x2_0_,iV x2_1_,.string x2_2_])]).run Tryz.prog w=.ok (.agg #[iV x0_,iV x1_,iV x2_0_,iV x2_1_,.string x2_2_,iV 0,iV 0,.string ⟨#[]⟩,iV 0,iV 0,.string ⟨#[]⟩]) w:=by kernel_rfl
theorem qB (x0_:Int)(x1_:Int)(x3_0_:Int)(x3_1_:Int)(x3_2_:ByteArray)(x4_0_:Int)(x4_1_:Int)(x4_2_:ByteArray)(w:World):(Instr.build 32 #[(0,iV x0_),(1,iV x1_),(3,.agg #[iV x3_0_,iV x3_1_,.string x3_2_]),(4,.agg #[iV x4_0_,iV x4_1_,.string x4_2_])]).run Tryz.prog w=.ok (.agg #[iV x0_,iV x1_,iV 0,iV 0,.string ⟨#[]⟩,iV x3_0_,iV x3_1_,.string x3_2_,iV x4_0_,iV x4_1_,.string x4_2_]) w:=by kernel_rfl
theorem rb  (w:World):(Instr.build 42 #[]).run Tryz.prog w=.ok (.agg #[iV 0,iV 0,.string ⟨#[]⟩,iV 0,iV 0,iV 0,.string ⟨#[]⟩,iV 0,iV 0,.string ⟨#[]⟩,iV 0,iV 0,.string ⟨#[]⟩]) w:=by kernel_rfl
theorem D8 (x0_0_:Int)(x0_1_:Int)(x0_2_:ByteArray)(w:World):(Instr.build 42 #[(0,.agg #[iV x0_0_,iV x0_1_,.string x0_2_])]).run Tryz.prog w=.ok (.agg #[iV x0_0_,iV x0_1_,.string x0_2_,iV 0,iV 0,iV 0,.string ⟨#[]⟩,iV 0,iV 0,.string ⟨#[]⟩,iV 0,iV 0,.string ⟨#[]⟩]) w:=by kernel_rfl
theorem AA (x0_0_:Int)(x0_1_:Int)(x0_2_:ByteArray)(x1_:Int)(w:World):(Instr.build 42 #[(0,.agg #[iV x0_0_,iV x0_1_,.string x0_2_]),(1,iV x1_)]).run Tryz.prog w=.ok (.agg #[iV x0_0_,iV x0_1_,.string x0_2_,iV x1_,iV 0,iV 0,.string ⟨#[]⟩,iV 0,iV 0,.string ⟨#[]⟩,iV 0,iV 0,.string ⟨#[]⟩]) w:=by kernel_rfl
theorem pu (x0_0_:Int)(x0_1_:Int)(x0_2_:ByteArray)(x1_:Int)(x2_0_:Int)(x2_1_:Int)(x2_2_:ByteArray)(w:World):(Instr.build 42 #[(0,.agg #[iV x0_0_,iV x0_1_,.string x0_2_]),(1,iV x1_),(2,.agg #[iV x2_0_,iV x2_1_,.string x2_2_])]).run Tryz.prog w=.ok (.agg #[iV x0_0_,iV x0_1_,.string x0_2_,iV x1_,iV x2_0_,iV x2_1_,.string x2_2_,iV 0,iV 0,.string ⟨#[]⟩,iV 0,iV 0,.string ⟨#[]⟩]) w:=by kernel_rfl
theorem tD (x1_:Int)(x2_:Int)(x3_:Int)(x5_:Int)(x6_:Int)(w:World):(Instr.build 57 #[(1,iV x1_),(2,iV x2_),(3,iV x3_),(5,iV x5_),(6,iV x6_)]).run Tryz.prog w=.ok (.agg #[iV 0,iV x1_,iV x2_,iV x3_,iV 0,iV x5_,iV x6_]) w:=by kernel_rfl
theorem wk  (w:World):(Instr.build 138 #[]).run Tryz.prog w=.ok (.agg #[iV 0,iV 0,iV 0,iV 0,I none 0 0,I none 0 0]) w:=by kernel_rfl
theorem xm (x0_:Int)(w:World):(Instr.build 138 #[(0,iV x0_)]).run Tryz.prog w=.ok (.agg #[iV x0_,iV 0,iV 0,iV 0,I none 0 0,I none 0 0]) w:=by kernel_rfl
theorem wM (x0_:Int)(x2_:Int)(x4_a:Option Addr)(x4_n x4_c:Nat)(w:World):(Instr.build 138 #[(0,iV x0_),(2,iV x2_),(4,.slice x4_a x4_n x4_c)]).run Tryz.prog w=.ok (.agg #[iV x0_,iV 0,iV x2_,iV 0,.slice x4_a x4_n x4_c,I none 0 0]) w:=by kernel_rfl
theorem pI (x0_:Int)(x2_:Int)(x4_a:Option Addr)(x4_n x4_c:Nat)(x5_a:Option Addr)(x5_n x5_c:Nat)(w:World):(Instr.build 138 #[(0,iV x0_),(2,iV x2_),(4,.slice x4_a x4_n x4_c),(5,.slice x5_a x5_n x5_c)]).run Tryz.prog w=.ok (.agg #[iV x0_,iV 0,iV x2_,iV 0,.slice x4_a x4_n x4_c,.slice x5_a x5_n x5_c]) w:=by kernel_rfl
theorem zM (x0_:Int)(x4_a:Option Addr)(x4_n x4_c:Nat)(w:World):(Instr.build 138 #[(0,iV x0_),(4,.slice x4_a x4_n x4_c)]).run Tryz.prog w=.ok (.agg #[iV x0_,iV 0,iV 0,iV 0,.slice x4_a x4_n x4_c,I none 0 0]) w:=by kernel_rfl
theorem wL (x0_0_:Int)(x0_1_:Int)(x0_2_:Int)(x0_3_:Int)(x0_4_a:Option Addr)(x0_4_n x0_4_c:Nat)(x0_5_a:Option Addr)(x0_5_n x0_5_c:Nat)(x1_:Option Addr)(x2_0_:Int)(x2_1_:Int)(x2_2_:ByteArray)(w:World):(Instr.build 140 #[(0,.agg #[iV x0_0_,iV x0_1_,iV x0_2_,iV x0_3_,.slice x0_4_a x0_4_n x0_4_c,.slice x0_5_a x0_5_n x0_5_c]),(1,.pointer x1_),(2,.agg #[iV x2_0_,iV x2_1_,.string x2_2_])]).run Tryz.prog w=.ok (.agg #[iV x0_0_,iV x0_1_,iV x0_2_,iV x0_3_,.slice x0_4_a x0_4_n x0_4_c,.slice x0_5_a x0_5_n x0_5_c,.pointer x1_,iV x2_0_,iV x2_1_,.string x2_2_]) w:=by kernel_rfl
theorem wK (x1_0_:Int)(x1_1_:Int)(x1_2_:Int)(x1_3_:Int)(x1_4_:Int)(x1_5_:Int)(x1_6_:Int)(x3_:Option Addr)(x4_:Option Addr)(w:World):(Instr.build 151 #[(1,.agg #[iV x1_0_,iV x1_1_,iV x1_2_,iV x1_3_,iV x1_4_,iV x1_5_,iV x1_6_]),(3,.pointer x3_),(4,.pointer x4_)]).run Tryz.prog w=.ok (.agg #[iV 0,iV 0,iV 0,iV x1_0_,iV x1_1_,iV x1_2_,iV x1_3_,iV x1_4_,iV x1_5_,iV x1_6_,.nilIface,.pointer x3_,.pointer x4_,I none 0 0,iV 0,iV 0,iV 0,I none 0 0,I none 0 0]) w:=by kernel_rfl
theorem CU (x3_:Option Addr)(w:World):(Instr.build 199 #[(3,.pointer x3_)]).run Tryz.prog w=.ok (.agg #[I none 0 0,I none 0 0,I none 0 0,I none 0 0,.pointer x3_]) w:=by kernel_rfl
theorem Eb  (w:World):(Instr.build 201 #[]).run Tryz.prog w=.ok (.agg #[iV 0,iV 0,iV 0,.string ⟨#[]⟩,iV 0,iV 0]) w:=by kernel_rfl
theorem CT (x0_:Int)(w:World):(Instr.build 201 #[(0,iV x0_)]).run Tryz.prog w=.ok (.agg #[iV x0_,iV 0,iV 0,.string ⟨#[]⟩,iV 0,iV 0]) w:=by kernel_rfl
theorem uh (x0_:Int)(x1_0_:Int)(x1_1_:Int)(x1_2_:ByteArray)(x2_:Int)(x3_:Int)(w:World):(Instr.build 201 #[(0,iV x0_),(1,.agg #[iV x1_0_,iV x1_1_,.string x1_2_]),(2,iV x2_),(3,iV x3_)]).run Tryz.prog w=.ok (.agg #[iV x0_,iV x1_0_,iV x1_1_,.string x1_2_,iV x2_,iV x3_]) w:=by kernel_rfl
theorem zL (x1_0_:Int)(x1_1_:Int)(x1_2_:ByteArray)(x2_:Int)(w:World):(Instr.build 201 #[(1,.agg #[iV x1_0_,iV x1_1_,.string x1_2_]),(2,iV x2_)]).run Tryz.prog w=.ok (.agg #[iV 0,iV x1_0_,iV x1_1_,.string x1_2_,iV x2_,iV 0]) w:=by kernel_rfl
theorem zK (x0_a:Option Addr)(x0_n x0_c:Nat)(x1_:Option Nat)(w:World):(Instr.build 205 #[(0,.slice x0_a x0_n x0_c),(1,.map x1_)]).run Tryz.prog w=.ok (.agg #[.slice x0_a x0_n x0_c,.map x1_]) w:=by kernel_rfl
theorem CS (x0_:Option Nat)(w:World):(Instr.build 247 #[(0,.map x0_)]).run Tryz.prog w=.ok (.agg #[.map x0_]) w:=by kernel_rfl
theorem rE (x0_:Int)(x1_0_:Int)(x1_1_:Int)(x1_2_:ByteArray)(x2_:Int)(w:World):(Instr.build 257 #[(0,iV x0_),(1,.agg #[iV x1_0_,iV x1_1_,.string x1_2_]),(2,iV x2_)]).run Tryz.prog w=.ok (.agg #[iV x0_,iV x1_0_,iV x1_1_,.string x1_2_,iV x2_]) w:=by kernel_rfl
theorem D7  (w:World):(Instr.buildSlice 38 0 #[]).run Tryz.prog w=.ok (.slice (some ⟨w.heap.size,0,none⟩) 0 0) (w.alloc (.cells #[] 30)):=by kernel_rfl
theorem iU (x0_0_:Int)(x0_1_:Int)(x0_2_:ByteArray)(w:World):(Instr.buildSlice 38 1 #[(0,.agg #[iV x0_0_,iV x0_1_,.string x0_2_])]).run Tryz.prog w=.ok (.slice (some ⟨w.heap.size,0,none⟩) 1 1) (w.alloc (.cells #[iV x0_0_,iV x0_1_,.string x0_2_] 30)):=by kernel_rfl
theorem wi (x0_0_:Int)(x0_1_:Int)(x0_2_:ByteArray)(x1_0_:Int)(x1_1_:Int)(x1_2_:ByteArray)(w:World):(Instr.buildSlice 38 2 #[(0,.agg #[iV x0_0_,iV x0_1_,.string x0_2_]),(1,.agg #[iV x1_0_,iV x1_1_,.string x1_2_])]).run Tryz.prog w=.ok (.slice (some ⟨w.heap.size,0,none⟩) 2 2) (w.alloc (.cells #[iV x0_0_,iV x0_1_,.string x0_2_,iV x1_0_,iV x1_1_,.string x1_2_] 30)):=by kernel_rfl
theorem D6 (x0_0_:Int)(x0_1_:Int)(x0_2_:ByteArray)(x1_0_:Int)(x1_1_:Int)(x1_2_:ByteArray)(x2_0_:Int)(x2_1_:Int)(x2_2_:ByteArray)(x3_0_:Int)(x3_1_:Int)(x3_2_:ByteArray)(w:World):(Instr.buildSlice 38 4 #[(0,.agg #[iV x0_0_,iV x0_1_,.string x0_2_]),(1,.agg #[iV x1_0_,iV x1_1_,.string x1_2_]),(2,.agg #[iV x2_0_,iV x2_1_,.string x2_2_]),(3,.agg #[iV x3_0_,iV x3_1_,.string x3_2_])]).run Tryz.prog w=.ok (.slice (some ⟨w.heap.size,0,none⟩) 4 4) (w.alloc (.cells #[iV x0_0_,iV x0_1_,.string x0_2_,iV x1_0_,iV x1_1_,.string x1_2_,iV x2_0_,iV x2_1_,.string x2_2_,iV x3_0_,iV x3_1_,.string x3_2_] 30)):=by kernel_rfl
theorem qA (x0_0_:Int)(x0_1_:Int)(x0_2_:ByteArray)(w:World):(Instr.buildSlice 67 1 #[(0,.agg #[iV x0_0_,iV x0_1_,.string x0_2_])]).run Tryz.prog w=.ok (.slice (some ⟨w.heap.size,0,none⟩) 1 1) (w.alloc (.cells #[iV x0_0_,iV x0_1_,.string x0_2_] 24)):=by kernel_rfl
theorem zJ (x0_0_0_:Int)(x0_0_1_:Int)(x0_0_2_:ByteArray)(x0_1_:Int)(x0_2_0_:Int)(x0_2_1_:Int)(x0_2_2_:ByteArray)(x0_3_0_:Int)(x0_3_1_:Int)(x0_3_2_:ByteArray)(x0_4_0_:Int)(x0_4_1_:Int)(x0_4_2_:ByteArray)(w:World):(Instr.buildSlice 82 1 #[(0,.agg #[iV x0_0_0_,iV x0_0_1_,.string x0_0_2_,iV x0_1_,iV x0_2_0_,iV x0_2_1_,.string x0_2_2_,iV x0_3_0_,iV x0_3_1_,.string x0_3_2_,iV x0_4_0_,iV x0_4_1_,.string x0_4_2_])]).run Tryz.prog w=.ok (.slice (some ⟨w.heap.size,0,none⟩) 1 1) (w.alloc (.cells #[iV x0_0_0_,iV x0_0_1_,.string x0_0_2_,iV x0_1_,iV x0_2_0_,iV x0_2_1_,.string x0_2_2_,iV x0_3_0_,iV x0_3_1_,.string x0_3_2_,iV x0_4_0_,iV x0_4_1_,.string x0_4_2_] 42)):=by kernel_rfl
theorem CR (x0_0_:Int)(x0_1_:Int)(x0_2_:Int)(x0_3_:Int)(x0_4_a:Option Addr)(x0_4_n x0_4_c:Nat)(x0_5_a:Option Addr)(x0_5_n x0_5_c:Nat)(w:World):(Instr.buildSlice 195 1 #[(0,.agg #[iV x0_0_,iV x0_1_,iV x0_2_,iV x0_3_,.slice x0_4_a x0_4_n x0_4_c,.slice x0_5_a x0_5_n x0_5_c])]).run Tryz.prog w=.ok (.slice (some ⟨w.heap.size,0,none⟩) 1 1) (w.alloc (.cells #[iV x0_0_,iV x0_1_,iV x0_2_,iV x0_3_,.slice x0_4_a x0_4_n x0_4_c,.slice x0_5_a x0_5_n x0_5_c] 138)):=by kernel_rfl
theorem tC (x0_0_:Int)(x0_1_0_:Int)(x0_1_1_:Int)(x0_1_2_:ByteArray)(x0_2_:Int)(x0_3_:Int)(w:World):(Instr.buildSlice 202 1 #[(0,.agg #[iV x0_0_,iV x0_1_0_,iV x0_1_1_,.string x0_1_2_,iV x0_2_,iV x0_3_])]).run Tryz.prog w=.ok (.slice (some ⟨w.heap.size,0,none⟩) 1 1) (w.alloc (.cells #[iV x0_0_,iV x0_1_0_,iV x0_1_1_,.string x0_1_2_,iV x0_2_,iV x0_3_] 201)):=by kernel_rfl
theorem xl (x0_:Int)(w:World):(Instr.buildSlice 211 1 #[(0,iV x0_)]).run Tryz.prog w=.ok (.slice (some ⟨w.heap.size,0,none⟩) 1 1) (w.alloc (.cells #[iV x0_] 3)):=by kernel_rfl
theorem IS:oM Tryz.prog 3 1 8=true:=by kernel_rfl
theorem C0:oM Tryz.prog 24 3 32=true:=by kernel_rfl
theorem wt:oM Tryz.prog 30 3 32=true:=by kernel_rfl
theorem H0:oM Tryz.prog 42 13 136=true:=by kernel_rfl
theorem H2:oM Tryz.prog 138 6 80=true:=by kernel_rfl
theorem H1:oM Tryz.prog 201 6 56=true:=by kernel_rfl
instance:Fc (iB Tryz.prog 3=true):=⟨dy⟩
instance:Fc (iB Tryz.prog 4=true):=⟨zi⟩
instance:Fc (iB Tryz.prog 9=true):=⟨ID⟩
instance:Fc (iB Tryz.prog 36=true):=⟨tS⟩
instance:Fc (iB Tryz.prog 38=true):=⟨gX⟩
instance:Fc (iB Tryz.prog 67=true):=⟨GE⟩
instance:Fc (iB Tryz.prog 82=true):=⟨Dp⟩
instance:Fc (iB Tryz.prog 142=true):=⟨kY⟩
instance:Fc (iB Tryz.prog 144=true):=⟨Dq⟩
instance:Fc (iB Tryz.prog 193=true):=⟨tj⟩
instance:Fc (iB Tryz.prog 195=true):=⟨xK⟩
instance:Fc (iB Tryz.prog 202=true):=⟨nD⟩
instance:Fc (iB Tryz.prog 203=true):=⟨Ah⟩
instance:Fc (iB Tryz.prog 211=true):=⟨G3⟩
instance:Fc (iB Tryz.prog 245=true):=⟨G2⟩
instance:FcA0 Tryz.prog 24 0:=⟨Fq⟩
instance:FcA Tryz.prog 24 1 1:=⟨ya⟩
instance:FcA Tryz.prog 24 2 2:=⟨Fo⟩
instance:FcA0 Tryz.prog 30 0:=⟨mY⟩
instance:FcA Tryz.prog 30 1 1:=⟨uz⟩
instance:FcA Tryz.prog 30 2 2:=⟨Fn⟩
instance:FcA0 Tryz.prog 32 0:=⟨Bo⟩
instance:FcA Tryz.prog 32 1 1:=⟨Bn⟩
instance:FcA Tryz.prog 32 2 2:=⟨Fm⟩
instance:FcA Tryz.prog 32 3 5:=⟨Fl⟩
instance:FcA Tryz.prog 32 4 8:=⟨Fk⟩
instance:FcA0 Tryz.prog 42 0:=⟨uy⟩
instance:FcA Tryz.prog 42 1 3:=⟨sr⟩
instance:FcA Tryz.prog 42 2 4:=⟨Bm⟩
instance:FcA Tryz.prog 42 3 7:=⟨ux⟩
instance:FcA Tryz.prog 42 4 10:=⟨uw⟩
instance:FcA0 Tryz.prog 57 0:=⟨Fj⟩
instance:FcA Tryz.prog 57 1 1:=⟨Fi⟩
instance:FcA Tryz.prog 57 2 2:=⟨Fh⟩
instance:FcA Tryz.prog 57 3 3:=⟨Bl⟩
instance:FcA Tryz.prog 57 4 4:=⟨Fg⟩
instance:FcA Tryz.prog 57 5 5:=⟨Ff⟩
instance:FcA Tryz.prog 57 6 6:=⟨Fe⟩
instance:FcA0 Tryz.prog 84 0:=⟨Fd⟩
instance:FcA Tryz.prog 84 1 1:=⟨Fb⟩
instance:FcA Tryz.prog 84 2 2:=⟨xZ⟩
instance:FcA Tryz.prog 84 3 3:=⟨Fa⟩
instance:FcA0 Tryz.prog 138 0:=⟨zB⟩
instance:FcA Tryz.prog 138 1 1:=⟨mq⟩
instance:FcA Tryz.prog 138 2 2:=⟨zA⟩
instance:FcA Tryz.prog 138 3 3:=⟨ln⟩
instance:FcA Tryz.prog 138 4 4:=⟨jD⟩
instance:FcA Tryz.prog 138 5 5:=⟨nM⟩
instance:FcA0 Tryz.prog 140 0:=⟨fk⟩
instance:FcA Tryz.prog 140 1 6:=⟨nL⟩
instance:FcA Tryz.prog 140 2 7:=⟨zz⟩
instance:FcA Tryz.prog 147 1 1:=⟨zy⟩
instance:FcA0 Tryz.prog 151 0:=⟨zx⟩
instance:FcA Tryz.prog 151 1 3:=⟨zw⟩
instance:FcA Tryz.prog 151 3 11:=⟨km⟩
instance:FcA Tryz.prog 151 4 12:=⟨DN⟩
instance:FcA Tryz.prog 151 6 14:=⟨DM⟩
instance:FcA0 Tryz.prog 197 0:=⟨vL⟩
instance:FcA Tryz.prog 197 1 1:=⟨DL⟩
instance:FcA0 Tryz.prog 199 0:=⟨vK⟩
instance:FcA Tryz.prog 199 1 2:=⟨vJ⟩
instance:FcA Tryz.prog 199 3 4:=⟨qn⟩
instance:FcA0 Tryz.prog 201 0:=⟨sw⟩
instance:FcA Tryz.prog 201 1 1:=⟨su⟩
instance:FcA Tryz.prog 201 2 4:=⟨oX⟩
instance:FcA Tryz.prog 201 3 5:=⟨ss⟩
instance:FcA0 Tryz.prog 205 0:=⟨oW⟩
instance:FcA Tryz.prog 205 1 1:=⟨vI⟩
instance:FcA0 Tryz.prog 247 0:=⟨DK⟩
theorem CB:Tryz.prog.eqGuardType Tryz.prog.depth 24=false:=by kernel_rfl
theorem Fv (x y:JW)(w:World):(Op.equalIn 10000 24 (.agg #[iV x.Kind,iV x.N,.string x.S]) (.agg #[iV y.Kind,iV y.N,.string y.S])).run Tryz.prog w=.ok (decide (x=y)) w:=by
 obtain ⟨xKind,xN,xS⟩:=x;obtain ⟨yKind,yN,yS⟩:=y;show (Op.equalIn 10000 24 (.agg #[iV xKind,iV xN,.string xS]) (.agg #[iV yKind,iV yN,.string yS])).run Tryz.prog w=_
 go_simp
 simp only [sM];by_cases h0:xKind=yKind<;>by_cases h1:xN=yN<;>by_cases h2:xS=yS<;>simp [h0,h1,h2]
theorem sx {s:cy}{C:World→Prop}{d:Option Nat}{ty u:TypeId}{pos:String}{af:Array Edge}{gd:Option (Nat×Bool)}{a b:Operand}{x y:JW}(hx:cw s a=some (.agg #[iV x.Kind,iV x.N,.string x.S]))(hy:cw s b=some (.agg #[iV y.Kind,iV y.N,.string y.S])):Ev Tryz.prog s C ⟨d,.binOp .eql 24 a b u,ty,pos,af,gd⟩ (.bool (decide (x=y))):=
 eH hx hy fun w=>by
  rw [Sem.run_bind,run_eqGuard_agg w _ _ _ _ _ _ CB];simp only [Result.andThen_ok];rw [run_eql_struct,Fv];rfl
theorem xb:Tryz.prog.eqGuardType Tryz.prog.depth 30=false:=by kernel_rfl
theorem Br (x y:JS)(w:World):(Op.equalIn 10000 30 (.agg #[iV x.Kind,iV x.N,.string x.S]) (.agg #[iV y.Kind,iV y.N,.string y.S])).run Tryz.prog w=.ok (decide (x=y)) w:=by
 obtain ⟨xKind,xN,xS⟩:=x;obtain ⟨yKind,yN,yS⟩:=y;show (Op.equalIn 10000 30 (.agg #[iV xKind,iV xN,.string xS]) (.agg #[iV yKind,iV yN,.string yS])).run Tryz.prog w=_
 go_simp
 simp only [sM];by_cases h0:xKind=yKind<;>by_cases h1:xN=yN<;>by_cases h2:xS=yS<;>simp [h0,h1,h2]
theorem lp {s:cy}{C:World→Prop}{d:Option Nat}{ty u:TypeId}{pos:String}{af:Array Edge}{gd:Option (Nat×Bool)}{a b:Operand}{x y:JS}(hx:cw s a=some (.agg #[iV x.Kind,iV x.N,.string x.S]))(hy:cw s b=some (.agg #[iV y.Kind,iV y.N,.string y.S])):Ev Tryz.prog s C ⟨d,.binOp .eql 30 a b u,ty,pos,af,gd⟩ (.bool (decide (x=y))):=
 eH hx hy fun w=>by
  rw [Sem.run_bind,run_eqGuard_agg w _ _ _ _ _ _ xb];simp only [Result.andThen_ok];rw [run_eql_struct,Br];rfl
theorem tu {s:cy}{C:World→Prop}{d:Option Nat}{ty u:TypeId}{pos:String}{af:Array Edge}{gd:Option (Nat×Bool)}{a b:Operand}{x y:JS}(hx:cw s a=some (.agg #[iV x.Kind,iV x.N,.string x.S]))(hy:cw s b=some (.agg #[iV y.Kind,iV y.N,.string y.S])):Ev Tryz.prog s C ⟨d,.binOp .neq 30 a b u,ty,pos,af,gd⟩ (.bool (!decide (x=y))):=
 eH hx hy fun w=>by
  rw [Sem.run_bind,run_eqGuard_agg w _ _ _ _ _ _ xb];simp only [Result.andThen_ok];rw [run_neq_struct,Br];rfl
theorem CA:Tryz.prog.eqGuardType Tryz.prog.depth 42=false:=by kernel_rfl
theorem Fu (x y:JQ)(w:World):(Op.equalIn 10000 42 ((bE x)) ((bE y))).run Tryz.prog w=.ok (decide (x=y)) w:=by
 obtain ⟨⟨xKeyKind,xKeyN,xKeyS⟩,xAttrs,⟨xValueKind,xValueN,xValueS⟩,⟨xGetKind,xGetN,xGetS⟩,⟨xSetKind,xSetN,xSetS⟩⟩:=x;obtain ⟨⟨yKeyKind,yKeyN,yKeyS⟩,yAttrs,⟨yValueKind,yValueN,yValueS⟩,⟨yGetKind,yGetN,yGetS⟩,⟨ySetKind,ySetN,ySetS⟩⟩:=y;show (Op.equalIn 10000 42 (.agg #[iV xKeyKind,iV xKeyN,.string xKeyS,iV xAttrs,iV xValueKind,iV xValueN,.string xValueS,iV xGetKind,iV xGetN,.string xGetS,iV xSetKind,iV xSetN,.string xSetS]) (.agg #[iV yKeyKind,iV yKeyN,.string yKeyS,iV yAttrs,iV yValueKind,iV yValueN,.string yValueS,iV yGetKind,iV yGetN,.string yGetS,iV ySetKind,iV ySetN,.string ySetS])).run Tryz.prog w=_
 go_simp
 simp only [sM];by_cases h0:xKeyKind=yKeyKind
 rotate_left
 ·simp [h0]
 by_cases h1:xKeyN=yKeyN
 rotate_left
 ·simp [h0,h1]
 by_cases h2:xKeyS=yKeyS
 rotate_left
 ·simp [h0,h1,h2]
 by_cases h3:xAttrs=yAttrs
 rotate_left
 ·simp [h0,h1,h2,h3]
 by_cases h4:xValueKind=yValueKind
 rotate_left
 ·simp [h0,h1,h2,h3,h4]
 by_cases h5:xValueN=yValueN
 rotate_left
 ·simp [h0,h1,h2,h3,h4,h5]
 by_cases h6:xValueS=yValueS
 rotate_left
 ·simp [h0,h1,h2,h3,h4,h5,h6]
 by_cases h7:xGetKind=yGetKind
 rotate_left
 ·simp [h0,h1,h2,h3,h4,h5,h6,h7]
 by_cases h8:xGetN=yGetN
 rotate_left
 ·simp [h0,h1,h2,h3,h4,h5,h6,h7,h8]
 by_cases h9:xGetS=yGetS
 rotate_left
 ·simp [h0,h1,h2,h3,h4,h5,h6,h7,h8,h9]
 by_cases h10:xSetKind=ySetKind
 rotate_left
 ·simp [h0,h1,h2,h3,h4,h5,h6,h7,h8,h9,h10]
 by_cases h11:xSetN=ySetN
 rotate_left
 ·simp [h0,h1,h2,h3,h4,h5,h6,h7,h8,h9,h10,h11]
 by_cases h12:xSetS=ySetS
 rotate_left
 ·simp [h0,h1,h2,h3,h4,h5,h6,h7,h8,h9,h10,h11,h12]
 simp [h0,h1,h2,h3,h4,h5,h6,h7,h8,h9,h10,h11,h12]
theorem CK {s:cy}{C:World→Prop}{d:Option Nat}{ty u:TypeId}{pos:String}{af:Array Edge}{gd:Option (Nat×Bool)}{a b:Operand}{x y:JQ}(hx:cw s a=some ((bE x)))(hy:cw s b=some ((bE y))):Ev Tryz.prog s C ⟨d,.binOp .neq 42 a b u,ty,pos,af,gd⟩ (.bool (!decide (x=y))):=
 eH hx hy fun w=>by
  rw [Sem.run_bind,run_eqGuard_agg w _ _ _ _ _ _ CA];simp only [Result.andThen_ok];rw [run_neq_struct,Fu];rfl
theorem DP (x y:JK)(w:World):(Op.equalIn 10000 257 ((DF x)) ((DF y))).run Tryz.prog w=.ok (decide (x=y)) w:=by
 obtain ⟨xup_,⟨xkey_Kind,xkey_N,xkey_S⟩,xattrs_⟩:=x;obtain ⟨yup_,⟨ykey_Kind,ykey_N,ykey_S⟩,yattrs_⟩:=y;show (Op.equalIn 10000 257 (.agg #[iV xup_,iV xkey_Kind,iV xkey_N,.string xkey_S,iV xattrs_]) (.agg #[iV yup_,iV ykey_Kind,iV ykey_N,.string ykey_S,iV yattrs_])).run Tryz.prog w=_
 go_simp
 simp only [sM];by_cases h0:xup_=yup_
 rotate_left
 ·simp [h0]
 by_cases h1:xkey_Kind=ykey_Kind
 rotate_left
 ·simp [h0,h1]
 by_cases h2:xkey_N=ykey_N
 rotate_left
 ·simp [h0,h1,h2]
 by_cases h3:xkey_S=ykey_S
 rotate_left
 ·simp [h0,h1,h2,h3]
 by_cases h4:xattrs_=yattrs_
 rotate_left
 ·simp [h0,h1,h2,h3,h4]
 simp [h0,h1,h2,h3,h4]
def aF (x:JK):Value:=.agg #[iV x.up_,iV x.key_.Kind,iV x.key_.N,.string x.key_.S,iV x.attrs_]
theorem vD:KeyOk Tryz.prog 257 aF where
 und:=⟨_,Tryz.underlying257,fun a b=> .inl rfl⟩
 eq:=fun a b w=>DP a b w
 check:=fun e a w=>by
  obtain ⟨xup_,⟨xkey_Kind,xkey_N,xkey_S⟩,xattrs_⟩:=a;kernel_rfl
 bits:=fun a=>by
  obtain ⟨xup_,⟨xkey_Kind,xkey_N,xkey_S⟩,xattrs_⟩:=a;simp [aF,Instr.sameBits,AD]
def d9 (N:Nat)(a0:Int)(a1:Int)(a2:Int):Option Bool:=
 (bif decide (a1≤a0) then (some (decide (a0≤a2))) else (some false)).bind fun b1=>some b1
theorem ey {N:Nat}{a0:Int}{a1:Int}{a2:Int}{r:Bool}(h:d9 N a0 a1 a2=some r):Okc Tryz.prog 147 [iV a0,iV a1,iV a2] ([]) (fun u post=>u=.bool r∧post=[]):=by
 refine bx Tryz.func147 J J ?_;simp only [aX];refine Y ?_;obtain ⟨b1,hb1,h⟩:=aa h;refine aK 4 14 b1 ?_ ?_
 ·clear h;refine aI 10 J (fun g1=> ?_) (fun g1=> ?_)
  ·have h:=ae g1 hb1;refine Y ?_;obtain rfl:=ao h;exact ac sA (cS [] 0)
  have h:=ah g1 hb1;refine Y ?_;obtain rfl:=ao h;exact ac sA (cS [] 0)
 refine Y ?_;obtain rfl:=ao h;exact aN J J (cS [] 0) ⟨J,J⟩
theorem dS {r:Bool}: ∀v post,((fun (u:Value) (post:List Chunk)=>u=.bool r∧post=[])) v post→ ∀c∈post,cB c:=by
 rintro _ _ ⟨rfl,rfl⟩;exact ak
def rp (N:Nat)(a0:JO):Option Bool:=
 (d9 N a0.Way 0 1).bind fun y2=>(bif y2 then ((d9 N a0.Steps 0 1073741824).bind fun y4=>some y4) else (some false)).bind fun b3=>(bif b3 then ((d9 N a0.Calls 1 200).bind fun y6=>some y6) else (some false)).bind fun b5=>(bif b5 then ((d9 N a0.Made 0 1048576).bind fun y8=>some y8) else (some false)).bind fun b7=>(bif b7 then ((d9 N a0.Young 0 1073741824).bind fun y10=>some y10) else (some false)).bind fun b9=>(bif b9 then ((d9 N a0.Full 0 1073741824).bind fun y12=>some y12) else (some false)).bind fun b11=>(bif b11 then ((d9 N a0.Sites 0 4).bind fun y14=>some y14) else (some false)).bind fun b13=>some b13
set_option maxHeartbeats 4000000 in
theorem uW {N:Nat}{a0:JO}{r:Bool}(h:rp N a0=some r):Okc Tryz.prog 85 [(zu a0)] ([]) (fun u post=>u=.bool r∧post=[]):=by
 refine bx Tryz.func85 J J ?_;simp only [aX];refine Y ?_;refine gD (aQ J J) ?_;rintro _ _ ⟨B1,rfl,rfl⟩;refine Y ?_;obtain ⟨y2,hy2,h⟩:=aa h;refine gD (fw (ey hy2) pt J J J (ak) dS) ?_;rintro _ _ ⟨_,⟨rfl,rfl⟩,rfl⟩;refine Y ?_;obtain ⟨b3,hb3,h⟩:=aa h;refine aK 5 13 b3 ?_ ?_
 ·clear h;refine aI 8 J (fun g3=> ?_) (fun g3=> ?_)
  ·have h:=ae g3 hb3;refine Y ?_;obtain ⟨y4,hy4,h⟩:=aa h;refine cL (fw (ey hy4) pt J J J (ak) dS) J (bp g3 J) J ?_;rintro _ _ ⟨_,⟨rfl,rfl⟩,rfl⟩;refine Y ?_;obtain rfl:=ao h;exact ac sA (cS [0] 1)
  have h:=ah g3 hb3;refine Y ?_;obtain rfl:=ao h;exact ac sA (cS [0] 1)
 refine Y ?_;obtain ⟨b5,hb5,h⟩:=aa h;refine aK 5 19 b5 ?_ ?_
 ·clear h;refine aI 14 J (fun g5=> ?_) (fun g5=> ?_)
  ·have h:=ae g5 hb5;refine Y ?_;obtain ⟨y6,hy6,h⟩:=aa h;refine cL (fw (ey hy6) pt J J J (ak) dS) J (bp g5 J) J ?_;rintro _ _ ⟨_,⟨rfl,rfl⟩,rfl⟩;refine Y ?_;obtain rfl:=ao h;exact ac sA (cS [0] 1)
  have h:=ah g5 hb5;refine Y ?_;obtain rfl:=ao h;exact ac sA (cS [0] 1)
 refine Y ?_;obtain ⟨b7,hb7,h⟩:=aa h;refine aK 5 25 b7 ?_ ?_
 ·clear h;refine aI 20 J (fun g7=> ?_) (fun g7=> ?_)
  ·have h:=ae g7 hb7;refine Y ?_;obtain ⟨y8,hy8,h⟩:=aa h;refine cL (fw (ey hy8) pt J J J (ak) dS) J (bp g7 J) J ?_;rintro _ _ ⟨_,⟨rfl,rfl⟩,rfl⟩;refine Y ?_;obtain rfl:=ao h;exact ac sA (cS [0] 1)
  have h:=ah g7 hb7;refine Y ?_;obtain rfl:=ao h;exact ac sA (cS [0] 1)
 refine Y ?_;obtain ⟨b9,hb9,h⟩:=aa h;refine aK 5 31 b9 ?_ ?_
 ·clear h;refine aI 26 J (fun g9=> ?_) (fun g9=> ?_)
  ·have h:=ae g9 hb9;refine Y ?_;obtain ⟨y10,hy10,h⟩:=aa h;refine cL (fw (ey hy10) pt J J J (ak) dS) J (bp g9 J) J ?_;rintro _ _ ⟨_,⟨rfl,rfl⟩,rfl⟩;refine Y ?_;obtain rfl:=ao h;exact ac sA (cS [0] 1)
  have h:=ah g9 hb9;refine Y ?_;obtain rfl:=ao h;exact ac sA (cS [0] 1)
 refine Y ?_;obtain ⟨b11,hb11,h⟩:=aa h;refine aK 5 37 b11 ?_ ?_
 ·clear h;refine aI 32 J (fun g11=> ?_) (fun g11=> ?_)
  ·have h:=ae g11 hb11;refine Y ?_;obtain ⟨y12,hy12,h⟩:=aa h;refine cL (fw (ey hy12) pt J J J (ak) dS) J (bp g11 J) J ?_;rintro _ _ ⟨_,⟨rfl,rfl⟩,rfl⟩;refine Y ?_;obtain rfl:=ao h;exact ac sA (cS [0] 1)
  have h:=ah g11 hb11;refine Y ?_;obtain rfl:=ao h;exact ac sA (cS [0] 1)
 refine Y ?_;obtain ⟨b13,hb13,h⟩:=aa h;refine aK 5 43 b13 ?_ ?_
 ·clear h;refine aI 38 J (fun g13=> ?_) (fun g13=> ?_)
  ·have h:=ae g13 hb13;refine Y ?_;obtain ⟨y14,hy14,h⟩:=aa h;refine cL (fw (ey hy14) pt J J J (ak) dS) J (bp g13 J) J ?_;rintro _ _ ⟨_,⟨rfl,rfl⟩,rfl⟩;refine Y ?_;obtain rfl:=ao h;exact ac sA (cS [0] 1)
  have h:=ah g13 hb13;refine Y ?_;obtain rfl:=ao h;exact ac sA (cS [0] 1)
 refine Y ?_;obtain rfl:=ao h;exact aN J J (cS [] 1) ⟨J,J⟩
theorem td {r:Bool}: ∀v post,((fun (u:Value) (post:List Chunk)=>u=.bool r∧post=[])) v post→ ∀c∈post,cB c:=by
 rintro _ _ ⟨rfl,rfl⟩;exact ak
def r9 (N:Nat):Option JI:=
 some (⟨([]:(List (Int×Bool)))⟩:JI)
theorem wv {N:Nat}{r:JI}(h:r9 N=some r):Okc Tryz.prog 148 [] ([]) (fun u post=> ∃B0 M1,u=pV B0 0∧post=[ad B0 247 [.map (some M1)],aG cx cz M1 r.at_]):=by
 refine bx Tryz.func148 J J ?_;simp only [aX];refine Y ?_;refine gD (vo (ek:=cx) (ev:=cz)) ?_;rintro _ _ ⟨M1,rfl,rfl⟩;refine gE (be J (CS _)) ?_;refine gD (aQ J J) ?_;rintro _ _ ⟨B2,rfl,rfl⟩;refine Y ?_;obtain rfl:=ao h;exact aN J J (cS [0,1] 2) ⟨_,_,J,J⟩
def vF (N:Nat):Option JJ:=
 (r9 N).bind fun y1=>some (⟨(⟨[],[]⟩:JN),[],[],y1⟩:JJ)
theorem zt {N:Nat}{r:JJ}(h:vF N=some r):Okc Tryz.prog 86 [] ([]) (fun u post=> ∃B0 A1 n1 c1 A2 n2 c2 A3 n3 c3 A4 n4 c4 B5 M6,u=pV B0 0∧post=[ad B0 199 [I A1 n1 c1,I A2 n2 c2,I A3 n3 c3,I A4 n4 c4,pV B5 0],br A1 n1 c1 r.m_.Young,br A2 n2 c2 r.m_.Old,aY A3 n3 c3 r.roots_,aY A4 n4 c4 r.pending_,ad B5 247 [.map (some M6)],aG cx cz M6 r.set_.at_]):=by
 refine bx Tryz.func86 J J ?_;simp only [aX];refine Y ?_;obtain ⟨y1,hy1,h⟩:=aa h;refine gD (aD (wv hy1) F3 J (aB [] [] [] 0 J)) ?_;rintro _ _ ⟨_,⟨B2,M3,rfl,rfl⟩,rfl⟩;refine gE (be J (CU _)) ?_;refine gD (aQ J J) ?_;rintro _ _ ⟨B4,rfl,rfl⟩;refine Y ?_;obtain rfl:=ao h;exact aN J J ((fL qh 138 _).trans ((fL qh 138 _).trans ((fL bW 30 _).trans ((fL bW 30 _).trans (cS [4,3,2,1,0,5,6] 7))))) ⟨_,_,_,_,_,_,_,_,_,_,_,_,_,_,_,J,J⟩
def tJ (N:Nat):Option JP:=
 some (⟨([(⟨(-1),(⟨0,0,⟨#[]⟩⟩:JW),0,0⟩:JG)]:List JG),([]:(List (JK×Int)))⟩:JP)
theorem xB {N:Nat}{r:JP}(h:tJ N=some r):Okc Tryz.prog 87 [] ([]) (fun u post=> ∃B0 A1 n1 c1 M2,u=pV B0 0∧post=[ad B0 205 [I A1 n1 c1,.map (some M2)],cE A1 n1 c1 r.shapes_,aG aF cv M2 r.next_]):=by
 refine bx Tryz.func87 J J ?_;simp only [aX];refine Y ?_;refine gE (be J (CT _)) ?_;refine gD (co (R:=qQ) (vss:=[[iV (-1),iV 0,iV 0,.string (⟨#[]⟩),iV 0,iV 0]]) (xs:=[(⟨(-1),(⟨0,0,⟨#[]⟩⟩:JW),0,0⟩:JG)]) J (tC _ _ _ _ _ _) J J (fun _ _ hr=> .cons J All2.nil)) ?_;rintro _ _ ⟨A1,n1,c1,rfl,rfl⟩;refine gD (vo (ek:=aF) (ev:=cv)) ?_;rintro _ _ ⟨M2,rfl,rfl⟩;refine gE (be J (zK _ _ _ _)) ?_;refine gD (aQ J J) ?_;rintro _ _ ⟨B3,rfl,rfl⟩;refine Y ?_;obtain rfl:=ao h;exact aN J J (cS [0,2,1] 3) ⟨_,_,_,_,_,J,J⟩
def cg (N:Nat)(a0:JJ):Option Bool:=
 some false
theorem eD {N:Nat}{a0:JJ}{r:Bool}(h:cg N a0=some r):Okc Tryz.prog 149 [pV B1 0] ([aU B1 199 [I A2 n2 c2,I A3 n3 c3,I A4 n4 c4,I A5 n5 c5,pV B6 0],pD A2 n2 c2 a0.m_.Young,pD A3 n3 c3 a0.m_.Old,dB A4 n4 c4 a0.roots_,dB A5 n5 c5 a0.pending_,aU B6 247 [.map (some M7)],ik cx cz M7 a0.set_.at_]) (fun u post=>u=.bool r∧post=[]):=by
 refine bx Tryz.func149 J J ?_;simp only [aX];refine Y ?_;refine gE (ee J Tryz.underlying142) ?_;refine Y ?_;refine gR (cD 0 J J tj J) ?_;refine gE (ee J Tryz.underlying193) ?_;refine Y ?_;obtain rfl:=ao h;exact aN J J (cS [] 7) ⟨J,J⟩
theorem dX {r:Bool}: ∀v post,((fun (u:Value) (post:List Chunk)=>u=.bool r∧post=[])) v post→ ∀c∈post,cB c:=by
 rintro _ _ ⟨rfl,rfl⟩;exact ak
def ib (N:Nat)(a0:JJ)(a1:Int):Option JS:=
 (cg N a0).bind fun y9=>(bif y9 then (some true) else (some (decide (a1<0)))).bind fun b10=>(bif b10 then (some true) else (some (decide ((a0.roots_.length:Int)≤a1)))).bind fun b11=>bif b11 then (some (⟨0,0,⟨#[]⟩⟩:JS)) else ((bT a0.roots_ a1).bind fun x13=>some x13)
theorem jj {N:Nat}{a0:JJ}{a1:Int}{r:JS}(h:ib N a0 a1=some r):Okc Tryz.prog 95 [pV B1 0,iV a1] ([aU B1 199 [I A2 n2 c2,I A3 n3 c3,I A4 n4 c4,I A5 n5 c5,pV B6 0],pD A2 n2 c2 a0.m_.Young,pD A3 n3 c3 a0.m_.Old,dB A4 n4 c4 a0.roots_,dB A5 n5 c5 a0.pending_,aU B6 247 [.map (some M7)],ik cx cz M7 a0.set_.at_]) (fun u post=>u=(bv r)∧post=[]):=by
 refine bx Tryz.func95 J J ?_;simp only [aX];refine Y ?_;refine gD (aO fH J) ?_;rintro _ _ ⟨B8,rfl,rfl⟩;refine Y ?_;refine aC ?_;refine Y ?_;obtain ⟨y9,hy9,h⟩:=aa h;refine gD (aq (eD hy9) qZ J (hD (am (i:=1) J J) (hD (am (i:=2) J J) (hD (am (i:=3) J J) (hD (am (i:=4) J J) (hD (am (i:=5) J J) (hD (am (i:=6) J J) (hD (am (i:=7) J J) ak))))))) dX) ?_;rintro _ _ ⟨_,⟨rfl,rfl⟩,rfl⟩;refine Y ?_;obtain ⟨b10,hb10,h⟩:=aa h;refine aK 3 10 b10 ?_ ?_
 ·clear h;refine aI 7 J (fun g10=> ?_) (fun g10=> ?_)
  ·have h:=ae g10 hb10;refine Y ?_;obtain rfl:=ao h;exact ac sA (cS [0,1,2,3,4,5,6,7] 8)
  have h:=ah g10 hb10;refine Y ?_;obtain rfl:=ao h;exact ac sA (cS [0,1,2,3,4,5,6,7] 8)
 refine Y ?_;obtain ⟨b11,hb11,h⟩:=aa h;refine aK 8 19 b11 ?_ ?_
 ·clear h;refine aI 11 J (fun g11=> ?_) (fun g11=> ?_)
  ·have h:=ae g11 hb11;refine Y ?_;obtain rfl:=ao h;exact ac sA (cS [0,1,2,3,4,5,6,7] 8)
  have h:=ah g11 hb11;refine Y ?_;refine ck (cD 1 J J gX J) J (cU g11 J) J ?_;refine ck (bK 4 J aR J hE) J (cU g11 J) J ?_;refine Y ?_;obtain rfl:=ao h;exact ac sA (cS [0,1,2,3,4,5,6,7] 8)
 refine Y ?_;refine ar J (fun g12=> ?_) (fun g12=> ?_)
 ·replace h:=ae g12 h;refine Y ?_;refine gE (be J (fM)) ?_;refine gO (av (us:=[iV 0,iV 0,.string (⟨#[]⟩)]) (cs':=[iV 0,iV 0,.string (⟨#[]⟩)]) 0 J J J J bi J J J) ?_;rintro _ _ rfl;refine Y ?_;obtain rfl:=ao h;exact cq (rs:=[.cell 4 30]) (vs:=[.agg #[iV 0,iV 0,.string (⟨#[]⟩)]]) J (.cons (bB 0 J J aJ) .nil) J (cS [] 8) ⟨J,J⟩
 replace h:=ah g12 h;refine Y ?_;refine gR (cD 1 J J gX J) ?_;refine Y ?_;obtain ⟨x13,hx13,h⟩:=aa h;obtain ⟨lx13,ux13,hx13⟩:=aH hx13;refine gR (bm 4 J aR J J hE bi lx13 ux13) ?_;refine gR (bn (us:=[iV x13.Kind,iV x13.N,.string x13.S]) 4 J aR J hx13 aJ (fun _ _ _ h=>by rw [show _=_ from h];rfl)) ?_;refine gO (av (us:=[iV x13.Kind,iV x13.N,.string x13.S]) (cs':=[iV x13.Kind,iV x13.N,.string x13.S]) 0 J J J J bi J J J) ?_;rintro _ _ rfl;refine Y ?_;obtain rfl:=ao h;exact cq (rs:=[.cell 4 30]) (vs:=[.agg #[iV x13.Kind,iV x13.N,.string x13.S]]) J (.cons (bB 0 J J aJ) .nil) J (cS [] 8) ⟨J,J⟩
theorem gU {r:JS}: ∀v post,((fun (u:Value) (post:List Chunk)=>u=(bv r)∧post=[])) v post→ ∀c∈post,cB c:=by
 rintro _ _ ⟨rfl,rfl⟩;exact ak
def iT (N:Nat){σ:Type}(fy:(Bool×JS)→σ→Option (Bool×σ))(a1:JU):Nat→Int→σ→Option σ
 |0,_,_=>none
 |m15+1,p16,p17=>bif decide (p16<(a1.More.length:Int)) then ((bT a1.More p16).bind fun x19=>(bif !decide (a1.Kind=8) then ((bif !decide (a1.Kind=10) then (some true) else (some (decide (p16.tmod 2=0)))).bind fun b22=>some b22) else (some false)).bind fun b21=>(fy (b21,x19) p17).bind fun y23=>bif !y23.1 then (some y23.2) else (cN (bM (p16+1)) ((iT N fy a1 m15) (p16+1) y23.2))) else (some p17)
def qz (N:Nat){σ:Type}(fy:(Bool×JS)→σ→Option (Bool×σ))(a1:JU)(p5:σ):Option σ:=
 iT N fy a1 N 0 p5
def jG (N:Nat){σ:Type}(fy:(Bool×JS)→σ→Option (Bool×σ))(a1:JU):Nat→Int→σ→Option σ
 |0,_,_=>none
 |m6+1,p7,p8=>bif decide (p7<(a1.Slots.length:Int)) then ((bT a1.Slots p7).bind fun x10=>(fy (true,x10) p8).bind fun y12=>bif !y12.1 then (some y12.2) else (cN (bM (p7+1)) ((jG N fy a1 m6) (p7+1) y12.2))) else (qz N fy a1 p8)
def kr (N:Nat){σ:Type}(a1:JU)(fy:(Bool×JS)→σ→Option (Bool×σ))(s0:σ):Option σ:=
 jG N fy a1 N 0 s0
set_option maxHeartbeats 4000000 in
theorem qy {N:Nat}{σ:Type}{a1:JU}{fy:(Bool×JS)→σ→Option (Bool×σ)}{s0:σ}{r:σ}(h:kr N a1 fy s0=some r){l:Nat}{G:σ→List Chunk}(hY:pw Tryz.prog l G (fun x=> [.bool x.1,.agg #[iV x.2.Kind,iV x.2.N,.string x.2.S]]) fy):Okc Tryz.prog 238 [.func (.yield l) #[] #[],pV B1 0] (aU B1 138 [iV a1.Kind,iV a1.Shape,iV a1.Flags,iV a1.Age,I A2 n2 c2,I A3 n3 c3]::dB A2 n2 c2 a1.Slots::dB A3 n3 c3 a1.More::(G s0)) (fun u post=>u=.tuple #[]∧post=G r):=by
 refine bx Tryz.func238 J J ?_;simp only [aX];refine ba (fun s L=> ∃p5,qz N fy a1 p5=some r∧s=[(0,.func (.yield l) #[] #[]),(1,pV B1 0)]∧L=dB A2 n2 c2 a1.Slots::dB A3 n3 c3 a1.More::aU B1 138 [iV a1.Kind,iV a1.Shape,iV a1.Flags,iV a1.Age,I A2 n2 c2,I A3 n3 c3]::(G p5)) ?_ ?_
 ·refine Y ?_;refine gR (cD 0 J J gX J) ?_;refine gR (bK 1 J aR J hE) ?_;refine Y ?_;refine ca (fun m s L=> ∃p7 p8,jG N fy a1 m p7 p8=some r∧s=[(0,.func (.yield l) #[] #[]),(1,pV B1 0),(9,I A2 n2 c2),(10,iV (a1.Slots.length:Int)),(11,iV p7)]∧L=dB A2 n2 c2 a1.Slots::dB A3 n3 c3 a1.More::aU B1 138 [iV a1.Kind,iV a1.Shape,iV a1.Flags,iV a1.Age,I A2 n2 c2,I A3 n3 c3]::(G p8)) N _ _ ⟨0,s0,h,J,J⟩ sA (cS [1,2,0] 3) ?_;rintro (_|m6) _ _ ⟨p7,p8,h,rfl,rfl⟩
  ·exact bh h
  rw [jG.eq_2] at h;refine Y ?_;refine aC ?_;refine ar J (fun g9=> ?_) (fun g9=> ?_)
  ·replace h:=ae g9 h;refine Y ?_;refine aC ?_;refine Y ?_;obtain ⟨x10,hx10,h⟩:=aa h;obtain ⟨lx10,ux10,hx10⟩:=aH hx10;refine gR (bm 0 J aR J J hE bi lx10 ux10) ?_;refine gR (bn (us:=[iV x10.Kind,iV x10.N,.string x10.S]) 0 J aR J hx10 aJ (fun _ _ _ h=>by rw [show _=_ from h];rfl)) ?_;refine gD (aO fH J) ?_;rintro _ _ ⟨B11,rfl,rfl⟩;refine gO (av (us:=[iV x10.Kind,iV x10.N,.string x10.S]) (cs':=[iV x10.Kind,iV x10.N,.string x10.S]) 0 J J J J bi J J J) ?_;rintro _ _ rfl;refine Y ?_;refine gR (aj (us:=[iV x10.Kind,iV x10.N,.string x10.S]) 0 J J aJ J) ?_;obtain ⟨y12,hy12,h⟩:=aa h;refine gD (th (a:=(true,x10)) [ad B11 30 [iV x10.Kind,iV x10.N,.string x10.S],dB A2 n2 c2 a1.Slots,dB A3 n3 c3 a1.More,aU B1 138 [iV a1.Kind,iV a1.Shape,iV a1.Flags,iV a1.Age,I A2 n2 c2,I A3 n3 c3]] hY hy12 J J) ?_;rintro _ _ ⟨rfl,rfl⟩;refine Y ?_;refine ar J (fun g13=> ?_) (fun g13=> ?_)
   ·replace h:=ae g13 h;refine Y ?_;obtain rfl:=ao h;exact xg J (cS [] 4) ⟨J,J⟩
   replace h:=ah g13 h;refine Y ?_;obtain ⟨q14,h⟩:=ay h;refine gE (bC J J q14.1 q14.2) ?_;refine Y ?_;exact ⟨m6,_,_,J1 _,⟨p7+1,y12.2,h,J,J⟩,sA,cS [1,2,3] 4⟩
  replace h:=ah g9 h;refine Y ?_;exact ⟨_,_,⟨p8,h,J,J⟩,sA,cS [0,1,2] 3⟩
 rintro _ _ ⟨p5,h,rfl,rfl⟩;refine Y ?_;refine gR (cD 2 J J gX J) ?_;refine gR (bK 1 J aR J hE) ?_;refine Y ?_;refine ca (fun m s L=> ∃p16 p17,iT N fy a1 m p16 p17=some r∧s=[(0,.func (.yield l) #[] #[]),(1,pV B1 0),(21,I A3 n3 c3),(22,iV (a1.More.length:Int)),(23,iV p16)]∧L=dB A3 n3 c3 a1.More::dB A2 n2 c2 a1.Slots::aU B1 138 [iV a1.Kind,iV a1.Shape,iV a1.Flags,iV a1.Age,I A2 n2 c2,I A3 n3 c3]::(G p17)) N _ _ ⟨0,p5,h,J,J⟩ sA (cS [1,0,2] 3) ?_;rintro (_|m15) _ _ ⟨p16,p17,h,rfl,rfl⟩
 ·exact bh h
 rw [iT.eq_2] at h;refine Y ?_;refine aC ?_;refine ar J (fun g18=> ?_) (fun g18=> ?_)
 ·replace h:=ae g18 h;refine Y ?_;refine aC ?_;refine Y ?_;obtain ⟨x19,hx19,h⟩:=aa h;obtain ⟨lx19,ux19,hx19⟩:=aH hx19;refine gR (bm 0 J aR J J hE bi lx19 ux19) ?_;refine gR (bn (us:=[iV x19.Kind,iV x19.N,.string x19.S]) 0 J aR J hx19 aJ (fun _ _ _ h=>by rw [show _=_ from h];rfl)) ?_;refine gD (aO fH J) ?_;rintro _ _ ⟨B20,rfl,rfl⟩;refine Y ?_;refine gO (av (us:=[iV x19.Kind,iV x19.N,.string x19.S]) (cs':=[iV x19.Kind,iV x19.N,.string x19.S]) 0 J J J J bi J J J) ?_;rintro _ _ rfl;refine bP ?_;refine Y ?_;refine gR (cD 3 J J dy J) ?_;refine Y ?_;obtain ⟨b21,hb21,h⟩:=aa h;refine aK 9 40 b21 ?_ ?_
  ·clear h;refine aI 31 J (fun g21=> ?_) (fun g21=> ?_)
   ·have h:=ae g21 hb21;refine Y ?_;refine ck (cD 3 J J dy J) J (bp g21 J) J ?_;refine Y ?_;obtain ⟨b22,hb22,h⟩:=aa h;refine aK 4 39 b22 ?_ ?_
    ·clear h;refine aI 35 J (fun g22=> ?_) (fun g22=> ?_)
     ·have h:=ae g22 hb22;refine Y ?_;obtain rfl:=ao h;exact ac sA (cS [0,1,2,3] 4)
     have h:=ah g22 hb22;refine Y ?_;refine ei (nN J J (by decide)) J (cU g22 J) J ?_;refine Y ?_;obtain rfl:=ao h;exact ac sA (cS [0,1,2,3] 4)
    refine Y ?_;obtain rfl:=ao h;exact ac sA (cS [0,1,2,3] 4)
   have h:=ah g21 hb21;refine Y ?_;obtain rfl:=ao h;exact ac sA (cS [0,1,2,3] 4)
  refine Y ?_;refine gR (aj (us:=[iV x19.Kind,iV x19.N,.string x19.S]) 0 J J aJ J) ?_;obtain ⟨y23,hy23,h⟩:=aa h;refine gD (th (a:=(b21,x19)) [ad B20 30 [iV x19.Kind,iV x19.N,.string x19.S],dB A3 n3 c3 a1.More,dB A2 n2 c2 a1.Slots,aU B1 138 [iV a1.Kind,iV a1.Shape,iV a1.Flags,iV a1.Age,I A2 n2 c2,I A3 n3 c3]] hY hy23 J J) ?_;rintro _ _ ⟨rfl,rfl⟩;refine Y ?_;refine ar J (fun g24=> ?_) (fun g24=> ?_)
  ·replace h:=ae g24 h;refine Y ?_;obtain rfl:=ao h;exact xg J (cS [] 4) ⟨J,J⟩
  replace h:=ah g24 h;refine Y ?_;obtain ⟨q25,h⟩:=ay h;refine gE (bC J J q25.1 q25.2) ?_;refine Y ?_;exact ⟨m15,_,_,J1 _,⟨p16+1,y23.2,h,J,J⟩,sA,cS [1,2,3] 4⟩
 replace h:=ah g18 h;refine Y ?_;obtain rfl:=ao h;exact eX J (cS [] 3) ⟨J,J⟩
def rT (N:Nat)(a0:JU):Option Unit:=
 some ()
theorem tY {N:Nat}{a0:JU}{r:Unit}(h:rT N a0=some r):Okc Tryz.prog 225 [.agg #[iV a0.Kind,iV a0.Shape,iV a0.Flags,iV a0.Age,I A1 n1 c1,I A2 n2 c2]] ([dB A1 n1 c1 a0.Slots,dB A2 n2 c2 a0.More]) (fun u post=> ∃B900,u=.func (.func 238) #[] #[pV B900 0]∧post=[ad B900 138 [iV a0.Kind,iV a0.Shape,iV a0.Flags,iV a0.Age,I A1 n1 c1,I A2 n2 c2]]):=by
 refine bx Tryz.func225 J J ?_;simp only [aX];refine Y ?_;refine gD (aQ J J) ?_;rintro _ _ ⟨B3,rfl,rfl⟩;refine Y ?_;refine gE (qp J) ?_;refine Y ?_;obtain rfl:=ao h;exact aN J J (cS [0] 3) ⟨_,J,J⟩
theorem rC {a0:JU}{A1:Option Addr}{n1:Nat}{c1:Nat}{A2:Option Addr}{n2:Nat}{c2:Nat}: ∀v post,((fun (u:Value) (post:List Chunk)=> ∃B900,u=.func (.func 238) #[] #[pV B900 0]∧post=[ad B900 138 [iV a0.Kind,iV a0.Shape,iV a0.Flags,iV a0.Age,I A1 n1 c1,I A2 n2 c2]])) v post→ ∀c∈post,cB c:=by
 rintro _ _ ⟨_,rfl,rfl⟩;exact hD ql (ak)
def iq (N:Nat)(a0:JS)(p10:Bool):Option Bool:=
 bif p10 then (some (decide (1≤a0.N))) else ((bif decide (a0.N=0) then (some (decide (0≤a0.Kind))) else (some false)).bind fun b14=>(bif b14 then (some (decide (a0.Kind≤9))) else (some false)).bind fun b15=>some b15)
def gH (N:Nat)(a0:JS):Option Bool:=
 bif decide (a0.Kind=5) then ((bif decide (a0.N=0) then (some (decide ((a0.S.size:Int)≤65536))) else (some false)).bind fun b3=>some b3) else (bif !(a0.S.toList==(⟨#[]⟩:ByteArray).toList) then (some false) else (bif decide (a0.Kind=2) then ((bif decide (a0.N=0) then (some true) else (some (decide (a0.N=1)))).bind fun b6=>some b6) else (bif decide (a0.Kind=3) then ((bif decide ((-9007199254740992)≤a0.N) then (some (decide (a0.N≤9007199254740992))) else (some false)).bind fun b8=>some b8) else (bif decide (a0.Kind=6) then (iq N a0 (decide (a0.Kind=6))) else (bif decide (a0.Kind=7) then (iq N a0 (decide (a0.Kind=7))) else (iq N a0 (decide (a0.Kind=9))))))))
set_option maxHeartbeats 4000000 in
theorem zH {N:Nat}{a0:JS}{r:Bool}(h:gH N a0=some r):Okc Tryz.prog 226 [(bv a0)] ([]) (fun u post=>u=.bool r∧post=[]):=by
 refine bx Tryz.func226 J J ?_;simp only [aX];refine Y ?_;refine gD (aQ J J) ?_;rintro _ _ ⟨B1,rfl,rfl⟩;refine Y ?_;refine aC ?_;refine Y ?_;refine ar J (fun g2=> ?_) (fun g2=> ?_)
 ·replace h:=ae g2 h;refine Y ?_;obtain ⟨b3,hb3,h⟩:=aa h;refine aK 5 14 b3 ?_ ?_
  ·clear h;refine aI 9 J (fun g3=> ?_) (fun g3=> ?_)
   ·have h:=ae g3 hb3;refine Y ?_;refine ei (ky J hH) J (bp g3 J) J ?_;refine Y ?_;obtain rfl:=ao h;exact ac sA (cS [0] 1)
   have h:=ah g3 hb3;refine Y ?_;obtain rfl:=ao h;exact ac sA (cS [0] 1)
  refine Y ?_;obtain rfl:=ao h;exact aN J J (cS [] 1) ⟨J,J⟩
 replace h:=ah g2 h;refine Y ?_;refine aC ?_;refine Y ?_;refine gE (vM J J) ?_;refine Y ?_;refine ar J (fun g4=> ?_) (fun g4=> ?_)
 ·replace h:=ae g4 h;refine Y ?_;obtain rfl:=ao h;exact aN J J (cS [] 1) ⟨J,J⟩
 replace h:=ah g4 h;refine Y ?_;refine aC ?_;refine Y ?_;refine ar J (fun g5=> ?_) (fun g5=> ?_)
 ·replace h:=ae g5 h;refine Y ?_;obtain ⟨b6,hb6,h⟩:=aa h;refine aK 4 29 b6 ?_ ?_
  ·clear h;refine aI 25 J (fun g6=> ?_) (fun g6=> ?_)
   ·have h:=ae g6 hb6;refine Y ?_;obtain rfl:=ao h;exact ac sA (cS [0] 1)
   have h:=ah g6 hb6;refine Y ?_;obtain rfl:=ao h;exact ac sA (cS [0] 1)
  refine Y ?_;obtain rfl:=ao h;exact aN J J (cS [] 1) ⟨J,J⟩
 replace h:=ah g5 h;refine Y ?_;refine ar J (fun g7=> ?_) (fun g7=> ?_)
 ·replace h:=ae g7 h;refine Y ?_;obtain ⟨b8,hb8,h⟩:=aa h;refine aK 4 39 b8 ?_ ?_
  ·clear h;refine aI 35 J (fun g8=> ?_) (fun g8=> ?_)
   ·have h:=ae g8 hb8;refine Y ?_;obtain rfl:=ao h;exact ac sA (cS [0] 1)
   have h:=ah g8 hb8;refine Y ?_;obtain rfl:=ao h;exact ac sA (cS [0] 1)
  refine Y ?_;obtain rfl:=ao h;exact aN J J (cS [] 1) ⟨J,J⟩
 replace h:=ah g7 h;refine ba (fun s L=> ∃p10,iq N a0 p10=some r∧s=[(1,pV B1 0),(2,.bool false),(40,.bool p10)]∧L=[ad B1 30 (ax a0)]) ?_ ?_
 ·refine Y ?_;refine ar J (fun g11=> ?_) (fun g11=> ?_)
  ·replace h:=ae g11 h;refine Y ?_;exact ⟨_,_,⟨decide (a0.Kind=6),h,J,J⟩,sA,cS [0] 1⟩
  replace h:=ah g11 h;refine Y ?_;refine ar J (fun g12=> ?_) (fun g12=> ?_)
  ·replace h:=ae g12 h;refine Y ?_;exact ⟨_,_,⟨decide (a0.Kind=7),h,J,J⟩,sA,cS [0] 1⟩
  replace h:=ah g12 h;refine Y ?_;exact ⟨_,_,⟨decide (a0.Kind=9),h,J,J⟩,sA,cS [0] 1⟩
 rintro _ _ ⟨p10,h,rfl,rfl⟩;refine ar J (fun g13=> ?_) (fun g13=> ?_)
 ·replace h:=ae g13 h;refine Y ?_;obtain rfl:=ao h;exact aN J J (cS [] 1) ⟨J,J⟩
 replace h:=ah g13 h;refine Y ?_;obtain ⟨b14,hb14,h⟩:=aa h;refine aK 4 54 b14 ?_ ?_
 ·clear h;refine aI 50 J (fun g14=> ?_) (fun g14=> ?_)
  ·have h:=ae g14 hb14;refine Y ?_;obtain rfl:=ao h;exact ac sA (cS [0] 1)
  have h:=ah g14 hb14;refine Y ?_;obtain rfl:=ao h;exact ac sA (cS [0] 1)
 refine Y ?_;obtain ⟨b15,hb15,h⟩:=aa h;refine aK 4 59 b15 ?_ ?_
 ·clear h;refine aI 55 J (fun g15=> ?_) (fun g15=> ?_)
  ·have h:=ae g15 hb15;refine Y ?_;obtain rfl:=ao h;exact ac sA (cS [0] 1)
  have h:=ah g15 hb15;refine Y ?_;obtain rfl:=ao h;exact ac sA (cS [0] 1)
 refine Y ?_;obtain rfl:=ao h;exact aN J J (cS [] 1) ⟨J,J⟩
theorem wG {r:Bool}: ∀v post,((fun (u:Value) (post:List Chunk)=>u=.bool r∧post=[])) v post→ ∀c∈post,cB c:=by
 rintro _ _ ⟨rfl,rfl⟩;exact ak
def fN (N:Nat)(p2:Bool):Option Bool:=
 bif p2 then (some true) else (some false)
def lO (N:Nat)(a0:Int):Option Bool:=
 bif decide (a0=1) then (fN N (decide (a0=1))) else (bif decide (a0=2) then (fN N (decide (a0=2))) else (bif decide (a0=3) then (fN N (decide (a0=3))) else (bif decide (a0=6) then (fN N (decide (a0=6))) else (bif decide (a0=8) then (fN N (decide (a0=8))) else (bif decide (a0=9) then (fN N (decide (a0=9))) else (fN N (decide (a0=10))))))))
theorem zI {N:Nat}{a0:Int}{r:Bool}(h:lO N a0=some r):Okc Tryz.prog 239 [iV a0] ([]) (fun u post=>u=.bool r∧post=[]):=by
 refine bx Tryz.func239 J J ?_;simp only [aX];refine Y ?_;refine aC ?_;refine Y ?_;refine ba (fun s L=> ∃p2,fN N p2=some r∧s=[(2,.bool false),(4,.bool p2)]∧L=[]) ?_ ?_
 ·refine Y ?_;refine ar J (fun g3=> ?_) (fun g3=> ?_)
  ·replace h:=ae g3 h;refine Y ?_;exact ⟨_,_,⟨decide (a0=1),h,J,J⟩,sA,cS [] 0⟩
  replace h:=ah g3 h;refine Y ?_;refine ar J (fun g4=> ?_) (fun g4=> ?_)
  ·replace h:=ae g4 h;refine Y ?_;exact ⟨_,_,⟨decide (a0=2),h,J,J⟩,sA,cS [] 0⟩
  replace h:=ah g4 h;refine Y ?_;refine ar J (fun g5=> ?_) (fun g5=> ?_)
  ·replace h:=ae g5 h;refine Y ?_;exact ⟨_,_,⟨decide (a0=3),h,J,J⟩,sA,cS [] 0⟩
  replace h:=ah g5 h;refine Y ?_;refine ar J (fun g6=> ?_) (fun g6=> ?_)
  ·replace h:=ae g6 h;refine Y ?_;exact ⟨_,_,⟨decide (a0=6),h,J,J⟩,sA,cS [] 0⟩
  replace h:=ah g6 h;refine Y ?_;refine ar J (fun g7=> ?_) (fun g7=> ?_)
  ·replace h:=ae g7 h;refine Y ?_;exact ⟨_,_,⟨decide (a0=8),h,J,J⟩,sA,cS [] 0⟩
  replace h:=ah g7 h;refine Y ?_;refine ar J (fun g8=> ?_) (fun g8=> ?_)
  ·replace h:=ae g8 h;refine Y ?_;exact ⟨_,_,⟨decide (a0=9),h,J,J⟩,sA,cS [] 0⟩
  replace h:=ah g8 h;refine Y ?_;exact ⟨_,_,⟨decide (a0=10),h,J,J⟩,sA,cS [] 0⟩
 rintro _ _ ⟨p2,h,rfl,rfl⟩;refine ar J (fun g9=> ?_) (fun g9=> ?_)
 ·replace h:=ae g9 h;refine Y ?_;obtain rfl:=ao h;exact aN J J (cS [] 0) ⟨J,J⟩
 replace h:=ah g9 h;refine Y ?_;obtain rfl:=ao h;exact aN J J (cS [] 0) ⟨J,J⟩
theorem wI {r:Bool}: ∀v post,((fun (u:Value) (post:List Chunk)=>u=.bool r∧post=[])) v post→ ∀c∈post,cB c:=by
 rintro _ _ ⟨rfl,rfl⟩;exact ak
def fb (N:Nat)(a0:JS)(a1:Int):Option Bool:=
 (bif decide (a0.Kind=0) then (some true) else (some (decide (a0.Kind=a1)))).bind fun b2=>some b2
theorem ic {N:Nat}{a0:JS}{a1:Int}{r:Bool}(h:fb N a0 a1=some r):Okc Tryz.prog 240 [(bv a0),iV a1] ([]) (fun u post=>u=.bool r∧post=[]):=by
 refine bx Tryz.func240 J J ?_;simp only [aX];refine Y ?_;refine gD (aQ J J) ?_;rintro _ _ ⟨B1,rfl,rfl⟩;refine Y ?_;obtain ⟨b2,hb2,h⟩:=aa h;refine aK 5 13 b2 ?_ ?_
 ·clear h;refine aI 8 J (fun g2=> ?_) (fun g2=> ?_)
  ·have h:=ae g2 hb2;refine Y ?_;obtain rfl:=ao h;exact ac sA (cS [0] 1)
  have h:=ah g2 hb2;refine Y ?_;obtain rfl:=ao h;exact ac sA (cS [0] 1)
 refine Y ?_;obtain rfl:=ao h;exact aN J J (cS [] 1) ⟨J,J⟩
theorem fS {r:Bool}: ∀v post,((fun (u:Value) (post:List Chunk)=>u=.bool r∧post=[])) v post→ ∀c∈post,cB c:=by
 rintro _ _ ⟨rfl,rfl⟩;exact ak
def eB (N:Nat)(a0:JU):Option Bool:=
 (lO N a0.Kind).bind fun y4=>(bif y4 then (some true) else ((bif decide (a0.Kind=7) then (some (decide (0<(a0.Slots.length:Int)))) else (some false)).bind fun b6=>some b6)).bind fun b5=>bif b5 then ((bif decide (1≤(a0.Slots.length:Int)) then (some (decide ((a0.Slots.length:Int)≤1025))) else (some false)).bind fun b8=>(bif b8 then ((bT a0.Slots 0).bind fun x10=>(bif decide (x10.Kind=1) then (some true) else ((bT a0.Slots 0).bind fun x12=>some (decide (x12.Kind=7)))).bind fun b11=>some b11) else (some false)).bind fun b9=>some b9) else (bif decide (a0.Kind=7) then (some (decide (a0.Shape=0))) else ((bif !decide (a0.Shape=0) then (some true) else (some (!decide (a0.Flags=0)))).bind fun b14=>bif b14 then (some false) else (bif decide (a0.Kind=5) then ((bif decide ((a0.Slots.length:Int)=2) then ((bT a0.Slots 0).bind fun x18=>(fb N x18 7).bind fun y19=>some y19) else (some false)).bind fun b17=>(bif b17 then ((bT a0.Slots 1).bind fun x21=>(fb N x21 7).bind fun y22=>some y22) else (some false)).bind fun b20=>some b20) else (some (decide ((a0.Slots.length:Int)=0))))))
set_option maxHeartbeats 4000000 in
theorem rS {N:Nat}{a0:JU}{r:Bool}(h:eB N a0=some r):Okc Tryz.prog 227 [.agg #[iV a0.Kind,iV a0.Shape,iV a0.Flags,iV a0.Age,I A1 n1 c1,I A2 n2 c2]] ([dB A1 n1 c1 a0.Slots,dB A2 n2 c2 a0.More]) (fun u post=>u=.bool r∧post=[]):=by
 refine bx Tryz.func227 J J ?_;simp only [aX];refine Y ?_;refine gD (aQ J J) ?_;rintro _ _ ⟨B3,rfl,rfl⟩;refine Y ?_;refine aC ?_;refine Y ?_;obtain ⟨y4,hy4,h⟩:=aa h;refine gD (aq (zI hy4) FI J (ak) wI) ?_;rintro _ _ ⟨_,⟨rfl,rfl⟩,rfl⟩;refine Y ?_;obtain ⟨b5,hb5,h⟩:=aa h;refine aK 10 16 b5 ?_ ?_
 ·clear h;refine aI 6 J (fun g5=> ?_) (fun g5=> ?_)
  ·have h:=ae g5 hb5;refine Y ?_;obtain rfl:=ao h;exact ac sA (cS [0,1,2] 3)
  have h:=ah g5 hb5;refine Y ?_;obtain ⟨b6,hb6,h⟩:=aa h;refine aK 5 15 b6 ?_ ?_
  ·clear h;refine aI 10 J (fun g6=> ?_) (fun g6=> ?_)
   ·have h:=ae g6 hb6;refine Y ?_;refine ck (bK 1 J aR J hE) J (bp g6 J) J ?_;refine Y ?_;obtain rfl:=ao h;exact ac sA (cS [0,1,2] 3)
   have h:=ah g6 hb6;refine Y ?_;obtain rfl:=ao h;exact ac sA (cS [0,1,2] 3)
  refine Y ?_;obtain rfl:=ao h;exact ac sA (cS [0,1,2] 3)
 refine Y ?_;refine ar J (fun g7=> ?_) (fun g7=> ?_)
 ·replace h:=ae g7 h;refine Y ?_;refine gR (bK 1 J aR J hE) ?_;refine Y ?_;obtain ⟨b8,hb8,h⟩:=aa h;refine aK 5 26 b8 ?_ ?_
  ·clear h;refine aI 21 J (fun g8=> ?_) (fun g8=> ?_)
   ·have h:=ae g8 hb8;refine Y ?_;refine ck (bK 1 J aR J hE) J (bp g8 J) J ?_;refine Y ?_;obtain rfl:=ao h;exact ac sA (cS [0,1,2] 3)
   have h:=ah g8 hb8;refine Y ?_;obtain rfl:=ao h;exact ac sA (cS [0,1,2] 3)
  refine Y ?_;obtain ⟨b9,hb9,h⟩:=aa h;refine aK 15 42 b9 ?_ ?_
  ·clear h;refine aI 27 J (fun g9=> ?_) (fun g9=> ?_)
   ·have h:=ae g9 hb9;refine Y ?_;obtain ⟨x10,hx10,h⟩:=aa h;obtain ⟨lx10,ux10,hx10⟩:=aH hx10;refine ck (bm 1 J aR J J hE bi lx10 ux10) J (bp g9 J) J ?_;refine ck (oC 1 J aR J (toNat_lt lx10 ux10) mY) J (bp g9 J) J ?_;refine ck (eK (u:=iV x10.Kind) 1 J aR J hx10 dy (fun _ _ _ h=>by rw [show _=_ from h];rfl)) J (bp g9 J) J ?_;refine Y ?_;obtain ⟨b11,hb11,h⟩:=aa h;refine aK 7 41 b11 ?_ ?_
    ·clear h;refine aI 34 J (fun g11=> ?_) (fun g11=> ?_)
     ·have h:=ae g11 hb11;refine Y ?_;obtain rfl:=ao h;exact ac sA (cS [0,1,2] 3)
     have h:=ah g11 hb11;refine Y ?_;obtain ⟨x12,hx12,h⟩:=aa h;obtain ⟨lx12,ux12,hx12⟩:=aH hx12;refine ck (bm 1 J aR J J hE bi lx12 ux12) J (cU g11 J) J ?_;refine ck (oC 1 J aR J (toNat_lt lx12 ux12) mY) J (cU g11 J) J ?_;refine ck (eK (u:=iV x12.Kind) 1 J aR J hx12 dy (fun _ _ _ h=>by rw [show _=_ from h];rfl)) J (cU g11 J) J ?_;refine Y ?_;obtain rfl:=ao h;exact ac sA (cS [0,1,2] 3)
    refine Y ?_;obtain rfl:=ao h;exact ac sA (cS [0,1,2] 3)
   have h:=ah g9 hb9;refine Y ?_;obtain rfl:=ao h;exact ac sA (cS [0,1,2] 3)
  refine Y ?_;obtain rfl:=ao h;exact aN J J (cS [] 3) ⟨J,J⟩
 replace h:=ah g7 h;refine Y ?_;refine aC ?_;refine Y ?_;refine ar J (fun g13=> ?_) (fun g13=> ?_)
 ·replace h:=ae g13 h;refine Y ?_;obtain rfl:=ao h;exact aN J J (cS [] 3) ⟨J,J⟩
 replace h:=ah g13 h;refine Y ?_;refine aC ?_;refine Y ?_;obtain ⟨b14,hb14,h⟩:=aa h;refine aK 4 56 b14 ?_ ?_
 ·clear h;refine aI 52 J (fun g14=> ?_) (fun g14=> ?_)
  ·have h:=ae g14 hb14;refine Y ?_;obtain rfl:=ao h;exact ac sA (cS [0,1,2] 3)
  have h:=ah g14 hb14;refine Y ?_;obtain rfl:=ao h;exact ac sA (cS [0,1,2] 3)
 refine Y ?_;refine ar J (fun g15=> ?_) (fun g15=> ?_)
 ·replace h:=ae g15 h;refine Y ?_;obtain rfl:=ao h;exact aN J J (cS [] 3) ⟨J,J⟩
 replace h:=ah g15 h;refine Y ?_;refine aC ?_;refine Y ?_;refine ar J (fun g16=> ?_) (fun g16=> ?_)
 ·replace h:=ae g16 h;refine Y ?_;refine gR (bK 1 J aR J hE) ?_;refine Y ?_;obtain ⟨b17,hb17,h⟩:=aa h;refine aK 6 70 b17 ?_ ?_
  ·clear h;refine aI 64 J (fun g17=> ?_) (fun g17=> ?_)
   ·have h:=ae g17 hb17;refine Y ?_;obtain ⟨x18,hx18,h⟩:=aa h;obtain ⟨lx18,ux18,hx18⟩:=aH hx18;refine ck (bm 1 J aR J J hE bi lx18 ux18) J (bp g17 J) J ?_;refine ck (bn (us:=[iV x18.Kind,iV x18.N,.string x18.S]) 1 J aR J hx18 aJ (fun _ _ _ h=>by rw [show _=_ from h];rfl)) J (bp g17 J) J ?_;obtain ⟨y19,hy19,h⟩:=aa h;refine cL (aq (ic hy19) qX J (ak) fS) J (bp g17 J) J ?_;rintro _ _ ⟨_,⟨rfl,rfl⟩,rfl⟩;refine Y ?_;obtain rfl:=ao h;exact ac sA (cS [0,1,2] 3)
   have h:=ah g17 hb17;refine Y ?_;obtain rfl:=ao h;exact ac sA (cS [0,1,2] 3)
  refine Y ?_;obtain ⟨b20,hb20,h⟩:=aa h;refine aK 6 77 b20 ?_ ?_
  ·clear h;refine aI 71 J (fun g20=> ?_) (fun g20=> ?_)
   ·have h:=ae g20 hb20;refine Y ?_;obtain ⟨x21,hx21,h⟩:=aa h;obtain ⟨lx21,ux21,hx21⟩:=aH hx21;refine ck (bm 1 J aR J J hE bi lx21 ux21) J (bp g20 J) J ?_;refine ck (bn (us:=[iV x21.Kind,iV x21.N,.string x21.S]) 1 J aR J hx21 aJ (fun _ _ _ h=>by rw [show _=_ from h];rfl)) J (bp g20 J) J ?_;obtain ⟨y22,hy22,h⟩:=aa h;refine cL (aq (ic hy22) qX J (ak) fS) J (bp g20 J) J ?_;rintro _ _ ⟨_,⟨rfl,rfl⟩,rfl⟩;refine Y ?_;obtain rfl:=ao h;exact ac sA (cS [0,1,2] 3)
   have h:=ah g20 hb20;refine Y ?_;obtain rfl:=ao h;exact ac sA (cS [0,1,2] 3)
  refine Y ?_;obtain rfl:=ao h;exact aN J J (cS [] 3) ⟨J,J⟩
 replace h:=ah g16 h;refine Y ?_;refine gR (bK 1 J aR J hE) ?_;refine Y ?_;obtain rfl:=ao h;exact aN J J (cS [] 3) ⟨J,J⟩
theorem qx {r:Bool}: ∀v post,((fun (u:Value) (post:List Chunk)=>u=.bool r∧post=[])) v post→ ∀c∈post,cB c:=by
 rintro _ _ ⟨rfl,rfl⟩;exact ak
def gG (N:Nat)(a0:JS)(a1:Int)(a2:Int):Option Bool:=
 (bif decide (a0.Kind=3) then (some (decide (a1≤a0.N))) else (some false)).bind fun b2=>(bif b2 then (some (decide (a0.N≤a2))) else (some false)).bind fun b3=>some b3
theorem ie {N:Nat}{a0:JS}{a1:Int}{a2:Int}{r:Bool}(h:gG N a0 a1 a2=some r):Okc Tryz.prog 241 [(bv a0),iV a1,iV a2] ([]) (fun u post=>u=.bool r∧post=[]):=by
 refine bx Tryz.func241 J J ?_;simp only [aX];refine Y ?_;refine gD (aQ J J) ?_;rintro _ _ ⟨B1,rfl,rfl⟩;refine Y ?_;obtain ⟨b2,hb2,h⟩:=aa h;refine aK 5 15 b2 ?_ ?_
 ·clear h;refine aI 10 J (fun g2=> ?_) (fun g2=> ?_)
  ·have h:=ae g2 hb2;refine Y ?_;obtain rfl:=ao h;exact ac sA (cS [0] 1)
  have h:=ah g2 hb2;refine Y ?_;obtain rfl:=ao h;exact ac sA (cS [0] 1)
 refine Y ?_;obtain ⟨b3,hb3,h⟩:=aa h;refine aK 5 21 b3 ?_ ?_
 ·clear h;refine aI 16 J (fun g3=> ?_) (fun g3=> ?_)
  ·have h:=ae g3 hb3;refine Y ?_;obtain rfl:=ao h;exact ac sA (cS [0] 1)
  have h:=ah g3 hb3;refine Y ?_;obtain rfl:=ao h;exact ac sA (cS [0] 1)
 refine Y ?_;obtain rfl:=ao h;exact aN J J (cS [] 1) ⟨J,J⟩
theorem fT {r:Bool}: ∀v post,((fun (u:Value) (post:List Chunk)=>u=.bool r∧post=[])) v post→ ∀c∈post,cB c:=by
 rintro _ _ ⟨rfl,rfl⟩;exact ak
def mu (N:Nat){σ:Type}(fy:(List JS)→σ→Option (Bool×σ))(a1:(List JS))(a2:Int):Nat→Int→σ→Option σ
 |0,_,_=>none
 |m4+1,p5,p6=>bif decide (p5<(a1.length:Int)) then (cN ((0:Int)≤p5∧p5.toNat≤a1.length∧a1.length≤a1.length) (cN (bM (p5+(min a2 (((a1.drop p5.toNat).take (a1.length - p5.toNat)).length:Int)))) (cN (bM (p5+(min a2 (((a1.drop p5.toNat).take (a1.length - p5.toNat)).length:Int)))) (cN ((0:Int)≤p5∧(0:Int)≤p5+(min a2 (((a1.drop p5.toNat).take (a1.length - p5.toNat)).length:Int))∧p5.toNat≤(p5+(min a2 (((a1.drop p5.toNat).take (a1.length - p5.toNat)).length:Int))).toNat∧(p5+(min a2 (((a1.drop p5.toNat).take (a1.length - p5.toNat)).length:Int))).toNat≤a1.length) ((fy ((a1.drop p5.toNat).take ((p5+(min a2 (((a1.drop p5.toNat).take (a1.length - p5.toNat)).length:Int))).toNat - p5.toNat)) p6).bind fun y14=>bif !y14.1 then (some y14.2) else (cN (bM (p5+a2)) ((mu N fy a1 a2 m4) (p5+a2) y14.2))))))) else (some p6)
def pX (N:Nat){σ:Type}(a1:(List JS))(a2:Int)(fy:(List JS)→σ→Option (Bool×σ))(s0:σ):Option σ:=
 mu N fy a1 a2 N 0 s0
theorem t6 {N:Nat}{σ:Type}{a1:(List JS)}{a2:Int}{fy:(List JS)→σ→Option (Bool×σ)}{s0:σ}{r:σ}(h:pX N a1 a2 fy s0=some r){l:Nat}{G:σ→List Chunk}(hY:qF Tryz.prog l G (fun (x:(List JS)) vs cs=> ∃A0 n0 c0,vs=[I A0 n0 c0]∧cs=[dB A0 n0 c0 x]) fy):Okc Tryz.prog 262 [.func (.yield l) #[] #[],pV B1 0,pV B3 0] (aU B1 38 [I A2 n2 c2]::dB A2 n2 c2 a1::aU B3 3 [iV a2]::(G s0)) (fun u post=>u=.tuple #[]∧post=G r):=by
 refine bx Tryz.func262 J J ?_;simp only [aX];refine Y ?_;refine ca (fun m s L=> ∃p5 p6,mu N fy a1 a2 m p5 p6=some r∧s=[(0,.func (.yield l) #[] #[]),(1,pV B1 0),(2,pV B3 0),(4,iV p5)]∧L=dB A2 n2 c2 a1::aU B1 38 [I A2 n2 c2]::aU B3 3 [iV a2]::(G p6)) N _ _ ⟨0,s0,h,J,J⟩ sA (cS [1,0,2] 3) ?_;rintro (_|m4) _ _ ⟨p5,p6,h,rfl,rfl⟩
 ·exact bh h
 rw [mu.eq_2] at h;refine aC ?_;refine Y ?_;refine gR (cD 1 J J gX J) ?_;refine gR (bK 0 J aR J hE) ?_;refine Y ?_;refine ar J (fun g7=> ?_) (fun g7=> ?_)
 ·replace h:=ae g7 h;refine Y ?_;refine aC ?_;refine d4 ?_;refine aC ?_;refine bF V _ (ai _) ?_;refine zR 0 J (cD 2 J J dy J) ?_;refine zR 1 J (cD 1 J J gX J) ?_;refine zE 2 J (au J) ?_;obtain ⟨q8,h⟩:=ay h;refine Ek 0 J (l:=p5.toNat) (h:=a1.length) q8.2.1 q8.2.2 ?_;rintro A9 n9 c9 e9;refine zR 3 J (up 1 J e9 J hE bi J (by rw [Int.toNat_of_nonneg q8.1];rfl) q8.2.1) ?_;refine zR 4 J (bK 0 J aR J hE) ?_;refine zE 5 J (Hk J J hJ hJ) ?_;refine zE 6 J (bg J) ?_;refine bw V ?_;refine Y ?_;refine gR (cD 2 J J gX J) ?_;refine Y ?_;obtain ⟨q10,h⟩:=ay h;refine gE (bC J J q10.1 q10.2) ?_;refine Y ?_;obtain ⟨q11,h⟩:=ay h;refine gE (bC J J q11.1 q11.2) ?_;obtain ⟨q12,h⟩:=ay h;refine HW 1 J (l:=p5.toNat) (h:=(p5+(min a2 (((a1.drop p5.toNat).take (a1.length - p5.toNat)).length:Int))).toNat) q12.2.2.1 q12.2.2.2 ?_;rintro A13 n13 c13 e13;refine gR (EP 2 J e13 J hE bi J (by rw [Int.toNat_of_nonneg q12.1];rfl) (by rw [Int.toNat_of_nonneg q12.2.1];rfl) (by rw [Int.toNat_of_nonneg q12.2.1];rfl) q12.2.2.1 q12.2.2.2) ?_;obtain ⟨y14,hy14,h⟩:=aa h
  refine gD (Cq (a:=(a1.drop p5.toNat).take ((p5+(min a2 (((a1.drop p5.toNat).take (a1.length - p5.toNat)).length:Int))).toNat - p5.toNat)) [dB A13 n13 c13 ((a1.drop p5.toNat).take ((p5+(min a2 (((a1.drop p5.toNat).take (a1.length - p5.toNat)).length:Int))).toNat - p5.toNat)),dB A9 n9 c9 ((a1.drop p5.toNat).take (a1.length - p5.toNat)),dB A2 n2 c2 a1,aU B1 38 [I A2 n2 c2],aU B3 3 [iV a2]] hY hy14 J J ⟨_,_,_,J,J⟩ (Hr 0 J J)) ?_;rintro _ _ ⟨rfl,rfl⟩;refine Y ?_;refine ar J (fun g15=> ?_) (fun g15=> ?_)
  ·replace h:=ae g15 h;refine Y ?_;obtain rfl:=ao h;exact xg J (cS [] 5) ⟨J,J⟩
  replace h:=ah g15 h;refine Y ?_;refine gR (cD 4 J J dy J) ?_;obtain ⟨q16,h⟩:=ay h;refine gE (bC J J q16.1 q16.2) ?_;refine Y ?_;exact ⟨m4,_,_,J1 _,⟨p5+a2,y14.2,h,J,J⟩,sA,cS [2,3,4] 5⟩
 replace h:=ah g7 h;refine Y ?_;obtain rfl:=ao h;exact eX J (cS [] 3) ⟨J,J⟩
def ns (N:Nat)(a0:(List JS))(a1:Int):Option Unit:=
 bif decide (a1<1) then none else (some ())
theorem rf {N:Nat}{a0:(List JS)}{a1:Int}{r:Unit}(h:ns N a0 a1=some r):Okc Tryz.prog 253 [I A1 n1 c1,iV a1] ([dB A1 n1 c1 a0]) (fun u post=> ∃B900 B901,u=.func (.func 262) #[] #[pV B900 0,pV B901 0]∧post=[ad B900 38 [I A1 n1 c1],ad B901 3 [iV a1]]):=by
 refine bx Tryz.func253 J J ?_;simp only [aX];refine Y ?_;refine gD (aQ J J) ?_;rintro _ _ ⟨B2,rfl,rfl⟩;refine gD (aQ J J) ?_;rintro _ _ ⟨B3,rfl,rfl⟩;refine Y ?_;refine aC ?_;refine Y ?_;refine ar J (fun g4=> ?_) (fun g4=> ?_)
 ·replace h:=ae g4 h;exact bh h
 replace h:=ah g4 h;refine Y ?_;refine gE (qp J) ?_;refine Y ?_;obtain rfl:=ao h;exact aN J J (cS [1,0] 3) ⟨_,_,J,J⟩
theorem pO {a1:Int}{A1:Option Addr}{n1:Nat}{c1:Nat}: ∀v post,((fun (u:Value) (post:List Chunk)=> ∃B900 B901,u=.func (.func 262) #[] #[pV B900 0,pV B901 0]∧post=[ad B900 38 [I A1 n1 c1],ad B901 3 [iV a1]])) v post→ ∀c∈post,cB c:=by
 rintro _ _ ⟨_,_,rfl,rfl⟩;exact hD ql (hD ql (ak))
def jF (N:Nat)(a1:Int)(x9:(List JS)):(Unit)→Option (Option Exit×Unit)
 |()=>(bT x9 0).bind fun x12=>(bif !decide (x12.Kind=7) then (some true) else ((bT x9 1).bind fun x14=>some (decide (x14.Kind=8)))).bind fun b13=>bif b13 then (some (some .ret,())) else ((bif decide (a1=4) then ((bT x9 2).bind fun x17=>(fb N x17 7).bind fun y18=>(bif !y18 then (some true) else ((bT x9 3).bind fun x20=>(gG N x20 0 9007199254740992).bind fun y21=>some (!y21))).bind fun b19=>some b19) else (some false)).bind fun b16=>bif b16 then (some (some .ret,())) else (some (none,())))
def kd (N:Nat)(a0:(List JS))(a1:Int):Option Bool:=
 cN (a1≠0) (bif !decide ((a0.length:Int).tmod a1=0) then (some false) else ((ns N a0 a1).bind fun y6=>(pX N a0 a1 (iM (fun x st=>jF N a1 x st)) (none,())).bind fun y11=>wc y11.1 (some true) (some false) (fun _=>none)))
set_option maxHeartbeats 4000000 in
theorem mr {N:Nat}{a0:(List JS)}{a1:Int}{r:Bool}(h:kd N a0 a1=some r):Okc Tryz.prog 242 [I A1 n1 c1,iV a1] ([dB A1 n1 c1 a0]) (fun u post=>u=.bool r∧post=[]):=by
 refine bx Tryz.func242 J J ?_;simp only [aX];refine Y ?_;refine gD (aQ J J) ?_;rintro _ _ ⟨B2,rfl,rfl⟩;refine gD (aO Gz J) ?_;rintro _ _ ⟨B3,rfl,rfl⟩;refine Y ?_;refine aC ?_;refine Y ?_;refine gR (bK 2 J aR J hE) ?_;refine Y ?_;obtain ⟨q4,h⟩:=ay h;refine gE (nN J J q4) ?_;refine Y ?_;refine ar J (fun g5=> ?_) (fun g5=> ?_)
 ·replace h:=ae g5 h;refine Y ?_;refine gO (av (us:=[.bool false]) (cs':=[.bool false]) 0 J J J J uP J J J) ?_;rintro _ _ rfl;refine Y ?_;obtain rfl:=ao h;exact cq (rs:=[.cell 4 4]) (vs:=[.bool false]) J (.cons (qM 0 J J zi) .nil) J (cS [] 3) ⟨J,J⟩
 replace h:=ah g5 h;refine Y ?_;refine aC ?_;refine Y ?_;obtain ⟨y6,hy6,h⟩:=aa h;refine gD (aq (rf hy6) FD J (hD (am (i:=2) J J) ak) pO) ?_;rintro _ _ ⟨_,⟨B7,B8,rfl,rfl⟩,rfl⟩;refine jX ?_;refine eh ?_;refine gK ?_ cb (o3 0 J);refine gK ?_ cb (o3 1 J);refine C2 ?_;obtain ⟨y11,hy11,h⟩:=aa h;refine CY (R:=(fun (x:(List JS)) vs cs=> ∃A0 n0 c0,vs=[I A0 n0 c0]∧cs=[dB A0 n0 c0 x])) (fun x st=>jF N a1 x st) (fun (st:Unit) (mz:Unit)=> [ad B2 3 [iV a1],ad B3 4 [.bool false]]) [aU B7 38 [I A1 n1 c1],dB A1 n1 c1 a0,aU B8 3 [iV a1]] (()) (()) J J FB J (by rintro _ _ _ ⟨_,_,_,rfl,rfl⟩;rfl) (fun l G hY=>(t6 hy11 hY).mono fun _ _ hh=>hh.2) (aB [0,4,1] [] [3,2] 5 J) h ?_ ?_ ?_ ?_
 ·rintro l x9 _ je sr9 _ h _ _ ⟨A10,n10,c10,rfl,rfl⟩;replace h:jF N a1 x9 ()=some (je,sr9):=h;simp only [wD,List.zip_cons_cons,List.zip_nil_left,List.zip_nil_right,List.reverse_cons,List.reverse_nil,List.nil_append,List.cons_append];refine Y ?_;refine aC ?_;refine Y ?_;obtain ⟨x12,hx12,h⟩:=aa h;obtain ⟨lx12,ux12,hx12⟩:=aH hx12;refine gR (bm 0 J aR J J hE bi lx12 ux12) ?_;refine gR (oC 0 J aR J (toNat_lt lx12 ux12) mY) ?_;refine gR (eK (u:=iV x12.Kind) 0 J aR J hx12 dy (fun _ _ _ h=>by rw [show _=_ from h];rfl)) ?_;refine Y ?_;obtain ⟨b13,hb13,h⟩:=aa h;refine aK 6 26 b13 ?_ ?_
  ·clear h;refine aI 20 J (fun g13=> ?_) (fun g13=> ?_)
   ·have h:=ae g13 hb13;refine Y ?_;obtain rfl:=ao h;exact ac sA (cS [0,1,2] 3)
   have h:=ah g13 hb13;refine Y ?_;obtain ⟨x14,hx14,h⟩:=aa h;obtain ⟨lx14,ux14,hx14⟩:=aH hx14;refine ck (bm 0 J aR J J hE bi lx14 ux14) J (cU g13 J) J ?_;refine ck (oC 0 J aR J (toNat_lt lx14 ux14) mY) J (cU g13 J) J ?_;refine ck (eK (u:=iV x14.Kind) 0 J aR J hx14 dy (fun _ _ _ h=>by rw [show _=_ from h];rfl)) J (cU g13 J) J ?_;refine Y ?_;obtain rfl:=ao h;exact ac sA (cS [0,1,2] 3)
  refine Y ?_;refine ar J (fun g15=> ?_) (fun g15=> ?_)
  ·replace h:=ae g15 h;refine Y ?_;refine gO (av (us:=[.bool false]) (cs':=[.bool false]) 2 J J J J uP J J J) ?_;rintro _ _ rfl;refine Y ?_;obtain ⟨rfl,rfl⟩:=Prod.mk.inj (Option.some.inj h);exact AF ((cS [1,2] 3).trans (kp () J))
  replace h:=ah g15 h;refine Y ?_;obtain ⟨b16,hb16,h⟩:=aa h;refine aK 13 42 b16 ?_ ?_
  ·clear h;refine aI 29 J (fun g16=> ?_) (fun g16=> ?_)
   ·have h:=ae g16 hb16;refine Y ?_;obtain ⟨x17,hx17,h⟩:=aa h;obtain ⟨lx17,ux17,hx17⟩:=aH hx17;refine ck (bm 0 J aR J J hE bi lx17 ux17) J (bp g16 J) J ?_;refine ck (bn (us:=[iV x17.Kind,iV x17.N,.string x17.S]) 0 J aR J hx17 aJ (fun _ _ _ h=>by rw [show _=_ from h];rfl)) J (bp g16 J) J ?_;obtain ⟨y18,hy18,h⟩:=aa h;refine cL (aq (ic hy18) qX J (ak) fS) J (bp g16 J) J ?_;rintro _ _ ⟨_,⟨rfl,rfl⟩,rfl⟩;refine Y ?_;obtain ⟨b19,hb19,h⟩:=aa h;refine aK 6 41 b19 ?_ ?_
    ·clear h;refine aI 35 J (fun g19=> ?_) (fun g19=> ?_)
     ·have h:=ae g19 hb19;refine Y ?_;obtain rfl:=ao h;exact ac sA (cS [0,1,2] 3)
     have h:=ah g19 hb19;refine Y ?_;obtain ⟨x20,hx20,h⟩:=aa h;obtain ⟨lx20,ux20,hx20⟩:=aH hx20;refine ck (bm 0 J aR J J hE bi lx20 ux20) J (cU g19 J) J ?_;refine ck (bn (us:=[iV x20.Kind,iV x20.N,.string x20.S]) 0 J aR J hx20 aJ (fun _ _ _ h=>by rw [show _=_ from h];rfl)) J (cU g19 J) J ?_;obtain ⟨y21,hy21,h⟩:=aa h;refine cL (aq (ie hy21) qW J (ak) fT) J (cU g19 J) J ?_;rintro _ _ ⟨_,⟨rfl,rfl⟩,rfl⟩;refine Y ?_;obtain rfl:=ao h;exact ac sA (cS [0,1,2] 3)
    refine Y ?_;obtain rfl:=ao h;exact ac sA (cS [0,1,2] 3)
   have h:=ah g16 hb16;refine Y ?_;obtain rfl:=ao h;exact ac sA (cS [0,1,2] 3)
  refine Y ?_;refine ar J (fun g22=> ?_) (fun g22=> ?_)
  ·replace h:=ae g22 h;refine Y ?_;refine gO (av (us:=[.bool false]) (cs':=[.bool false]) 2 J J J J uP J J J) ?_;rintro _ _ rfl;refine Y ?_;obtain ⟨rfl,rfl⟩:=Prod.mk.inj (Option.some.inj h);exact AF ((cS [1,2] 3).trans (kp () J))
  replace h:=ah g22 h;refine Y ?_;obtain ⟨rfl,rfl⟩:=Prod.mk.inj (Option.some.inj h);exact Em ((cS [1,2] 3).trans (kp () J))
 ·rintro _ h;refine rd ([ad B2 3 [iV a1],ad B3 4 [.bool false]]) J ?_;refine Y ?_;refine gO (av (us:=[.bool true]) (cs':=[.bool true]) 1 J J J J uP J J J) ?_;rintro _ _ rfl;refine bP ?_;refine Y ?_;obtain rfl:=ao h;exact cq (rs:=[.cell 4 4]) (vs:=[.bool true]) J (.cons (qM 1 J J zi) .nil) J (cS [] 2) ⟨J,J⟩
 ·rintro _ h;refine rd ([ad B2 3 [iV a1],ad B3 4 [.bool false]]) J ?_;refine Y ?_;obtain rfl:=ao h;exact cq (rs:=[.cell 4 4]) (vs:=[.bool false]) J (.cons (qM 1 J J zi) .nil) J (cS [] 2) ⟨J,J⟩
 rintro i _ h;exact bh h
theorem lu {r:Bool}: ∀v post,((fun (u:Value) (post:List Chunk)=>u=.bool r∧post=[])) v post→ ∀c∈post,cB c:=by
 rintro _ _ ⟨rfl,rfl⟩;exact ak
end Go.Proofs.YtanojiedimeegaaGreatDoor