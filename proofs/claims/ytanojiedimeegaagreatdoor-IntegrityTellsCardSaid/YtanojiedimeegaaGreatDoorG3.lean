/- Merged texts: part 3. No conditions of their own. -/
import Derived.Test.YtanojiedimeegaaGreatDoorG2
import Derived.Test.YtanojiedimeegaaGreatDoorChecked
import Derived.ProofKit
namespace Go.Proofs.YtanojiedimeegaaGreatDoor
theorem EM:type_of% Tryz.underlying3:=Tryz.underlying3
theorem Ex:type_of% Tryz.underlying9:=Tryz.underlying9
theorem hU:type_of% Tryz.func129:=Tryz.func129
theorem hJ:type_of% Tryz.func125:=Tryz.func125
variable {A1 A2 A3 A4 A5:Option Addr} {B1 B3 B6 M7 c1 c2 c3 c4 c5 n1 n2 n3 n4 n5:Nat}
open Go.RowKit Asn
set_option maxRecDepth 20000
structure Mf where
 Way:Int
 Steps:Int
 Calls:Int
 Made:Int
 Young:Int
 Full:Int
 Sites:Int
 deriving DecidableEq,Inhabited
def Ku:Rep Mf:=.flat 7 (fun x=> [iV x.Way,iV x.Steps,iV x.Calls,iV x.Made,iV x.Young,iV x.Full,iV x.Sites]) (fun _=>rfl) (fun _=>rfl)
structure Mc where
 at_:(List (Int×Bool))
 deriving DecidableEq,Inhabited
structure Mg where
 Kind:Int
 N:Int
 S:ByteArray
 deriving DecidableEq,Inhabited
def bS:Rep Mg:=.flat 3 (fun x=> [iV x.Kind,iV x.N,.string x.S]) (fun _=>rfl) (fun _=>rfl)
structure Mb where
 Kind:Int
 Shape:Int
 Flags:Int
 Age:Int
 Slots:(List Mg)
 More:(List Mg)
 deriving DecidableEq,Inhabited
def su:Rep Mb where
 sz:=6
 rel S w vs x:= ∃A4 n4 c4 A5 n5 c5,vs=[iV x.Kind,iV x.Shape,iV x.Flags,iV x.Age,I A4 n4 c4,I A5 n5 c5]∧SlR bS S w (I A4 n4 c4) x.Slots∧SlR bS S w (I A5 n5 c5) x.More
 loc:=fun h ⟨_,_,_,_,_,_,e,h4,h5⟩=>⟨_,_,_,_,_,_,e,h4.loc h,h5.loc h⟩
 mono:=fun h ⟨_,_,_,_,_,_,e,h4,h5⟩=>⟨_,_,_,_,_,_,e,h4.mono h,h5.mono h⟩
 len:=fun ⟨_,_,_,_,_,_,e,_⟩=>by rw [e];rfl
 one:=fun ⟨_,_,_,_,_,_,e,_⟩=>by rw [e];rfl
theorem yt (x:Mb):Hc su x fun vs cs=> ∃A4 n4 c4 A5 n5 c5,vs=[iV x.Kind,iV x.Shape,iV x.Flags,iV x.Age,I A4 n4 c4,I A5 n5 c5]∧cs=[pc bS (I A4 n4 c4) x.Slots,pc bS (I A5 n5 c5) x.More]:=fun S w vs ⟨_,_,_,_,_,_,e,h4,h5⟩=>⟨_,⟨_,_,_,_,_,_,e,rfl⟩,hD h4 (hD h5 (ac))⟩
structure Mq where
 Young:(List Mb)
 Old:(List Mb)
 deriving DecidableEq,Inhabited
def Kt:Rep Mq where
 sz:=2
 rel S w vs x:= ∃A0 n0 c0 A1 n1 c1,vs=[I A0 n0 c0,I A1 n1 c1]∧SlR su S w (I A0 n0 c0) x.Young∧SlR su S w (I A1 n1 c1) x.Old
 loc:=fun h ⟨_,_,_,_,_,_,e,h0,h1⟩=>⟨_,_,_,_,_,_,e,h0.loc h,h1.loc h⟩
 mono:=fun h ⟨_,_,_,_,_,_,e,h0,h1⟩=>⟨_,_,_,_,_,_,e,h0.mono h,h1.mono h⟩
 len:=fun ⟨_,_,_,_,_,_,e,_⟩=>by rw [e];rfl
 one:=fun ⟨_,_,_,_,_,_,e,_⟩=>by rw [e];rfl
structure Ma where
 m_:Mq
 roots_:(List Mg)
 pending_:(List Mg)
 set_:Mc
 deriving DecidableEq,Inhabited
structure Mn where
 Kind:Int
 N:Int
 S:ByteArray
 deriving DecidableEq,Inhabited
def kc:Rep Mn:=.flat 3 (fun x=> [iV x.Kind,iV x.N,.string x.S]) (fun _=>rfl) (fun _=>rfl)
structure Mo where
 Up:Int
 Key:Mn
 Attrs:Int
 Len:Int
 deriving DecidableEq,Inhabited
def tp:Rep Mo:=.flat 6 (fun x=> [iV x.Up,iV x.Key.Kind,iV x.Key.N,.string x.Key.S,iV x.Attrs,iV x.Len]) (fun _=>rfl) (fun _=>rfl)
structure Mm where
 up_:Int
 key_:Mn
 attrs_:Int
 deriving DecidableEq,Inhabited
def KR:Rep Mm:=.flat 5 (fun x=> [iV x.up_,iV x.key_.Kind,iV x.key_.N,.string x.key_.S,iV x.attrs_]) (fun _=>rfl) (fun _=>rfl)
structure Mh where
 shapes_:(List Mo)
 next_:(List (Mm×Int))
 deriving DecidableEq,Inhabited
structure Mj where
 steps_:Int
 made_:Int
 calls_:Int
 deriving DecidableEq,Inhabited
def KN:Rep Mj:=.flat 3 (fun x=> [iV x.steps_,iV x.made_,iV x.calls_]) (fun _=>rfl) (fun _=>rfl)
structure Mk where
 Kind:Int
 Key:Mn
 S:ByteArray
 deriving DecidableEq,Inhabited
def DM:Rep Mk:=.flat 5 (fun x=> [iV x.Kind,iV x.Key.Kind,iV x.Key.N,.string x.Key.S,.string x.S]) (fun _=>rfl) (fun _=>rfl)
structure Md where
 spent_:Mj
 config_:Mf
 host_:Unit
 heap_:Ma
 shapes_:Mh
 symbols_:(List ByteArray)
 epoch_:Int
 serial_:Int
 sleepers_:Int
 events_:(List Mk)
 out_:(List ByteArray)
 deriving DecidableEq,Inhabited
abbrev Wk (x:Md)(b d:Nat)(A:Option Addr)(n c:Nat)(A2:Option Addr)(n2 c2:Nat)(A3:Option Addr)(n3 c3:Nat):List Value:=[iV x.spent_.steps_,iV x.spent_.made_,iV x.spent_.calls_,iV x.config_.Way,iV x.config_.Steps,iV x.config_.Calls,iV x.config_.Made,iV x.config_.Young,iV x.config_.Full,iV x.config_.Sites,.nilIface,pV b 0,pV d 0,I A n c,iV x.epoch_,iV x.serial_,iV x.sleepers_,I A2 n2 c2,I A3 n3 c3]
structure Me where
 Key:Mn
 Attrs:Int
 Value:Mg
 Get:Mg
 Set:Mg
 deriving DecidableEq,Inhabited
def kM:Rep Me:=.flat 13 (fun x=> [iV x.Key.Kind,iV x.Key.N,.string x.Key.S,iV x.Attrs,iV x.Value.Kind,iV x.Value.N,.string x.Value.S,iV x.Get.Kind,iV x.Get.N,.string x.Get.S,iV x.Set.Kind,iV x.Set.N,.string x.Set.S]) (fun _=>rfl) (fun _=>rfl)
structure Mr where
 Array:Bool
 Elements:Int
 Props:(List Me)
 Shut:Bool
 deriving DecidableEq,Inhabited
def HF:Rep Mr where
 sz:=4
 rel S w vs x:= ∃A2 n2 c2,vs=[.bool x.Array,iV x.Elements,I A2 n2 c2,.bool x.Shut]∧SlR kM S w (I A2 n2 c2) x.Props
 loc:=fun h ⟨_,_,_,e,h2⟩=>⟨_,_,_,e,h2.loc h⟩
 mono:=fun h ⟨_,_,_,e,h2⟩=>⟨_,_,_,e,h2.mono h⟩
 len:=fun ⟨_,_,_,e,_⟩=>by rw [e];rfl
 one:=fun ⟨_,_,_,e,_⟩=>by rw [e];rfl
structure Mi where
 Has:Int
 Attrs:Int
 Value:Mg
 Get:Mg
 Set:Mg
 deriving DecidableEq,Inhabited
def KS:Rep Mi:=.flat 11 (fun x=> [iV x.Has,iV x.Attrs,iV x.Value.Kind,iV x.Value.N,.string x.Value.S,iV x.Get.Kind,iV x.Get.N,.string x.Get.S,iV x.Set.Kind,iV x.Set.N,.string x.Set.S]) (fun _=>rfl) (fun _=>rfl)
structure Ml where
 Cell:Mb
 w_:Md
 at_:Mg
 deriving DecidableEq,Inhabited
abbrev ba (A:Option Addr)(n c:Nat):=dH bS 30 (.slice A n c)
abbrev bv (A:Option Addr)(n c:Nat):=pc HE (.slice A n c)
abbrev bx (A:Option Addr)(n c:Nat):=dH su 138 (.slice A n c)
abbrev cE (A:Option Addr)(n c:Nat):=pc DM (.slice A n c)
abbrev cI (A:Option Addr)(n c:Nat):=dH tp 201 (.slice A n c)
abbrev dm (A:Option Addr)(n c:Nat):=pc bS (.slice A n c)
abbrev gw (A:Option Addr)(n c:Nat):=dH kc 24 (.slice A n c)
abbrev rL (A:Option Addr)(n c:Nat):=pc su (.slice A n c)
abbrev wc (A:Option Addr)(n c:Nat):=pc kM (.slice A n c)
abbrev vL (A:Option Addr)(n c:Nat):=pc tp (.slice A n c)
abbrev nI (A:Option Addr)(n c:Nat):=dH kM 42 (.slice A n c)
abbrev Cn (x:Mf):Value:=.agg #[iV x.Way,iV x.Steps,iV x.Calls,iV x.Made,iV x.Young,iV x.Full,iV x.Sites]
abbrev ey (x:Mi):Value:=.agg #[iV x.Has,iV x.Attrs,iV x.Value.Kind,iV x.Value.N,.string x.Value.S,iV x.Get.Kind,iV x.Get.N,.string x.Get.S,iV x.Set.Kind,iV x.Set.N,.string x.Set.S]
abbrev eZ (x:Mn):Value:=.agg #[iV x.Kind,iV x.N,.string x.S]
abbrev bA (x:Me):Value:=.agg #[iV x.Key.Kind,iV x.Key.N,.string x.Key.S,iV x.Attrs,iV x.Value.Kind,iV x.Value.N,.string x.Value.S,iV x.Get.Kind,iV x.Get.N,.string x.Get.S,iV x.Set.Kind,iV x.Set.N,.string x.Set.S]
abbrev AW (x:Mo):Value:=.agg #[iV x.Up,iV x.Key.Kind,iV x.Key.N,.string x.Key.S,iV x.Attrs,iV x.Len]
abbrev Gt (x:Mm):Value:=.agg #[iV x.up_,iV x.key_.Kind,iV x.key_.N,.string x.key_.S,iV x.attrs_]
abbrev aZ (x:Mg):Value:=.agg #[iV x.Kind,iV x.N,.string x.S]
abbrev Cj (x:Mf):List Value:=[iV x.Way,iV x.Steps,iV x.Calls,iV x.Made,iV x.Young,iV x.Full,iV x.Sites]
abbrev cc (x:Mi):List Value:=[iV x.Has,iV x.Attrs,iV x.Value.Kind,iV x.Value.N,.string x.Value.S,iV x.Get.Kind,iV x.Get.N,.string x.Get.S,iV x.Set.Kind,iV x.Set.N,.string x.Set.S]
abbrev bR (x:Mn):List Value:=[iV x.Kind,iV x.N,.string x.S]
abbrev aP (x:Me):List Value:=[iV x.Key.Kind,iV x.Key.N,.string x.Key.S,iV x.Attrs,iV x.Value.Kind,iV x.Value.N,.string x.Value.S,iV x.Get.Kind,iV x.Get.N,.string x.Get.S,iV x.Set.Kind,iV x.Set.N,.string x.Set.S]
abbrev eJ (x:Mo):List Value:=[iV x.Up,iV x.Key.Kind,iV x.Key.N,.string x.Key.S,iV x.Attrs,iV x.Len]
abbrev av (x:Mg):List Value:=[iV x.Kind,iV x.N,.string x.S]
theorem J8:ax Tryz.prog 16:=⟨Tryz.f16,Tryz.func16,rfl,rfl⟩
theorem wr:ax Tryz.prog 18:=⟨Tryz.f18,Tryz.func18,rfl,rfl⟩
theorem ux:ax Tryz.prog 19:=⟨Tryz.f19,Tryz.func19,rfl,rfl⟩
theorem GW:ax Tryz.prog 21:=⟨Tryz.f21,Tryz.func21,rfl,rfl⟩
theorem J7:ax Tryz.prog 24:=⟨Tryz.f24,Tryz.func24,rfl,rfl⟩
theorem zi:ax Tryz.prog 25:=⟨Tryz.f25,Tryz.func25,rfl,rfl⟩
theorem J6:ax Tryz.prog 26:=⟨Tryz.f26,Tryz.func26,rfl,rfl⟩
theorem wq:ax Tryz.prog 27:=⟨Tryz.f27,Tryz.func27,rfl,rfl⟩
theorem GV:ax Tryz.prog 28:=⟨Tryz.f28,Tryz.func28,rfl,rfl⟩
theorem GU:ax Tryz.prog 30:=⟨Tryz.f30,Tryz.func30,rfl,rfl⟩
theorem J5:ax Tryz.prog 32:=⟨Tryz.f32,Tryz.func32,rfl,rfl⟩
theorem J4:ax Tryz.prog 33:=⟨Tryz.f33,Tryz.func33,rfl,rfl⟩
theorem GT:ax Tryz.prog 35:=⟨Tryz.f35,Tryz.func35,rfl,rfl⟩
theorem GS:ax Tryz.prog 38:=⟨Tryz.f38,Tryz.func38,rfl,rfl⟩
theorem Do:ax Tryz.prog 39:=⟨Tryz.f39,Tryz.func39,rfl,rfl⟩
theorem wo:ax Tryz.prog 40:=⟨Tryz.f40,Tryz.func40,rfl,rfl⟩
theorem GR:ax Tryz.prog 41:=⟨Tryz.f41,Tryz.func41,rfl,rfl⟩
theorem Bl:ax Tryz.prog 42:=⟨Tryz.f42,Tryz.func42,rfl,rfl⟩
theorem wn:ax Tryz.prog 43:=⟨Tryz.f43,Tryz.func43,rfl,rfl⟩
theorem GQ:ax Tryz.prog 44:=⟨Tryz.f44,Tryz.func44,rfl,rfl⟩
theorem Dn:ax Tryz.prog 45:=⟨Tryz.f45,Tryz.func45,rfl,rfl⟩
theorem GP:ax Tryz.prog 46:=⟨Tryz.f46,Tryz.func46,rfl,rfl⟩
theorem Dm:ax Tryz.prog 47:=⟨Tryz.f47,Tryz.func47,rfl,rfl⟩
theorem Bk:ax Tryz.prog 48:=⟨Tryz.f48,Tryz.func48,rfl,rfl⟩
theorem GO:ax Tryz.prog 49:=⟨Tryz.f49,Tryz.func49,rfl,rfl⟩
theorem GN:ax Tryz.prog 50:=⟨Tryz.f50,Tryz.func50,rfl,rfl⟩
theorem GM:ax Tryz.prog 51:=⟨Tryz.f51,Tryz.func51,rfl,rfl⟩
theorem J3:ax Tryz.prog 52:=⟨Tryz.f52,Tryz.func52,rfl,rfl⟩
theorem Bj:ax Tryz.prog 53:=⟨Tryz.f53,Tryz.func53,rfl,rfl⟩
theorem oh:ax Tryz.prog 54:=⟨Tryz.f54,Tryz.func54,rfl,rfl⟩
theorem wm:ax Tryz.prog 55:=⟨Tryz.f55,Tryz.func55,rfl,rfl⟩
theorem qB:ax Tryz.prog 56:=⟨Tryz.f56,Tryz.func56,rfl,rfl⟩
theorem Dl:ax Tryz.prog 66:=⟨Tryz.f66,Tryz.func66,rfl,rfl⟩
theorem GL:ax Tryz.prog 77:=⟨Tryz.f77,Tryz.func77,rfl,rfl⟩
theorem J2:ax Tryz.prog 78:=⟨Tryz.f78,Tryz.func78,rfl,rfl⟩
theorem J1:ax Tryz.prog 79:=⟨Tryz.f79,Tryz.func79,rfl,rfl⟩
theorem GK:ax Tryz.prog 80:=⟨Tryz.f80,Tryz.func80,rfl,rfl⟩
theorem GJ:ax Tryz.prog 81:=⟨Tryz.f81,Tryz.func81,rfl,rfl⟩
theorem Bi:ax Tryz.prog 82:=⟨Tryz.f82,Tryz.func82,rfl,rfl⟩
theorem J0:ax Tryz.prog 83:=⟨Tryz.f83,Tryz.func83,rfl,rfl⟩
theorem eL:ax Tryz.prog 84:=⟨Tryz.f84,Tryz.func84,rfl,rfl⟩
theorem JZ:ax Tryz.prog 85:=⟨Tryz.f85,Tryz.func85,rfl,rfl⟩
theorem JY:ax Tryz.prog 86:=⟨Tryz.f86,Tryz.func86,rfl,rfl⟩
theorem JX:ax Tryz.prog 87:=⟨Tryz.f87,Tryz.func87,rfl,rfl⟩
theorem wl:ax Tryz.prog 88:=⟨Tryz.f88,Tryz.func88,rfl,rfl⟩
theorem GI:ax Tryz.prog 89:=⟨Tryz.f89,Tryz.func89,rfl,rfl⟩
theorem zh:ax Tryz.prog 90:=⟨Tryz.f90,Tryz.func90,rfl,rfl⟩
theorem Bh:ax Tryz.prog 95:=⟨Tryz.f95,Tryz.func95,rfl,rfl⟩
theorem mX:ax Tryz.prog 96:=⟨Tryz.f96,Tryz.func96,rfl,rfl⟩
theorem uw:ax Tryz.prog 97:=⟨Tryz.f97,Tryz.func97,rfl,rfl⟩
theorem Dk:ax Tryz.prog 98:=⟨Tryz.f98,Tryz.func98,rfl,rfl⟩
theorem uv:ax Tryz.prog 99:=⟨Tryz.f99,Tryz.func99,rfl,rfl⟩
theorem EO:ax Tryz.prog 100:=⟨Tryz.f100,Tryz.func100,rfl,rfl⟩
theorem IX:ax Tryz.prog 101:=⟨Tryz.f101,Tryz.func101,rfl,rfl⟩
theorem IW:ax Tryz.prog 102:=⟨Tryz.f102,Tryz.func102,rfl,rfl⟩
theorem IV:ax Tryz.prog 103:=⟨Tryz.f103,Tryz.func103,rfl,rfl⟩
theorem EN:ax Tryz.prog 104:=⟨Tryz.f104,Tryz.func104,rfl,rfl⟩
theorem tA:ax Tryz.prog 105:=⟨Tryz.f105,Tryz.func105,rfl,rfl⟩
theorem BB:ax Tryz.prog 106:=⟨Tryz.f106,Tryz.func106,rfl,rfl⟩
theorem oT:ax Tryz.prog 107:=⟨Tryz.f107,Tryz.func107,rfl,rfl⟩
theorem EL:ax Tryz.prog 108:=⟨Tryz.f108,Tryz.func108,rfl,rfl⟩
theorem EK:ax Tryz.prog 109:=⟨Tryz.f109,Tryz.func109,rfl,rfl⟩
theorem BA:ax Tryz.prog 110:=⟨Tryz.f110,Tryz.func110,rfl,rfl⟩
theorem EJ:ax Tryz.prog 111:=⟨Tryz.f111,Tryz.func111,rfl,rfl⟩
theorem Bz:ax Tryz.prog 114:=⟨Tryz.f114,Tryz.func114,rfl,rfl⟩
theorem EI:ax Tryz.prog 116:=⟨Tryz.f116,Tryz.func116,rfl,rfl⟩
theorem xO:ax Tryz.prog 117:=⟨Tryz.f117,Tryz.func117,rfl,rfl⟩
theorem tz:ax Tryz.prog 118:=⟨Tryz.f118,Tryz.func118,rfl,rfl⟩
theorem IU:ax Tryz.prog 119:=⟨Tryz.f119,Tryz.func119,rfl,rfl⟩
theorem IT:ax Tryz.prog 120:=⟨Tryz.f120,Tryz.func120,rfl,rfl⟩
theorem xM:ax Tryz.prog 121:=⟨Tryz.f121,Tryz.func121,rfl,rfl⟩
theorem vu:ax Tryz.prog 122:=⟨Tryz.f122,Tryz.func122,rfl,rfl⟩
theorem EH:ax Tryz.prog 123:=⟨Tryz.f123,Tryz.func123,rfl,rfl⟩
theorem EG:ax Tryz.prog 124:=⟨Tryz.f124,Tryz.func124,rfl,rfl⟩
theorem xL:ax Tryz.prog 125:=⟨Tryz.f125,hJ,rfl,rfl⟩
theorem EF:ax Tryz.prog 126:=⟨Tryz.f126,Tryz.func126,rfl,rfl⟩
theorem EE:ax Tryz.prog 127:=⟨Tryz.f127,Tryz.func127,rfl,rfl⟩
theorem ED:ax Tryz.prog 128:=⟨Tryz.f128,Tryz.func128,rfl,rfl⟩
theorem xK:ax Tryz.prog 129:=⟨Tryz.f129,hU,rfl,rfl⟩
theorem EC:ax Tryz.prog 130:=⟨Tryz.f130,Tryz.func130,rfl,rfl⟩
theorem EB:ax Tryz.prog 131:=⟨Tryz.f131,Tryz.func131,rfl,rfl⟩
theorem IS:ax Tryz.prog 132:=⟨Tryz.f132,Tryz.func132,rfl,rfl⟩
theorem EA:ax Tryz.prog 133:=⟨Tryz.f133,Tryz.func133,rfl,rfl⟩
theorem IR:ax Tryz.prog 134:=⟨Tryz.f134,Tryz.func134,rfl,rfl⟩
theorem IQ:ax Tryz.prog 135:=⟨Tryz.f135,Tryz.func135,rfl,rfl⟩
theorem IP:ax Tryz.prog 144:=⟨Tryz.f144,Tryz.func144,rfl,rfl⟩
theorem IN:ax Tryz.prog 145:=⟨Tryz.f145,Tryz.func145,rfl,rfl⟩
theorem xJ:ax Tryz.prog 146:=⟨Tryz.f146,Tryz.func146,rfl,rfl⟩
theorem rz:ax Tryz.prog 147:=⟨Tryz.f147,Tryz.func147,rfl,rfl⟩
theorem IM:ax Tryz.prog 148:=⟨Tryz.f148,Tryz.func148,rfl,rfl⟩
theorem tx:ax Tryz.prog 149:=⟨Tryz.f149,Tryz.func149,rfl,rfl⟩
theorem By:ax Tryz.prog 150:=⟨Tryz.f150,Tryz.func150,rfl,rfl⟩
theorem IL:ax Tryz.prog 151:=⟨Tryz.f151,Tryz.func151,rfl,rfl⟩
theorem fx:ax Tryz.prog 152:=⟨Tryz.f152,Tryz.func152,rfl,rfl⟩
theorem Ez:ax Tryz.prog 153:=⟨Tryz.f153,Tryz.func153,rfl,rfl⟩
theorem Ey:ax Tryz.prog 154:=⟨Tryz.f154,Tryz.func154,rfl,rfl⟩
theorem Ew:ax Tryz.prog 155:=⟨Tryz.f155,Tryz.func155,rfl,rfl⟩
theorem Eu:ax Tryz.prog 156:=⟨Tryz.f156,Tryz.func156,rfl,rfl⟩
theorem Et:ax Tryz.prog 157:=⟨Tryz.f157,Tryz.func157,rfl,rfl⟩
theorem IK:ax Tryz.prog 158:=⟨Tryz.f158,Tryz.func158,rfl,rfl⟩
theorem Es:ax Tryz.prog 159:=⟨Tryz.f159,Tryz.func159,rfl,rfl⟩
theorem IJ:ax Tryz.prog 160:=⟨Tryz.f160,Tryz.func160,rfl,rfl⟩
theorem xI:ax Tryz.prog 161:=⟨Tryz.f161,Tryz.func161,rfl,rfl⟩
theorem Bx:ax Tryz.prog 162:=⟨Tryz.f162,Tryz.func162,rfl,rfl⟩
theorem Er:ax Tryz.prog 163:=⟨Tryz.f163,Tryz.func163,rfl,rfl⟩
theorem xH:ax Tryz.prog 164:=⟨Tryz.f164,Tryz.func164,rfl,rfl⟩
theorem Bw:ax Tryz.prog 165:=⟨Tryz.f165,Tryz.func165,rfl,rfl⟩
theorem Bv:ax Tryz.prog 166:=⟨Tryz.f166,Tryz.func166,rfl,rfl⟩
theorem Ep:ax Tryz.prog 167:=⟨Tryz.f167,Tryz.func167,rfl,rfl⟩
theorem xG:ax Tryz.prog 168:=⟨Tryz.f168,Tryz.func168,rfl,rfl⟩
theorem II:ax Tryz.prog 169:=⟨Tryz.f169,Tryz.func169,rfl,rfl⟩
theorem IH:ax Tryz.prog 170:=⟨Tryz.f170,Tryz.func170,rfl,rfl⟩
theorem IG:ax Tryz.prog 171:=⟨Tryz.f171,Tryz.func171,rfl,rfl⟩
theorem Eo:ax Tryz.prog 172:=⟨Tryz.f172,Tryz.func172,rfl,rfl⟩
theorem Bu:ax Tryz.prog 173:=⟨Tryz.f173,Tryz.func173,rfl,rfl⟩
theorem IF:ax Tryz.prog 174:=⟨Tryz.f174,Tryz.func174,rfl,rfl⟩
theorem Bt:ax Tryz.prog 175:=⟨Tryz.f175,Tryz.func175,rfl,rfl⟩
theorem IE:ax Tryz.prog 176:=⟨Tryz.f176,Tryz.func176,rfl,rfl⟩
theorem qk:ax Tryz.prog 177:=⟨Tryz.f177,Tryz.func177,rfl,rfl⟩
theorem ID:ax Tryz.prog 178:=⟨Tryz.f178,Tryz.func178,rfl,rfl⟩
theorem IC:ax Tryz.prog 202:=⟨Tryz.f202,Tryz.func202,rfl,rfl⟩
theorem En:ax Tryz.prog 203:=⟨Tryz.f203,Tryz.func203,rfl,rfl⟩
theorem Br:ax Tryz.prog 204:=⟨Tryz.f204,Tryz.func204,rfl,rfl⟩
theorem ry:ax Tryz.prog 205:=⟨Tryz.f205,Tryz.func205,rfl,rfl⟩
theorem IB:ax Tryz.prog 206:=⟨Tryz.f206,Tryz.func206,rfl,rfl⟩
theorem IA:ax Tryz.prog 207:=⟨Tryz.f207,Tryz.func207,rfl,rfl⟩
theorem Em:ax Tryz.prog 208:=⟨Tryz.f208,Tryz.func208,rfl,rfl⟩
theorem Bq:ax Tryz.prog 209:=⟨Tryz.f209,Tryz.func209,rfl,rfl⟩
theorem tw:ax Tryz.prog 210:=⟨Tryz.f210,Tryz.func210,rfl,rfl⟩
theorem xF:ax Tryz.prog 211:=⟨Tryz.f211,Tryz.func211,rfl,rfl⟩
theorem Bp:ax Tryz.prog 212:=⟨Tryz.f212,Tryz.func212,rfl,rfl⟩
theorem Iz:ax Tryz.prog 213:=⟨Tryz.f213,Tryz.func213,rfl,rfl⟩
theorem Bo:ax Tryz.prog 214:=⟨Tryz.f214,Tryz.func214,rfl,rfl⟩
theorem Iy:ax Tryz.prog 215:=⟨Tryz.f215,Tryz.func215,rfl,rfl⟩
theorem El:ax Tryz.prog 225:=⟨Tryz.f225,Tryz.func225,rfl,rfl⟩
theorem Ix:ax Tryz.prog 226:=⟨Tryz.f226,Tryz.func226,rfl,rfl⟩
theorem Iw:ax Tryz.prog 227:=⟨Tryz.f227,Tryz.func227,rfl,rfl⟩
theorem Iv:ax Tryz.prog 228:=⟨Tryz.f228,Tryz.func228,rfl,rfl⟩
theorem Ek:ax Tryz.prog 229:=⟨Tryz.f229,Tryz.func229,rfl,rfl⟩
theorem Bn:ax Tryz.prog 230:=⟨Tryz.f230,Tryz.func230,rfl,rfl⟩
theorem qj:ax Tryz.prog 231:=⟨Tryz.f231,Tryz.func231,rfl,rfl⟩
theorem Ej:ax Tryz.prog 232:=⟨Tryz.f232,Tryz.func232,rfl,rfl⟩
theorem Iu:ax Tryz.prog 233:=⟨Tryz.f233,Tryz.func233,rfl,rfl⟩
theorem It:ax Tryz.prog 234:=⟨Tryz.f234,Tryz.func234,rfl,rfl⟩
theorem Is:ax Tryz.prog 235:=⟨Tryz.f235,Tryz.func235,rfl,rfl⟩
theorem Ei:ax Tryz.prog 238:=⟨Tryz.f238,Tryz.func238,rfl,rfl⟩
theorem Ir:ax Tryz.prog 239:=⟨Tryz.f239,Tryz.func239,rfl,rfl⟩
theorem tv:ax Tryz.prog 240:=⟨Tryz.f240,Tryz.func240,rfl,rfl⟩
theorem tu:ax Tryz.prog 241:=⟨Tryz.f241,Tryz.func241,rfl,rfl⟩
theorem Eh:ax Tryz.prog 242:=⟨Tryz.f242,Tryz.func242,rfl,rfl⟩
theorem Iq:ax Tryz.prog 243:=⟨Tryz.f243,Tryz.func243,rfl,rfl⟩
theorem Ip:ax Tryz.prog 244:=⟨Tryz.f244,Tryz.func244,rfl,rfl⟩
theorem Eg:ax Tryz.prog 245:=⟨Tryz.f245,Tryz.func245,rfl,rfl⟩
theorem Io:ax Tryz.prog 246:=⟨Tryz.f246,Tryz.func246,rfl,rfl⟩
theorem Ef:ax Tryz.prog 247:=⟨Tryz.f247,Tryz.func247,rfl,rfl⟩
theorem In:ax Tryz.prog 248:=⟨Tryz.f248,Tryz.func248,rfl,rfl⟩
theorem Im:ax Tryz.prog 253:=⟨Tryz.f253,Tryz.func253,rfl,rfl⟩
theorem Bm:ax Tryz.prog 254:=⟨Tryz.f254,Tryz.func254,rfl,rfl⟩
theorem Il:ax Tryz.prog 255:=⟨Tryz.f255,Tryz.func255,rfl,rfl⟩
theorem Ee:ax Tryz.prog 256:=⟨Tryz.f256,Tryz.func256,rfl,rfl⟩
theorem Ik:ax Tryz.prog 262:=⟨Tryz.f262,Tryz.func262,rfl,rfl⟩
theorem Ij:ax Tryz.prog 263:=⟨Tryz.f263,Tryz.func263,rfl,rfl⟩
theorem Ia (b o:Nat)(w:World):(Instr.fieldAt 24 (pV b o) 0).run Tryz.prog w=.ok (pV b o) w:=by kernel_rfl
theorem xC (b o:Nat)(w:World):(Instr.fieldAt 24 (pV b o) 1).run Tryz.prog w=.ok (.pointer (some ⟨b,o+1,none⟩)) w:=by kernel_rfl
theorem H9 (b o:Nat)(w:World):(Instr.fieldAt 24 (pV b o) 2).run Tryz.prog w=.ok (.pointer (some ⟨b,o+2,none⟩)) w:=by kernel_rfl
theorem oQ (b o:Nat)(w:World):(Instr.fieldAt 30 (pV b o) 0).run Tryz.prog w=.ok (pV b o) w:=by kernel_rfl
theorem xB (b o:Nat)(w:World):(Instr.fieldAt 30 (pV b o) 1).run Tryz.prog w=.ok (.pointer (some ⟨b,o+1,none⟩)) w:=by kernel_rfl
theorem H8 (b o:Nat)(w:World):(Instr.fieldAt 30 (pV b o) 2).run Tryz.prog w=.ok (.pointer (some ⟨b,o+2,none⟩)) w:=by kernel_rfl
theorem D4 (b o:Nat)(w:World):(Instr.fieldAt 32 (pV b o) 0).run Tryz.prog w=.ok (pV b o) w:=by kernel_rfl
theorem D3 (b o:Nat)(w:World):(Instr.fieldAt 32 (pV b o) 1).run Tryz.prog w=.ok (.pointer (some ⟨b,o+1,none⟩)) w:=by kernel_rfl
theorem H7 (b o:Nat)(w:World):(Instr.fieldAt 32 (pV b o) 2).run Tryz.prog w=.ok (.pointer (some ⟨b,o+2,none⟩)) w:=by kernel_rfl
theorem H6 (b o:Nat)(w:World):(Instr.fieldAt 32 (pV b o) 3).run Tryz.prog w=.ok (.pointer (some ⟨b,o+5,none⟩)) w:=by kernel_rfl
theorem H5 (b o:Nat)(w:World):(Instr.fieldAt 32 (pV b o) 4).run Tryz.prog w=.ok (.pointer (some ⟨b,o+8,none⟩)) w:=by kernel_rfl
theorem va (b o:Nat)(w:World):(Instr.fieldAt 42 (pV b o) 0).run Tryz.prog w=.ok (pV b o) w:=by kernel_rfl
theorem uZ (b o:Nat)(w:World):(Instr.fieldAt 42 (pV b o) 1).run Tryz.prog w=.ok (.pointer (some ⟨b,o+3,none⟩)) w:=by kernel_rfl
theorem D2 (b o:Nat)(w:World):(Instr.fieldAt 42 (pV b o) 2).run Tryz.prog w=.ok (.pointer (some ⟨b,o+4,none⟩)) w:=by kernel_rfl
theorem xA (b o:Nat)(w:World):(Instr.fieldAt 42 (pV b o) 3).run Tryz.prog w=.ok (.pointer (some ⟨b,o+7,none⟩)) w:=by kernel_rfl
theorem xz (b o:Nat)(w:World):(Instr.fieldAt 42 (pV b o) 4).run Tryz.prog w=.ok (.pointer (some ⟨b,o+10,none⟩)) w:=by kernel_rfl
theorem H4 (b o:Nat)(w:World):(Instr.fieldAt 57 (pV b o) 0).run Tryz.prog w=.ok (pV b o) w:=by kernel_rfl
theorem H3 (b o:Nat)(w:World):(Instr.fieldAt 57 (pV b o) 1).run Tryz.prog w=.ok (.pointer (some ⟨b,o+1,none⟩)) w:=by kernel_rfl
theorem H2 (b o:Nat)(w:World):(Instr.fieldAt 57 (pV b o) 2).run Tryz.prog w=.ok (.pointer (some ⟨b,o+2,none⟩)) w:=by kernel_rfl
theorem D1 (b o:Nat)(w:World):(Instr.fieldAt 57 (pV b o) 3).run Tryz.prog w=.ok (.pointer (some ⟨b,o+3,none⟩)) w:=by kernel_rfl
theorem H1 (b o:Nat)(w:World):(Instr.fieldAt 57 (pV b o) 4).run Tryz.prog w=.ok (.pointer (some ⟨b,o+4,none⟩)) w:=by kernel_rfl
theorem H0 (b o:Nat)(w:World):(Instr.fieldAt 57 (pV b o) 5).run Tryz.prog w=.ok (.pointer (some ⟨b,o+5,none⟩)) w:=by kernel_rfl
theorem HZ (b o:Nat)(w:World):(Instr.fieldAt 57 (pV b o) 6).run Tryz.prog w=.ok (.pointer (some ⟨b,o+6,none⟩)) w:=by kernel_rfl
theorem HY (b o:Nat)(w:World):(Instr.fieldAt 84 (pV b o) 0).run Tryz.prog w=.ok (pV b o) w:=by kernel_rfl
theorem HX (b o:Nat)(w:World):(Instr.fieldAt 84 (pV b o) 1).run Tryz.prog w=.ok (.pointer (some ⟨b,o+1,none⟩)) w:=by kernel_rfl
theorem uY (b o:Nat)(w:World):(Instr.fieldAt 84 (pV b o) 2).run Tryz.prog w=.ok (.pointer (some ⟨b,o+2,none⟩)) w:=by kernel_rfl
theorem HW (b o:Nat)(w:World):(Instr.fieldAt 84 (pV b o) 3).run Tryz.prog w=.ok (.pointer (some ⟨b,o+3,none⟩)) w:=by kernel_rfl
theorem Cy (b o:Nat)(w:World):(Instr.fieldAt 138 (pV b o) 0).run Tryz.prog w=.ok (pV b o) w:=by kernel_rfl
theorem nO (b o:Nat)(w:World):(Instr.fieldAt 138 (pV b o) 1).run Tryz.prog w=.ok (.pointer (some ⟨b,o+1,none⟩)) w:=by kernel_rfl
theorem Cw (b o:Nat)(w:World):(Instr.fieldAt 138 (pV b o) 2).run Tryz.prog w=.ok (.pointer (some ⟨b,o+2,none⟩)) w:=by kernel_rfl
theorem mp (b o:Nat)(w:World):(Instr.fieldAt 138 (pV b o) 3).run Tryz.prog w=.ok (.pointer (some ⟨b,o+3,none⟩)) w:=by kernel_rfl
theorem kn (b o:Nat)(w:World):(Instr.fieldAt 138 (pV b o) 4).run Tryz.prog w=.ok (.pointer (some ⟨b,o+4,none⟩)) w:=by kernel_rfl
theorem nN (b o:Nat)(w:World):(Instr.fieldAt 138 (pV b o) 5).run Tryz.prog w=.ok (.pointer (some ⟨b,o+5,none⟩)) w:=by kernel_rfl
theorem fF (b o:Nat)(w:World):(Instr.fieldAt 140 (pV b o) 0).run Tryz.prog w=.ok (pV b o) w:=by kernel_rfl
theorem pE (b o:Nat)(w:World):(Instr.fieldAt 140 (pV b o) 1).run Tryz.prog w=.ok (.pointer (some ⟨b,o+6,none⟩)) w:=by kernel_rfl
theorem Cu (b o:Nat)(w:World):(Instr.fieldAt 140 (pV b o) 2).run Tryz.prog w=.ok (.pointer (some ⟨b,o+7,none⟩)) w:=by kernel_rfl
theorem Ct (b o:Nat)(w:World):(Instr.fieldAt 147 (pV b o) 1).run Tryz.prog w=.ok (.pointer (some ⟨b,o+1,none⟩)) w:=by kernel_rfl
theorem Cs (b o:Nat)(w:World):(Instr.fieldAt 151 (pV b o) 0).run Tryz.prog w=.ok (pV b o) w:=by kernel_rfl
theorem Cr (b o:Nat)(w:World):(Instr.fieldAt 151 (pV b o) 1).run Tryz.prog w=.ok (.pointer (some ⟨b,o+3,none⟩)) w:=by kernel_rfl
theorem lg (b o:Nat)(w:World):(Instr.fieldAt 151 (pV b o) 3).run Tryz.prog w=.ok (.pointer (some ⟨b,o+11,none⟩)) w:=by kernel_rfl
theorem GA (b o:Nat)(w:World):(Instr.fieldAt 151 (pV b o) 4).run Tryz.prog w=.ok (.pointer (some ⟨b,o+12,none⟩)) w:=by kernel_rfl
theorem Gz (b o:Nat)(w:World):(Instr.fieldAt 151 (pV b o) 6).run Tryz.prog w=.ok (.pointer (some ⟨b,o+14,none⟩)) w:=by kernel_rfl
theorem yM (b o:Nat)(w:World):(Instr.fieldAt 197 (pV b o) 0).run Tryz.prog w=.ok (pV b o) w:=by kernel_rfl
theorem Gy (b o:Nat)(w:World):(Instr.fieldAt 197 (pV b o) 1).run Tryz.prog w=.ok (.pointer (some ⟨b,o+1,none⟩)) w:=by kernel_rfl
theorem yL (b o:Nat)(w:World):(Instr.fieldAt 199 (pV b o) 0).run Tryz.prog w=.ok (pV b o) w:=by kernel_rfl
theorem yK (b o:Nat)(w:World):(Instr.fieldAt 199 (pV b o) 1).run Tryz.prog w=.ok (.pointer (some ⟨b,o+2,none⟩)) w:=by kernel_rfl
theorem sH (b o:Nat)(w:World):(Instr.fieldAt 199 (pV b o) 3).run Tryz.prog w=.ok (.pointer (some ⟨b,o+4,none⟩)) w:=by kernel_rfl
theorem vd (b o:Nat)(w:World):(Instr.fieldAt 201 (pV b o) 0).run Tryz.prog w=.ok (pV b o) w:=by kernel_rfl
theorem vc (b o:Nat)(w:World):(Instr.fieldAt 201 (pV b o) 1).run Tryz.prog w=.ok (.pointer (some ⟨b,o+1,none⟩)) w:=by kernel_rfl
theorem qV (b o:Nat)(w:World):(Instr.fieldAt 201 (pV b o) 2).run Tryz.prog w=.ok (.pointer (some ⟨b,o+4,none⟩)) w:=by kernel_rfl
theorem vb (b o:Nat)(w:World):(Instr.fieldAt 201 (pV b o) 3).run Tryz.prog w=.ok (.pointer (some ⟨b,o+5,none⟩)) w:=by kernel_rfl
theorem qU (b o:Nat)(w:World):(Instr.fieldAt 205 (pV b o) 0).run Tryz.prog w=.ok (pV b o) w:=by kernel_rfl
theorem yJ (b o:Nat)(w:World):(Instr.fieldAt 205 (pV b o) 1).run Tryz.prog w=.ok (.pointer (some ⟨b,o+1,none⟩)) w:=by kernel_rfl
theorem Gx (b o:Nat)(w:World):(Instr.fieldAt 247 (pV b o) 0).run Tryz.prog w=.ok (pV b o) w:=by kernel_rfl
theorem dv:iZ Tryz.prog 3=true:=by kernel_rfl
theorem Cb:iZ Tryz.prog 4=true:=by kernel_rfl
theorem KV:iZ Tryz.prog 9=true:=by kernel_rfl
theorem wI:iZ Tryz.prog 36=true:=by kernel_rfl
theorem ik:iZ Tryz.prog 38=true:=by kernel_rfl
theorem F9:iZ Tryz.prog 67=true:=by kernel_rfl
theorem Ca:iZ Tryz.prog 82=true:=by kernel_rfl
theorem lV:iZ Tryz.prog 142=true:=by kernel_rfl
theorem Ga:iZ Tryz.prog 144=true:=by kernel_rfl
theorem vY:iZ Tryz.prog 193=true:=by kernel_rfl
theorem AM:iZ Tryz.prog 195=true:=by kernel_rfl
theorem pq:iZ Tryz.prog 202=true:=by kernel_rfl
theorem C5:iZ Tryz.prog 203=true:=by kernel_rfl
theorem JA:iZ Tryz.prog 211=true:=by kernel_rfl
theorem Jz:iZ Tryz.prog 245=true:=by kernel_rfl
theorem bB:r8 Tryz.prog 24 3=true:=by kernel_rfl
theorem aD:r8 Tryz.prog 30 3=true:=by kernel_rfl
theorem dz:r8 Tryz.prog 32 11=true:=by kernel_rfl
theorem cq:r8 Tryz.prog 42 13=true:=by kernel_rfl
theorem Jm:r8 Tryz.prog 57 7=true:=by kernel_rfl
theorem ER:r8 Tryz.prog 84 4=true:=by kernel_rfl
theorem ce:r8 Tryz.prog 138 6=true:=by kernel_rfl
theorem G9:r8 Tryz.prog 197 2=true:=by kernel_rfl
theorem qC:r8 Tryz.prog 201 6=true:=by kernel_rfl
theorem gz:fJ Tryz.prog 3 1=true:=by kernel_rfl
theorem xY:fJ Tryz.prog 4 1=true:=by kernel_rfl
theorem ck:fJ Tryz.prog 24 3=true:=by kernel_rfl
theorem bm:fJ Tryz.prog 30 3=true:=by kernel_rfl
theorem sf:fJ Tryz.prog 32 11=true:=by kernel_rfl
theorem nW:fJ Tryz.prog 38 1=true:=by kernel_rfl
theorem bJ:fJ Tryz.prog 42 13=true:=by kernel_rfl
theorem vS:fJ Tryz.prog 67 1=true:=by kernel_rfl
theorem cO:fJ Tryz.prog 138 6=true:=by kernel_rfl
theorem Hz:fJ Tryz.prog 195 1=true:=by kernel_rfl
theorem dD:fJ Tryz.prog 201 6=true:=by kernel_rfl
theorem Hy:fJ Tryz.prog 202 1=true:=by kernel_rfl
theorem Hx:fJ Tryz.prog 211 1=true:=by kernel_rfl
theorem Kk (w:World):(zeroValue 3).run Tryz.prog w=.ok (iV 0) w:=by kernel_rfl
theorem I9 (w:World):(zeroValue 4).run Tryz.prog w=.ok (.bool false) w:=by kernel_rfl
theorem nU (w:World):(zeroValue 24).run Tryz.prog w=.ok (.agg #[iV 0,iV 0,.string ⟨#[]⟩]) w:=by kernel_rfl
theorem d9 (w:World):(zeroValue 30).run Tryz.prog w=.ok (.agg #[iV 0,iV 0,.string ⟨#[]⟩]) w:=by kernel_rfl
theorem vM (w:World):(zeroValue 32).run Tryz.prog w=.ok (.agg #[iV 0,iV 0,iV 0,iV 0,.string ⟨#[]⟩,iV 0,iV 0,.string ⟨#[]⟩,iV 0,iV 0,.string ⟨#[]⟩]) w:=by kernel_rfl
theorem cF (w:World):(zeroValue 42).run Tryz.prog w=.ok (.agg #[iV 0,iV 0,.string ⟨#[]⟩,iV 0,iV 0,iV 0,.string ⟨#[]⟩,iV 0,iV 0,.string ⟨#[]⟩,iV 0,iV 0,.string ⟨#[]⟩]) w:=by kernel_rfl
theorem FM (w:World):(zeroValue 67).run Tryz.prog w=.ok (I none 0 0) w:=by kernel_rfl
theorem eT (w:World):(zeroValue 138).run Tryz.prog w=.ok (.agg #[iV 0,iV 0,iV 0,iV 0,I none 0 0,I none 0 0]) w:=by kernel_rfl
theorem rf (w:World):(zeroValue 201).run Tryz.prog w=.ok (.agg #[iV 0,iV 0,iV 0,.string ⟨#[]⟩,iV 0,iV 0]) w:=by kernel_rfl
theorem Hj (w:World):(zeroValue 211).run Tryz.prog w=.ok (I none 0 0) w:=by kernel_rfl
theorem Gv (x0_:Int)(x1_:Int)(x2_:ByteArray)(w:World):(Instr.field 30 (.agg #[iV x0_,iV x1_,.string x2_]) 0).run Tryz.prog w=.ok (iV x0_) w:=by kernel_rfl
theorem Gu (x0_:Int)(x1_:Int)(x2_0_:Int)(x2_1_:Int)(x2_2_:ByteArray)(x3_0_:Int)(x3_1_:Int)(x3_2_:ByteArray)(x4_0_:Int)(x4_1_:Int)(x4_2_:ByteArray)(w:World):(Instr.field 32 (.agg #[iV x0_,iV x1_,iV x2_0_,iV x2_1_,.string x2_2_,iV x3_0_,iV x3_1_,.string x3_2_,iV x4_0_,iV x4_1_,.string x4_2_]) 0).run Tryz.prog w=.ok (iV x0_) w:=by kernel_rfl
theorem Fo (x0_:Int)(x1_:Int)(x2_:Int)(x3_:Int)(x4_a:Option Addr)(x4_n x4_c:Nat)(x5_a:Option Addr)(x5_n x5_c:Nat)(w:World):(Instr.field 138 (.agg #[iV x0_,iV x1_,iV x2_,iV x3_,.slice x4_a x4_n x4_c,.slice x5_a x5_n x5_c]) 0).run Tryz.prog w=.ok (iV x0_) w:=by kernel_rfl
theorem zm (x0_:Int)(x1_:Int)(w:World):(Instr.build 24 #[(0,iV x0_),(1,iV x1_)]).run Tryz.prog w=.ok (.agg #[iV x0_,iV x1_,.string ⟨#[]⟩]) w:=by kernel_rfl
theorem zk (x0_:Int)(x2_:ByteArray)(w:World):(Instr.build 24 #[(0,iV x0_),(2,.string x2_)]).run Tryz.prog w=.ok (.agg #[iV x0_,iV 0,.string x2_]) w:=by kernel_rfl
theorem G1 (x1_:Int)(w:World):(Instr.build 24 #[(1,iV x1_)]).run Tryz.prog w=.ok (.agg #[iV 0,iV x1_,.string ⟨#[]⟩]) w:=by kernel_rfl
theorem eM  (w:World):(Instr.build 30 #[]).run Tryz.prog w=.ok (.agg #[iV 0,iV 0,.string ⟨#[]⟩]) w:=by kernel_rfl
theorem sV (x0_:Int)(w:World):(Instr.build 30 #[(0,iV x0_)]).run Tryz.prog w=.ok (.agg #[iV x0_,iV 0,.string ⟨#[]⟩]) w:=by kernel_rfl
theorem pH (x0_:Int)(x1_:Int)(w:World):(Instr.build 30 #[(0,iV x0_),(1,iV x1_)]).run Tryz.prog w=.ok (.agg #[iV x0_,iV x1_,.string ⟨#[]⟩]) w:=by kernel_rfl
theorem CH (x0_:Int)(w:World):(Instr.build 32 #[(0,iV x0_)]).run Tryz.prog w=.ok (.agg #[iV x0_,iV 0,iV 0,iV 0,.string ⟨#[]⟩,iV 0,iV 0,.string ⟨#[]⟩,iV 0,iV 0,.string ⟨#[]⟩]) w:=by kernel_rfl
theorem vz (x0_:Int)(x1_:Int)(x2_0_:Int)(x2_1_:Int)(x2_2_:ByteArray)(w:World):(Instr.build 32 #[(0,iV x0_),(1,iV x1_),(2,.agg #[iV x2_0_,iV x2_1_,.string x2_2_])]).run Tryz.prog w=.ok (.agg #[iV x0_,iV x1_,iV x2_0_,iV x2_1_,.string x2_2_,iV 0,iV 0,.string ⟨#[]⟩,iV 0,iV 0,.string ⟨#[]⟩]) w:=by kernel_rfl
theorem sU (x0_:Int)(x1_:Int)(x3_0_:Int)(x3_1_:Int)(x3_2_:ByteArray)(x4_0_:Int)(x4_1_:Int)(x4_2_:ByteArray)(w:World):(Instr.build 32 #[(0,iV x0_),(1,iV x1_),(3,.agg #[iV x3_0_,iV x3_1_,.string x3_2_]),(4,.agg #[iV x4_0_,iV x4_1_,.string x4_2_])]).run Tryz.prog w=.ok (.agg #[iV x0_,iV x1_,iV 0,iV 0,.string ⟨#[]⟩,iV x3_0_,iV x3_1_,.string x3_2_,iV x4_0_,iV x4_1_,.string x4_2_]) w:=by kernel_rfl
theorem ql  (w:World):(Instr.build 42 #[]).run Tryz.prog w=.ok (.agg #[iV 0,iV 0,.string ⟨#[]⟩,iV 0,iV 0,iV 0,.string ⟨#[]⟩,iV 0,iV 0,.string ⟨#[]⟩,iV 0,iV 0,.string ⟨#[]⟩]) w:=by kernel_rfl
theorem G0 (x0_0_:Int)(x0_1_:Int)(x0_2_:ByteArray)(w:World):(Instr.build 42 #[(0,.agg #[iV x0_0_,iV x0_1_,.string x0_2_])]).run Tryz.prog w=.ok (.agg #[iV x0_0_,iV x0_1_,.string x0_2_,iV 0,iV 0,iV 0,.string ⟨#[]⟩,iV 0,iV 0,.string ⟨#[]⟩,iV 0,iV 0,.string ⟨#[]⟩]) w:=by kernel_rfl
theorem Dp (x0_0_:Int)(x0_1_:Int)(x0_2_:ByteArray)(x1_:Int)(w:World):(Instr.build 42 #[(0,.agg #[iV x0_0_,iV x0_1_,.string x0_2_]),(1,iV x1_)]).run Tryz.prog w=.ok (.agg #[iV x0_0_,iV x0_1_,.string x0_2_,iV x1_,iV 0,iV 0,.string ⟨#[]⟩,iV 0,iV 0,.string ⟨#[]⟩,iV 0,iV 0,.string ⟨#[]⟩]) w:=by kernel_rfl
theorem oU (x0_0_:Int)(x0_1_:Int)(x0_2_:ByteArray)(x1_:Int)(x2_0_:Int)(x2_1_:Int)(x2_2_:ByteArray)(w:World):(Instr.build 42 #[(0,.agg #[iV x0_0_,iV x0_1_,.string x0_2_]),(1,iV x1_),(2,.agg #[iV x2_0_,iV x2_1_,.string x2_2_])]).run Tryz.prog w=.ok (.agg #[iV x0_0_,iV x0_1_,.string x0_2_,iV x1_,iV x2_0_,iV x2_1_,.string x2_2_,iV 0,iV 0,.string ⟨#[]⟩,iV 0,iV 0,.string ⟨#[]⟩]) w:=by kernel_rfl
theorem wt (x1_:Int)(x2_:Int)(x3_:Int)(x5_:Int)(x6_:Int)(w:World):(Instr.build 57 #[(1,iV x1_),(2,iV x2_),(3,iV x3_),(5,iV x5_),(6,iV x6_)]).run Tryz.prog w=.ok (.agg #[iV 0,iV x1_,iV x2_,iV x3_,iV 0,iV x5_,iV x6_]) w:=by kernel_rfl
theorem vA  (w:World):(Instr.build 138 #[]).run Tryz.prog w=.ok (.agg #[iV 0,iV 0,iV 0,iV 0,I none 0 0,I none 0 0]) w:=by kernel_rfl
theorem An (x0_:Int)(w:World):(Instr.build 138 #[(0,iV x0_)]).run Tryz.prog w=.ok (.agg #[iV x0_,iV 0,iV 0,iV 0,I none 0 0,I none 0 0]) w:=by kernel_rfl
theorem zT (x0_:Int)(x2_:Int)(x4_a:Option Addr)(x4_n x4_c:Nat)(w:World):(Instr.build 138 #[(0,iV x0_),(2,iV x2_),(4,.slice x4_a x4_n x4_c)]).run Tryz.prog w=.ok (.agg #[iV x0_,iV 0,iV x2_,iV 0,.slice x4_a x4_n x4_c,I none 0 0]) w:=by kernel_rfl
theorem om (x0_:Int)(x2_:Int)(x4_a:Option Addr)(x4_n x4_c:Nat)(x5_a:Option Addr)(x5_n x5_c:Nat)(w:World):(Instr.build 138 #[(0,iV x0_),(2,iV x2_),(4,.slice x4_a x4_n x4_c),(5,.slice x5_a x5_n x5_c)]).run Tryz.prog w=.ok (.agg #[iV x0_,iV 0,iV x2_,iV 0,.slice x4_a x4_n x4_c,.slice x5_a x5_n x5_c]) w:=by kernel_rfl
theorem CK (x0_:Int)(x4_a:Option Addr)(x4_n x4_c:Nat)(w:World):(Instr.build 138 #[(0,iV x0_),(4,.slice x4_a x4_n x4_c)]).run Tryz.prog w=.ok (.agg #[iV x0_,iV 0,iV 0,iV 0,.slice x4_a x4_n x4_c,I none 0 0]) w:=by kernel_rfl
theorem zS (x0_0_:Int)(x0_1_:Int)(x0_2_:Int)(x0_3_:Int)(x0_4_a:Option Addr)(x0_4_n x0_4_c:Nat)(x0_5_a:Option Addr)(x0_5_n x0_5_c:Nat)(x1_:Option Addr)(x2_0_:Int)(x2_1_:Int)(x2_2_:ByteArray)(w:World):(Instr.build 140 #[(0,.agg #[iV x0_0_,iV x0_1_,iV x0_2_,iV x0_3_,.slice x0_4_a x0_4_n x0_4_c,.slice x0_5_a x0_5_n x0_5_c]),(1,.pointer x1_),(2,.agg #[iV x2_0_,iV x2_1_,.string x2_2_])]).run Tryz.prog w=.ok (.agg #[iV x0_0_,iV x0_1_,iV x0_2_,iV x0_3_,.slice x0_4_a x0_4_n x0_4_c,.slice x0_5_a x0_5_n x0_5_c,.pointer x1_,iV x2_0_,iV x2_1_,.string x2_2_]) w:=by kernel_rfl
theorem zQ (x1_0_:Int)(x1_1_:Int)(x1_2_:Int)(x1_3_:Int)(x1_4_:Int)(x1_5_:Int)(x1_6_:Int)(x3_:Option Addr)(x4_:Option Addr)(w:World):(Instr.build 151 #[(1,.agg #[iV x1_0_,iV x1_1_,iV x1_2_,iV x1_3_,iV x1_4_,iV x1_5_,iV x1_6_]),(3,.pointer x3_),(4,.pointer x4_)]).run Tryz.prog w=.ok (.agg #[iV 0,iV 0,iV 0,iV x1_0_,iV x1_1_,iV x1_2_,iV x1_3_,iV x1_4_,iV x1_5_,iV x1_6_,.nilIface,.pointer x3_,.pointer x4_,I none 0 0,iV 0,iV 0,iV 0,I none 0 0,I none 0 0]) w:=by kernel_rfl
theorem FF (x3_:Option Addr)(w:World):(Instr.build 199 #[(3,.pointer x3_)]).run Tryz.prog w=.ok (.agg #[I none 0 0,I none 0 0,I none 0 0,I none 0 0,.pointer x3_]) w:=by kernel_rfl
theorem G2  (w:World):(Instr.build 201 #[]).run Tryz.prog w=.ok (.agg #[iV 0,iV 0,iV 0,.string ⟨#[]⟩,iV 0,iV 0]) w:=by kernel_rfl
theorem FE (x0_:Int)(w:World):(Instr.build 201 #[(0,iV x0_)]).run Tryz.prog w=.ok (.agg #[iV x0_,iV 0,iV 0,.string ⟨#[]⟩,iV 0,iV 0]) w:=by kernel_rfl
theorem xi (x0_:Int)(x1_0_:Int)(x1_1_:Int)(x1_2_:ByteArray)(x2_:Int)(x3_:Int)(w:World):(Instr.build 201 #[(0,iV x0_),(1,.agg #[iV x1_0_,iV x1_1_,.string x1_2_]),(2,iV x2_),(3,iV x3_)]).run Tryz.prog w=.ok (.agg #[iV x0_,iV x1_0_,iV x1_1_,.string x1_2_,iV x2_,iV x3_]) w:=by kernel_rfl
theorem CJ (x1_0_:Int)(x1_1_:Int)(x1_2_:ByteArray)(x2_:Int)(w:World):(Instr.build 201 #[(1,.agg #[iV x1_0_,iV x1_1_,.string x1_2_]),(2,iV x2_)]).run Tryz.prog w=.ok (.agg #[iV 0,iV x1_0_,iV x1_1_,.string x1_2_,iV x2_,iV 0]) w:=by kernel_rfl
theorem CI (x0_a:Option Addr)(x0_n x0_c:Nat)(x1_:Option Nat)(w:World):(Instr.build 205 #[(0,.slice x0_a x0_n x0_c),(1,.map x1_)]).run Tryz.prog w=.ok (.agg #[.slice x0_a x0_n x0_c,.map x1_]) w:=by kernel_rfl
theorem FD (x0_:Option Nat)(w:World):(Instr.build 247 #[(0,.map x0_)]).run Tryz.prog w=.ok (.agg #[.map x0_]) w:=by kernel_rfl
theorem ua (x0_:Int)(x1_0_:Int)(x1_1_:Int)(x1_2_:ByteArray)(x2_:Int)(w:World):(Instr.build 257 #[(0,iV x0_),(1,.agg #[iV x1_0_,iV x1_1_,.string x1_2_]),(2,iV x2_)]).run Tryz.prog w=.ok (.agg #[iV x0_,iV x1_0_,iV x1_1_,.string x1_2_,iV x2_]) w:=by kernel_rfl
theorem GZ  (w:World):(Instr.buildSlice 38 0 #[]).run Tryz.prog w=.ok (.slice (some ⟨w.heap.size,0,none⟩) 0 0) (w.alloc (.cells #[] 30)):=by kernel_rfl
theorem ib (x0_0_:Int)(x0_1_:Int)(x0_2_:ByteArray)(w:World):(Instr.buildSlice 38 1 #[(0,.agg #[iV x0_0_,iV x0_1_,.string x0_2_])]).run Tryz.prog w=.ok (.slice (some ⟨w.heap.size,0,none⟩) 1 1) (w.alloc (.cells #[iV x0_0_,iV x0_1_,.string x0_2_] 30)):=by kernel_rfl
theorem zj (x0_0_:Int)(x0_1_:Int)(x0_2_:ByteArray)(x1_0_:Int)(x1_1_:Int)(x1_2_:ByteArray)(w:World):(Instr.buildSlice 38 2 #[(0,.agg #[iV x0_0_,iV x0_1_,.string x0_2_]),(1,.agg #[iV x1_0_,iV x1_1_,.string x1_2_])]).run Tryz.prog w=.ok (.slice (some ⟨w.heap.size,0,none⟩) 2 2) (w.alloc (.cells #[iV x0_0_,iV x0_1_,.string x0_2_,iV x1_0_,iV x1_1_,.string x1_2_] 30)):=by kernel_rfl
theorem GY (x0_0_:Int)(x0_1_:Int)(x0_2_:ByteArray)(x1_0_:Int)(x1_1_:Int)(x1_2_:ByteArray)(x2_0_:Int)(x2_1_:Int)(x2_2_:ByteArray)(x3_0_:Int)(x3_1_:Int)(x3_2_:ByteArray)(w:World):(Instr.buildSlice 38 4 #[(0,.agg #[iV x0_0_,iV x0_1_,.string x0_2_]),(1,.agg #[iV x1_0_,iV x1_1_,.string x1_2_]),(2,.agg #[iV x2_0_,iV x2_1_,.string x2_2_]),(3,.agg #[iV x3_0_,iV x3_1_,.string x3_2_])]).run Tryz.prog w=.ok (.slice (some ⟨w.heap.size,0,none⟩) 4 4) (w.alloc (.cells #[iV x0_0_,iV x0_1_,.string x0_2_,iV x1_0_,iV x1_1_,.string x1_2_,iV x2_0_,iV x2_1_,.string x2_2_,iV x3_0_,iV x3_1_,.string x3_2_] 30)):=by kernel_rfl
theorem nQ (x0_0_:Int)(x0_1_:Int)(x0_2_:ByteArray)(w:World):(Instr.buildSlice 67 1 #[(0,.agg #[iV x0_0_,iV x0_1_,.string x0_2_])]).run Tryz.prog w=.ok (.slice (some ⟨w.heap.size,0,none⟩) 1 1) (w.alloc (.cells #[iV x0_0_,iV x0_1_,.string x0_2_] 24)):=by kernel_rfl
theorem GX  (w:World):(Instr.buildSlice 82 0 #[]).run Tryz.prog w=.ok (.slice (some ⟨w.heap.size,0,none⟩) 0 0) (w.alloc (.cells #[] 42)):=by kernel_rfl
theorem vy (x0_0_0_:Int)(x0_0_1_:Int)(x0_0_2_:ByteArray)(x0_1_:Int)(x0_2_0_:Int)(x0_2_1_:Int)(x0_2_2_:ByteArray)(x0_3_0_:Int)(x0_3_1_:Int)(x0_3_2_:ByteArray)(x0_4_0_:Int)(x0_4_1_:Int)(x0_4_2_:ByteArray)(w:World):(Instr.buildSlice 82 1 #[(0,.agg #[iV x0_0_0_,iV x0_0_1_,.string x0_0_2_,iV x0_1_,iV x0_2_0_,iV x0_2_1_,.string x0_2_2_,iV x0_3_0_,iV x0_3_1_,.string x0_3_2_,iV x0_4_0_,iV x0_4_1_,.string x0_4_2_])]).run Tryz.prog w=.ok (.slice (some ⟨w.heap.size,0,none⟩) 1 1) (w.alloc (.cells #[iV x0_0_0_,iV x0_0_1_,.string x0_0_2_,iV x0_1_,iV x0_2_0_,iV x0_2_1_,.string x0_2_2_,iV x0_3_0_,iV x0_3_1_,.string x0_3_2_,iV x0_4_0_,iV x0_4_1_,.string x0_4_2_] 42)):=by kernel_rfl
theorem FC (x0_0_:Int)(x0_1_:Int)(x0_2_:Int)(x0_3_:Int)(x0_4_a:Option Addr)(x0_4_n x0_4_c:Nat)(x0_5_a:Option Addr)(x0_5_n x0_5_c:Nat)(w:World):(Instr.buildSlice 195 1 #[(0,.agg #[iV x0_0_,iV x0_1_,iV x0_2_,iV x0_3_,.slice x0_4_a x0_4_n x0_4_c,.slice x0_5_a x0_5_n x0_5_c])]).run Tryz.prog w=.ok (.slice (some ⟨w.heap.size,0,none⟩) 1 1) (w.alloc (.cells #[iV x0_0_,iV x0_1_,iV x0_2_,iV x0_3_,.slice x0_4_a x0_4_n x0_4_c,.slice x0_5_a x0_5_n x0_5_c] 138)):=by kernel_rfl
theorem ws (x0_0_:Int)(x0_1_0_:Int)(x0_1_1_:Int)(x0_1_2_:ByteArray)(x0_2_:Int)(x0_3_:Int)(w:World):(Instr.buildSlice 202 1 #[(0,.agg #[iV x0_0_,iV x0_1_0_,iV x0_1_1_,.string x0_1_2_,iV x0_2_,iV x0_3_])]).run Tryz.prog w=.ok (.slice (some ⟨w.heap.size,0,none⟩) 1 1) (w.alloc (.cells #[iV x0_0_,iV x0_1_0_,iV x0_1_1_,.string x0_1_2_,iV x0_2_,iV x0_3_] 201)):=by kernel_rfl
theorem Am (x0_:Int)(w:World):(Instr.buildSlice 211 1 #[(0,iV x0_)]).run Tryz.prog w=.ok (.slice (some ⟨w.heap.size,0,none⟩) 1 1) (w.alloc (.cells #[iV x0_] 3)):=by kernel_rfl
theorem La:qD Tryz.prog 3 1 8=true:=by kernel_rfl
theorem BE:qD Tryz.prog 24 3 32=true:=by kernel_rfl
theorem xQ:qD Tryz.prog 30 3 32=true:=by kernel_rfl
theorem Hk:qD Tryz.prog 42 13 136=true:=by kernel_rfl
theorem Km:qD Tryz.prog 138 6 80=true:=by kernel_rfl
theorem Kl:qD Tryz.prog 201 6 56=true:=by kernel_rfl
instance:Fc (iZ Tryz.prog 3=true):=⟨dv⟩
instance:Fc (iZ Tryz.prog 4=true):=⟨Cb⟩
instance:Fc (iZ Tryz.prog 9=true):=⟨KV⟩
instance:Fc (iZ Tryz.prog 36=true):=⟨wI⟩
instance:Fc (iZ Tryz.prog 38=true):=⟨ik⟩
instance:Fc (iZ Tryz.prog 67=true):=⟨F9⟩
instance:Fc (iZ Tryz.prog 82=true):=⟨Ca⟩
instance:Fc (iZ Tryz.prog 142=true):=⟨lV⟩
instance:Fc (iZ Tryz.prog 144=true):=⟨Ga⟩
instance:Fc (iZ Tryz.prog 193=true):=⟨vY⟩
instance:Fc (iZ Tryz.prog 195=true):=⟨AM⟩
instance:Fc (iZ Tryz.prog 202=true):=⟨pq⟩
instance:Fc (iZ Tryz.prog 203=true):=⟨C5⟩
instance:Fc (iZ Tryz.prog 211=true):=⟨JA⟩
instance:Fc (iZ Tryz.prog 245=true):=⟨Jz⟩
instance:FcA0 Tryz.prog 24 0:=⟨Ia⟩
instance:FcA Tryz.prog 24 1 1:=⟨xC⟩
instance:FcA Tryz.prog 24 2 2:=⟨H9⟩
instance:FcA0 Tryz.prog 30 0:=⟨oQ⟩
instance:FcA Tryz.prog 30 1 1:=⟨xB⟩
instance:FcA Tryz.prog 30 2 2:=⟨H8⟩
instance:FcA0 Tryz.prog 32 0:=⟨D4⟩
instance:FcA Tryz.prog 32 1 1:=⟨D3⟩
instance:FcA Tryz.prog 32 2 2:=⟨H7⟩
instance:FcA Tryz.prog 32 3 5:=⟨H6⟩
instance:FcA Tryz.prog 32 4 8:=⟨H5⟩
instance:FcA0 Tryz.prog 42 0:=⟨va⟩
instance:FcA Tryz.prog 42 1 3:=⟨uZ⟩
instance:FcA Tryz.prog 42 2 4:=⟨D2⟩
instance:FcA Tryz.prog 42 3 7:=⟨xA⟩
instance:FcA Tryz.prog 42 4 10:=⟨xz⟩
instance:FcA0 Tryz.prog 57 0:=⟨H4⟩
instance:FcA Tryz.prog 57 1 1:=⟨H3⟩
instance:FcA Tryz.prog 57 2 2:=⟨H2⟩
instance:FcA Tryz.prog 57 3 3:=⟨D1⟩
instance:FcA Tryz.prog 57 4 4:=⟨H1⟩
instance:FcA Tryz.prog 57 5 5:=⟨H0⟩
instance:FcA Tryz.prog 57 6 6:=⟨HZ⟩
instance:FcA0 Tryz.prog 84 0:=⟨HY⟩
instance:FcA Tryz.prog 84 1 1:=⟨HX⟩
instance:FcA Tryz.prog 84 2 2:=⟨uY⟩
instance:FcA Tryz.prog 84 3 3:=⟨HW⟩
instance:FcA0 Tryz.prog 138 0:=⟨Cy⟩
instance:FcA Tryz.prog 138 1 1:=⟨nO⟩
instance:FcA Tryz.prog 138 2 2:=⟨Cw⟩
instance:FcA Tryz.prog 138 3 3:=⟨mp⟩
instance:FcA Tryz.prog 138 4 4:=⟨kn⟩
instance:FcA Tryz.prog 138 5 5:=⟨nN⟩
instance:FcA0 Tryz.prog 140 0:=⟨fF⟩
instance:FcA Tryz.prog 140 1 6:=⟨pE⟩
instance:FcA Tryz.prog 140 2 7:=⟨Cu⟩
instance:FcA Tryz.prog 147 1 1:=⟨Ct⟩
instance:FcA0 Tryz.prog 151 0:=⟨Cs⟩
instance:FcA Tryz.prog 151 1 3:=⟨Cr⟩
instance:FcA Tryz.prog 151 3 11:=⟨lg⟩
instance:FcA Tryz.prog 151 4 12:=⟨GA⟩
instance:FcA Tryz.prog 151 6 14:=⟨Gz⟩
instance:FcA0 Tryz.prog 197 0:=⟨yM⟩
instance:FcA Tryz.prog 197 1 1:=⟨Gy⟩
instance:FcA0 Tryz.prog 199 0:=⟨yL⟩
instance:FcA Tryz.prog 199 1 2:=⟨yK⟩
instance:FcA Tryz.prog 199 3 4:=⟨sH⟩
instance:FcA0 Tryz.prog 201 0:=⟨vd⟩
instance:FcA Tryz.prog 201 1 1:=⟨vc⟩
instance:FcA Tryz.prog 201 2 4:=⟨qV⟩
instance:FcA Tryz.prog 201 3 5:=⟨vb⟩
instance:FcA0 Tryz.prog 205 0:=⟨qU⟩
instance:FcA Tryz.prog 205 1 1:=⟨yJ⟩
instance:FcA0 Tryz.prog 247 0:=⟨Gx⟩
theorem Fj:Tryz.prog.eqGuardType Tryz.prog.depth 24=false:=by kernel_rfl
theorem Ie (x y:Mn)(w:World):(Op.equalIn 10000 24 (.agg #[iV x.Kind,iV x.N,.string x.S]) (.agg #[iV y.Kind,iV y.N,.string y.S])).run Tryz.prog w=.ok (decide (x=y)) w:=by
 obtain ⟨xKind,xN,xS⟩:=x;obtain ⟨yKind,yN,yS⟩:=y;show (Op.equalIn 10000 24 (.agg #[iV xKind,iV xN,.string xS]) (.agg #[iV yKind,iV yN,.string yS])).run Tryz.prog w=_
 go_simp
 simp only [vv];by_cases h0:xKind=yKind<;>by_cases h1:xN=yN<;>by_cases h2:xS=yS<;>simp [h0,h1,h2]
theorem sJ {s:cB}{C:World→Prop}{d:Option Nat}{ty u:TypeId}{pos:String}{af:Array Edge}{gd:Option (Nat×Bool)}{a b:Operand}{x y:Mn}(hx:cA s a=some (.agg #[iV x.Kind,iV x.N,.string x.S]))(hy:cA s b=some (.agg #[iV y.Kind,iV y.N,.string y.S])):Ev Tryz.prog s C ⟨d,.binOp .eql 24 a b u,ty,pos,af,gd⟩ (.bool (decide (x=y))):=
 eS hx hy fun w=>by
  rw [Sem.run_bind,run_eqGuard_agg w _ _ _ _ _ _ Fj];simp only [Result.andThen_ok];rw [run_eql_struct,Ie];rfl
theorem Ae:Tryz.prog.eqGuardType Tryz.prog.depth 30=false:=by kernel_rfl
theorem D7 (x y:Mg)(w:World):(Op.equalIn 10000 30 (.agg #[iV x.Kind,iV x.N,.string x.S]) (.agg #[iV y.Kind,iV y.N,.string y.S])).run Tryz.prog w=.ok (decide (x=y)) w:=by
 obtain ⟨xKind,xN,xS⟩:=x;obtain ⟨yKind,yN,yS⟩:=y;show (Op.equalIn 10000 30 (.agg #[iV xKind,iV xN,.string xS]) (.agg #[iV yKind,iV yN,.string yS])).run Tryz.prog w=_
 go_simp
 simp only [vv];by_cases h0:xKind=yKind<;>by_cases h1:xN=yN<;>by_cases h2:xS=yS<;>simp [h0,h1,h2]
theorem mq {s:cB}{C:World→Prop}{d:Option Nat}{ty u:TypeId}{pos:String}{af:Array Edge}{gd:Option (Nat×Bool)}{a b:Operand}{x y:Mg}(hx:cA s a=some (.agg #[iV x.Kind,iV x.N,.string x.S]))(hy:cA s b=some (.agg #[iV y.Kind,iV y.N,.string y.S])):Ev Tryz.prog s C ⟨d,.binOp .eql 30 a b u,ty,pos,af,gd⟩ (.bool (decide (x=y))):=
 eS hx hy fun w=>by
  rw [Sem.run_bind,run_eqGuard_agg w _ _ _ _ _ _ Ae];simp only [Result.andThen_ok];rw [run_eql_struct,D7];rfl
theorem wi {s:cB}{C:World→Prop}{d:Option Nat}{ty u:TypeId}{pos:String}{af:Array Edge}{gd:Option (Nat×Bool)}{a b:Operand}{x y:Mg}(hx:cA s a=some (.agg #[iV x.Kind,iV x.N,.string x.S]))(hy:cA s b=some (.agg #[iV y.Kind,iV y.N,.string y.S])):Ev Tryz.prog s C ⟨d,.binOp .neq 30 a b u,ty,pos,af,gd⟩ (.bool (!decide (x=y))):=
 eS hx hy fun w=>by
  rw [Sem.run_bind,run_eqGuard_agg w _ _ _ _ _ _ Ae];simp only [Result.andThen_ok];rw [run_neq_struct,D7];rfl
theorem Fi:Tryz.prog.eqGuardType Tryz.prog.depth 42=false:=by kernel_rfl
theorem Id (x y:Me)(w:World):(Op.equalIn 10000 42 ((bA x)) ((bA y))).run Tryz.prog w=.ok (decide (x=y)) w:=by
 obtain ⟨⟨xKeyKind,xKeyN,xKeyS⟩,xAttrs,⟨xValueKind,xValueN,xValueS⟩,⟨xGetKind,xGetN,xGetS⟩,⟨xSetKind,xSetN,xSetS⟩⟩:=x;obtain ⟨⟨yKeyKind,yKeyN,yKeyS⟩,yAttrs,⟨yValueKind,yValueN,yValueS⟩,⟨yGetKind,yGetN,yGetS⟩,⟨ySetKind,ySetN,ySetS⟩⟩:=y;show (Op.equalIn 10000 42 (.agg #[iV xKeyKind,iV xKeyN,.string xKeyS,iV xAttrs,iV xValueKind,iV xValueN,.string xValueS,iV xGetKind,iV xGetN,.string xGetS,iV xSetKind,iV xSetN,.string xSetS]) (.agg #[iV yKeyKind,iV yKeyN,.string yKeyS,iV yAttrs,iV yValueKind,iV yValueN,.string yValueS,iV yGetKind,iV yGetN,.string yGetS,iV ySetKind,iV ySetN,.string ySetS])).run Tryz.prog w=_
 go_simp
 simp only [vv];by_cases h0:xKeyKind=yKeyKind
 rotate_left
 ·simp [h0]
 by_cases h1:xKeyN=yKeyN
 rotate_left
 ·simp [h0,h1]
 by_cases h2:xKeyS=yKeyS
 rotate_left
 ·simp [h0,h1,h2]
 by_cases h3:xAttrs=yAttrs
 rotate_left
 ·simp [h0,h1,h2,h3]
 by_cases h4:xValueKind=yValueKind
 rotate_left
 ·simp [h0,h1,h2,h3,h4]
 by_cases h5:xValueN=yValueN
 rotate_left
 ·simp [h0,h1,h2,h3,h4,h5]
 by_cases h6:xValueS=yValueS
 rotate_left
 ·simp [h0,h1,h2,h3,h4,h5,h6]
 by_cases h7:xGetKind=yGetKind
 rotate_left
 ·simp [h0,h1,h2,h3,h4,h5,h6,h7]
 by_cases h8:xGetN=yGetN
 rotate_left
 ·simp [h0,h1,h2,h3,h4,h5,h6,h7,h8]
 by_cases h9:xGetS=yGetS
 rotate_left
 ·simp [h0,h1,h2,h3,h4,h5,h6,h7,h8,h9]
 by_cases h10:xSetKind=ySetKind
 rotate_left
 ·simp [h0,h1,h2,h3,h4,h5,h6,h7,h8,h9,h10]
 by_cases h11:xSetN=ySetN
 rotate_left
 ·simp [h0,h1,h2,h3,h4,h5,h6,h7,h8,h9,h10,h11]
 by_cases h12:xSetS=ySetS
 rotate_left
 ·simp [h0,h1,h2,h3,h4,h5,h6,h7,h8,h9,h10,h11,h12]
 simp [h0,h1,h2,h3,h4,h5,h6,h7,h8,h9,h10,h11,h12]
theorem Fu {s:cB}{C:World→Prop}{d:Option Nat}{ty u:TypeId}{pos:String}{af:Array Edge}{gd:Option (Nat×Bool)}{a b:Operand}{x y:Me}(hx:cA s a=some ((bA x)))(hy:cA s b=some ((bA y))):Ev Tryz.prog s C ⟨d,.binOp .neq 42 a b u,ty,pos,af,gd⟩ (.bool (!decide (x=y))):=
 eS hx hy fun w=>by
  rw [Sem.run_bind,run_eqGuard_agg w _ _ _ _ _ _ Fi];simp only [Result.andThen_ok];rw [run_neq_struct,Id];rfl
theorem GC (x y:Mm)(w:World):(Op.equalIn 10000 257 ((Gt x)) ((Gt y))).run Tryz.prog w=.ok (decide (x=y)) w:=by
 obtain ⟨xup_,⟨xkey_Kind,xkey_N,xkey_S⟩,xattrs_⟩:=x;obtain ⟨yup_,⟨ykey_Kind,ykey_N,ykey_S⟩,yattrs_⟩:=y;show (Op.equalIn 10000 257 (.agg #[iV xup_,iV xkey_Kind,iV xkey_N,.string xkey_S,iV xattrs_]) (.agg #[iV yup_,iV ykey_Kind,iV ykey_N,.string ykey_S,iV yattrs_])).run Tryz.prog w=_
 go_simp
 simp only [vv];by_cases h0:xup_=yup_
 rotate_left
 ·simp [h0]
 by_cases h1:xkey_Kind=ykey_Kind
 rotate_left
 ·simp [h0,h1]
 by_cases h2:xkey_N=ykey_N
 rotate_left
 ·simp [h0,h1,h2]
 by_cases h3:xkey_S=ykey_S
 rotate_left
 ·simp [h0,h1,h2,h3]
 by_cases h4:xattrs_=yattrs_
 rotate_left
 ·simp [h0,h1,h2,h3,h4]
 simp [h0,h1,h2,h3,h4]
def aG (x:Mm):Value:=.agg #[iV x.up_,iV x.key_.Kind,iV x.key_.N,.string x.key_.S,iV x.attrs_]
theorem yD:KeyOk Tryz.prog 257 aG where
 und:=⟨_,Tryz.underlying257,fun a b=> .inl rfl⟩
 eq:=fun a b w=>GC a b w
 check:=fun e a w=>by
  obtain ⟨xup_,⟨xkey_Kind,xkey_N,xkey_S⟩,xattrs_⟩:=a;kernel_rfl
 bits:=fun a=>by
  obtain ⟨xup_,⟨xkey_Kind,xkey_N,xkey_S⟩,xattrs_⟩:=a;simp [aG,Instr.sameBits,Dr]
def eo (N:Nat)(a0:Int)(a1:Int)(a2:Int):Option Bool:=
 (bif decide (a1≤a0) then (some (decide (a0≤a2))) else (some false)).bind fun b1=>some b1
theorem eI {N:Nat}{a0:Int}{a1:Int}{a2:Int}{r:Bool}(h:eo N a0 a1 a2=some r):Okc Tryz.prog 147 [iV a0,iV a1,iV a2] ([]) (fun u post=>u=.bool r∧post=[]):=by
 refine br Tryz.func147 J J ?_;simp only [aS];refine Y ?_;obtain ⟨b1,hb1,h⟩:=aa h;refine aN 4 14 b1 ?_ ?_
 ·clear h;refine aK 10 J (fun g1=> ?_) (fun g1=> ?_)
  ·have h:=ah g1 hb1;refine Y ?_;obtain rfl:=ap h;exact ad sA (cS [] 0)
  have h:=ai g1 hb1;refine Y ?_;obtain rfl:=ap h;exact ad sA (cS [] 0)
 refine Y ?_;obtain rfl:=ap h;exact aO J J (cS [] 0) ⟨J,J⟩
theorem dS {r:Bool}: ∀v post,((fun (u:Value) (post:List Chunk)=>u=.bool r∧post=[])) v post→ ∀c∈post,bV c:=by
 rintro _ _ ⟨rfl,rfl⟩;exact ac
def tV (N:Nat)(a0:Mf):Option Bool:=
 (eo N a0.Way 0 1).bind fun y2=>(bif y2 then ((eo N a0.Steps 0 1073741824).bind fun y4=>some y4) else (some false)).bind fun b3=>(bif b3 then ((eo N a0.Calls 1 200).bind fun y6=>some y6) else (some false)).bind fun b5=>(bif b5 then ((eo N a0.Made 0 1048576).bind fun y8=>some y8) else (some false)).bind fun b7=>(bif b7 then ((eo N a0.Young 0 1073741824).bind fun y10=>some y10) else (some false)).bind fun b9=>(bif b9 then ((eo N a0.Full 0 1073741824).bind fun y12=>some y12) else (some false)).bind fun b11=>(bif b11 then ((eo N a0.Sites 0 4).bind fun y14=>some y14) else (some false)).bind fun b13=>some b13
set_option maxHeartbeats 4000000 in
theorem yf {N:Nat}{a0:Mf}{r:Bool}(h:tV N a0=some r):Okc Tryz.prog 85 [(Cn a0)] ([]) (fun u post=>u=.bool r∧post=[]):=by
 refine br Tryz.func85 J J ?_;simp only [aS];refine Y ?_;refine gD (aL J J) ?_;rintro _ _ ⟨B1,rfl,rfl⟩;refine Y ?_;obtain ⟨y2,hy2,h⟩:=aa h;refine gD (dM (eI hy2) rz J J J (ac) dS) ?_;rintro _ _ ⟨_,⟨rfl,rfl⟩,rfl⟩;refine Y ?_;obtain ⟨b3,hb3,h⟩:=aa h;refine aN 5 13 b3 ?_ ?_
 ·clear h;refine aK 8 J (fun g3=> ?_) (fun g3=> ?_)
  ·have h:=ah g3 hb3;refine Y ?_;obtain ⟨y4,hy4,h⟩:=aa h;refine cr (dM (eI hy4) rz J J J (ac) dS) J (bq g3 J) J ?_;rintro _ _ ⟨_,⟨rfl,rfl⟩,rfl⟩;refine Y ?_;obtain rfl:=ap h;exact ad sA (cS [0] 1)
  have h:=ai g3 hb3;refine Y ?_;obtain rfl:=ap h;exact ad sA (cS [0] 1)
 refine Y ?_;obtain ⟨b5,hb5,h⟩:=aa h;refine aN 5 19 b5 ?_ ?_
 ·clear h;refine aK 14 J (fun g5=> ?_) (fun g5=> ?_)
  ·have h:=ah g5 hb5;refine Y ?_;obtain ⟨y6,hy6,h⟩:=aa h;refine cr (dM (eI hy6) rz J J J (ac) dS) J (bq g5 J) J ?_;rintro _ _ ⟨_,⟨rfl,rfl⟩,rfl⟩;refine Y ?_;obtain rfl:=ap h;exact ad sA (cS [0] 1)
  have h:=ai g5 hb5;refine Y ?_;obtain rfl:=ap h;exact ad sA (cS [0] 1)
 refine Y ?_;obtain ⟨b7,hb7,h⟩:=aa h;refine aN 5 25 b7 ?_ ?_
 ·clear h;refine aK 20 J (fun g7=> ?_) (fun g7=> ?_)
  ·have h:=ah g7 hb7;refine Y ?_;obtain ⟨y8,hy8,h⟩:=aa h;refine cr (dM (eI hy8) rz J J J (ac) dS) J (bq g7 J) J ?_;rintro _ _ ⟨_,⟨rfl,rfl⟩,rfl⟩;refine Y ?_;obtain rfl:=ap h;exact ad sA (cS [0] 1)
  have h:=ai g7 hb7;refine Y ?_;obtain rfl:=ap h;exact ad sA (cS [0] 1)
 refine Y ?_;obtain ⟨b9,hb9,h⟩:=aa h;refine aN 5 31 b9 ?_ ?_
 ·clear h;refine aK 26 J (fun g9=> ?_) (fun g9=> ?_)
  ·have h:=ah g9 hb9;refine Y ?_;obtain ⟨y10,hy10,h⟩:=aa h;refine cr (dM (eI hy10) rz J J J (ac) dS) J (bq g9 J) J ?_;rintro _ _ ⟨_,⟨rfl,rfl⟩,rfl⟩;refine Y ?_;obtain rfl:=ap h;exact ad sA (cS [0] 1)
  have h:=ai g9 hb9;refine Y ?_;obtain rfl:=ap h;exact ad sA (cS [0] 1)
 refine Y ?_;obtain ⟨b11,hb11,h⟩:=aa h;refine aN 5 37 b11 ?_ ?_
 ·clear h;refine aK 32 J (fun g11=> ?_) (fun g11=> ?_)
  ·have h:=ah g11 hb11;refine Y ?_;obtain ⟨y12,hy12,h⟩:=aa h;refine cr (dM (eI hy12) rz J J J (ac) dS) J (bq g11 J) J ?_;rintro _ _ ⟨_,⟨rfl,rfl⟩,rfl⟩;refine Y ?_;obtain rfl:=ap h;exact ad sA (cS [0] 1)
  have h:=ai g11 hb11;refine Y ?_;obtain rfl:=ap h;exact ad sA (cS [0] 1)
 refine Y ?_;obtain ⟨b13,hb13,h⟩:=aa h;refine aN 5 43 b13 ?_ ?_
 ·clear h;refine aK 38 J (fun g13=> ?_) (fun g13=> ?_)
  ·have h:=ah g13 hb13;refine Y ?_;obtain ⟨y14,hy14,h⟩:=aa h;refine cr (dM (eI hy14) rz J J J (ac) dS) J (bq g13 J) J ?_;rintro _ _ ⟨_,⟨rfl,rfl⟩,rfl⟩;refine Y ?_;obtain rfl:=ap h;exact ad sA (cS [0] 1)
  have h:=ai g13 hb13;refine Y ?_;obtain rfl:=ap h;exact ad sA (cS [0] 1)
 refine Y ?_;obtain rfl:=ap h;exact aO J J (cS [] 1) ⟨J,J⟩
theorem vU {r:Bool}: ∀v post,((fun (u:Value) (post:List Chunk)=>u=.bool r∧post=[])) v post→ ∀c∈post,bV c:=by
 rintro _ _ ⟨rfl,rfl⟩;exact ac
def uG (N:Nat):Option Mc:=
 some (⟨([]:(List (Int×Bool)))⟩:Mc)
theorem zw {N:Nat}{r:Mc}(h:uG N=some r):Okc Tryz.prog 148 [] ([]) (fun u post=> ∃B0 M1,u=pV B0 0∧post=[aj B0 247 [.map (some M1)],aJ cv cx M1 r.at_]):=by
 refine br Tryz.func148 J J ?_;simp only [aS];refine Y ?_;refine gD (yu (ek:=cv) (ev:=cx)) ?_;rintro _ _ ⟨M1,rfl,rfl⟩;refine gE (bd J (FD _)) ?_;refine gD (aL J J) ?_;rintro _ _ ⟨B2,rfl,rfl⟩;refine Y ?_;obtain rfl:=ap h;exact aO J J (cS [0,1] 2) ⟨_,_,J,J⟩
def yF (N:Nat):Option Ma:=
 (uG N).bind fun y1=>some (⟨(⟨[],[]⟩:Mq),[],[],y1⟩:Ma)
theorem Ck {N:Nat}{r:Ma}(h:yF N=some r):Okc Tryz.prog 86 [] ([]) (fun u post=> ∃B0 A1 n1 c1 A2 n2 c2 A3 n3 c3 A4 n4 c4 B5 M6,u=pV B0 0∧post=[aj B0 199 [I A1 n1 c1,I A2 n2 c2,I A3 n3 c3,I A4 n4 c4,pV B5 0],bx A1 n1 c1 r.m_.Young,bx A2 n2 c2 r.m_.Old,ba A3 n3 c3 r.roots_,ba A4 n4 c4 r.pending_,aj B5 247 [.map (some M6)],aJ cv cx M6 r.set_.at_]):=by
 refine br Tryz.func86 J J ?_;simp only [aS];refine Y ?_;obtain ⟨y1,hy1,h⟩:=aa h;refine gD (aE (zw hy1) IM J (aC [] [] [] 0 J)) ?_;rintro _ _ ⟨_,⟨B2,M3,rfl,rfl⟩,rfl⟩;refine gE (bd J (FF _)) ?_;refine gD (aL J J) ?_;rintro _ _ ⟨B4,rfl,rfl⟩;refine Y ?_;obtain rfl:=ap h;exact aO J J ((dY su 138 _).trans ((dY su 138 _).trans ((dY bS 30 _).trans ((dY bS 30 _).trans (cS [4,3,2,1,0,5,6] 7))))) ⟨_,_,_,_,_,_,_,_,_,_,_,_,_,_,_,J,J⟩
def wz (N:Nat):Option Mh:=
 some (⟨([(⟨(-1),(⟨0,0,⟨#[]⟩⟩:Mn),0,0⟩:Mo)]:List Mo),([]:(List (Mm×Int)))⟩:Mh)
theorem AD {N:Nat}{r:Mh}(h:wz N=some r):Okc Tryz.prog 87 [] ([]) (fun u post=> ∃B0 A1 n1 c1 M2,u=pV B0 0∧post=[aj B0 205 [I A1 n1 c1,.map (some M2)],cI A1 n1 c1 r.shapes_,aJ aG cu M2 r.next_]):=by
 refine br Tryz.func87 J J ?_;simp only [aS];refine Y ?_;refine gE (bd J (FE _)) ?_;refine gD (bP (R:=tp) (vss:=[[iV (-1),iV 0,iV 0,.string (⟨#[]⟩),iV 0,iV 0]]) (xs:=[(⟨(-1),(⟨0,0,⟨#[]⟩⟩:Mn),0,0⟩:Mo)]) J (ws _ _ _ _ _ _) J J (fun _ _ hr=> .cons J All2.nil)) ?_;rintro _ _ ⟨A1,n1,c1,rfl,rfl⟩;refine gD (yu (ek:=aG) (ev:=cu)) ?_;rintro _ _ ⟨M2,rfl,rfl⟩;refine gE (bd J (CI _ _ _ _)) ?_;refine gD (aL J J) ?_;rintro _ _ ⟨B3,rfl,rfl⟩;refine Y ?_;obtain rfl:=ap h;exact aO J J (cS [0,2,1] 3) ⟨_,_,_,_,_,J,J⟩
def cm (N:Nat)(a0:Ma):Option Bool:=
 some false
theorem eP {N:Nat}{a0:Ma}{r:Bool}(h:cm N a0=some r):Okc Tryz.prog 149 [pV B1 0] ([aR B1 199 [I A2 n2 c2,I A3 n3 c3,I A4 n4 c4,I A5 n5 c5,pV B6 0],rL A2 n2 c2 a0.m_.Young,rL A3 n3 c3 a0.m_.Old,dm A4 n4 c4 a0.roots_,dm A5 n5 c5 a0.pending_,aR B6 247 [.map (some M7)],iM cv cx M7 a0.set_.at_]) (fun u post=>u=.bool r∧post=[]):=by
 refine br Tryz.func149 J J ?_;simp only [aS];refine Y ?_;refine gE (di J Tryz.underlying142) ?_;refine Y ?_;refine gR (cJ 0 J J vY J) ?_;refine gE (di J Tryz.underlying193) ?_;refine Y ?_;obtain rfl:=ap h;exact aO J J (cS [] 7) ⟨J,J⟩
theorem dX {r:Bool}: ∀v post,((fun (u:Value) (post:List Chunk)=>u=.bool r∧post=[])) v post→ ∀c∈post,bV c:=by
 rintro _ _ ⟨rfl,rfl⟩;exact ac
def iF (N:Nat)(a0:Ma)(a1:Int):Option Mg:=
 (cm N a0).bind fun y9=>(bif y9 then (some true) else (some (decide (a1<0)))).bind fun b10=>(bif b10 then (some true) else (some (decide ((a0.roots_.length:Int)≤a1)))).bind fun b11=>bif b11 then (some (⟨0,0,⟨#[]⟩⟩:Mg)) else ((bU a0.roots_ a1).bind fun x13=>some x13)
theorem jM {N:Nat}{a0:Ma}{a1:Int}{r:Mg}(h:iF N a0 a1=some r):Okc Tryz.prog 95 [pV B1 0,iV a1] ([aR B1 199 [I A2 n2 c2,I A3 n3 c3,I A4 n4 c4,I A5 n5 c5,pV B6 0],rL A2 n2 c2 a0.m_.Young,rL A3 n3 c3 a0.m_.Old,dm A4 n4 c4 a0.roots_,dm A5 n5 c5 a0.pending_,aR B6 247 [.map (some M7)],iM cv cx M7 a0.set_.at_]) (fun u post=>u=(aZ r)∧post=[]):=by
 refine br Tryz.func95 J J ?_;simp only [aS];refine Y ?_;refine gD (aH d9 J) ?_;rintro _ _ ⟨B8,rfl,rfl⟩;refine Y ?_;refine az ?_;refine Y ?_;obtain ⟨y9,hy9,h⟩:=aa h;refine gD (al (eP hy9) tx J (hD (ao (i:=1) J J) (hD (ao (i:=2) J J) (hD (ao (i:=3) J J) (hD (ao (i:=4) J J) (hD (ao (i:=5) J J) (hD (ao (i:=6) J J) (hD (ao (i:=7) J J) ac))))))) dX) ?_;rintro _ _ ⟨_,⟨rfl,rfl⟩,rfl⟩;refine Y ?_;obtain ⟨b10,hb10,h⟩:=aa h;refine aN 3 10 b10 ?_ ?_
 ·clear h;refine aK 7 J (fun g10=> ?_) (fun g10=> ?_)
  ·have h:=ah g10 hb10;refine Y ?_;obtain rfl:=ap h;exact ad sA (cS [0,1,2,3,4,5,6,7] 8)
  have h:=ai g10 hb10;refine Y ?_;obtain rfl:=ap h;exact ad sA (cS [0,1,2,3,4,5,6,7] 8)
 refine Y ?_;obtain ⟨b11,hb11,h⟩:=aa h;refine aN 8 19 b11 ?_ ?_
 ·clear h;refine aK 11 J (fun g11=> ?_) (fun g11=> ?_)
  ·have h:=ah g11 hb11;refine Y ?_;obtain rfl:=ap h;exact ad sA (cS [0,1,2,3,4,5,6,7] 8)
  have h:=ai g11 hb11;refine Y ?_;refine ci (cJ 1 J J ik J) J (cU g11 J) J ?_;refine ci (bG 4 J aU J hH) J (cU g11 J) J ?_;refine Y ?_;obtain rfl:=ap h;exact ad sA (cS [0,1,2,3,4,5,6,7] 8)
 refine Y ?_;refine au J (fun g12=> ?_) (fun g12=> ?_)
 ·replace h:=ah g12 h;refine Y ?_;refine gE (bd J (eM)) ?_;refine gO (ar (us:=[iV 0,iV 0,.string (⟨#[]⟩)]) (cs':=[iV 0,iV 0,.string (⟨#[]⟩)]) 0 J J J J bm J J J) ?_;rintro _ _ rfl;refine Y ?_;obtain rfl:=ap h;exact ca (rs:=[.cell 4 30]) (vs:=[.agg #[iV 0,iV 0,.string (⟨#[]⟩)]]) J (.cons (bu 0 J J aD) .nil) J (cS [] 8) ⟨J,J⟩
 replace h:=ai g12 h;refine Y ?_;refine gR (cJ 1 J J ik J) ?_;refine Y ?_;obtain ⟨x13,hx13,h⟩:=aa h;obtain ⟨lx13,ux13,hx13⟩:=aI hx13;refine gR (bp 4 J aU J J hH bm lx13 ux13) ?_;refine gR (bj (us:=[iV x13.Kind,iV x13.N,.string x13.S]) 4 J aU J hx13 aD (fun _ _ _ h=>by rw [show _=_ from h];rfl)) ?_;refine gO (ar (us:=[iV x13.Kind,iV x13.N,.string x13.S]) (cs':=[iV x13.Kind,iV x13.N,.string x13.S]) 0 J J J J bm J J J) ?_;rintro _ _ rfl;refine Y ?_;obtain rfl:=ap h;exact ca (rs:=[.cell 4 30]) (vs:=[.agg #[iV x13.Kind,iV x13.N,.string x13.S]]) J (.cons (bu 0 J J aD) .nil) J (cS [] 8) ⟨J,J⟩
theorem iw {r:Mg}: ∀v post,((fun (u:Value) (post:List Chunk)=>u=(aZ r)∧post=[])) v post→ ∀c∈post,bV c:=by
 rintro _ _ ⟨rfl,rfl⟩;exact ac
def jr (N:Nat){σ:Type}(fy:(Bool×Mg)→σ→Option (Bool×σ))(a1:Mb):Nat→Int→σ→Option σ
 |0,_,_=>none
 |m15+1,p16,p17=>bif decide (p16<(a1.More.length:Int)) then ((bU a1.More p16).bind fun x19=>(bif !decide (a1.Kind=8) then ((bif !decide (a1.Kind=10) then (some true) else (some (decide (p16.tmod 2=0)))).bind fun b22=>some b22) else (some false)).bind fun b21=>(fy (b21,x19) p17).bind fun y23=>bif !y23.1 then (some y23.2) else (cR (bK (p16+1)) ((jr N fy a1 m15) (p16+1) y23.2))) else (some p17)
def sT (N:Nat){σ:Type}(fy:(Bool×Mg)→σ→Option (Bool×σ))(a1:Mb)(p5:σ):Option σ:=
 jr N fy a1 N 0 p5
def kq (N:Nat){σ:Type}(fy:(Bool×Mg)→σ→Option (Bool×σ))(a1:Mb):Nat→Int→σ→Option σ
 |0,_,_=>none
 |m6+1,p7,p8=>bif decide (p7<(a1.Slots.length:Int)) then ((bU a1.Slots p7).bind fun x10=>(fy (true,x10) p8).bind fun y12=>bif !y12.1 then (some y12.2) else (cR (bK (p7+1)) ((kq N fy a1 m6) (p7+1) y12.2))) else (sT N fy a1 p8)
def ll (N:Nat){σ:Type}(a1:Mb)(fy:(Bool×Mg)→σ→Option (Bool×σ))(s0:σ):Option σ:=
 kq N fy a1 N 0 s0
set_option maxHeartbeats 4000000 in
theorem sS {N:Nat}{σ:Type}{a1:Mb}{fy:(Bool×Mg)→σ→Option (Bool×σ)}{s0:σ}{r:σ}(h:ll N a1 fy s0=some r){l:Nat}{G:σ→List Chunk}(hY:rB Tryz.prog l G (fun x=> [.bool x.1,.agg #[iV x.2.Kind,iV x.2.N,.string x.2.S]]) fy):Okc Tryz.prog 238 [.func (.yield l) #[] #[],pV B1 0] (aR B1 138 [iV a1.Kind,iV a1.Shape,iV a1.Flags,iV a1.Age,I A2 n2 c2,I A3 n3 c3]::dm A2 n2 c2 a1.Slots::dm A3 n3 c3 a1.More::(G s0)) (fun u post=>u=.tuple #[]∧post=G r):=by
 refine br Tryz.func238 J J ?_;simp only [aS];refine aW (fun s L=> ∃p5,sT N fy a1 p5=some r∧s=[(0,.func (.yield l) #[] #[]),(1,pV B1 0)]∧L=dm A2 n2 c2 a1.Slots::dm A3 n3 c3 a1.More::aR B1 138 [iV a1.Kind,iV a1.Shape,iV a1.Flags,iV a1.Age,I A2 n2 c2,I A3 n3 c3]::(G p5)) ?_ ?_
 ·refine Y ?_;refine gR (cJ 0 J J ik J) ?_;refine gR (bG 1 J aU J hH) ?_;refine Y ?_;refine bN (fun m s L=> ∃p7 p8,kq N fy a1 m p7 p8=some r∧s=[(0,.func (.yield l) #[] #[]),(1,pV B1 0),(9,I A2 n2 c2),(10,iV (a1.Slots.length:Int)),(11,iV p7)]∧L=dm A2 n2 c2 a1.Slots::dm A3 n3 c3 a1.More::aR B1 138 [iV a1.Kind,iV a1.Shape,iV a1.Flags,iV a1.Age,I A2 n2 c2,I A3 n3 c3]::(G p8)) N _ _ ⟨0,s0,h,J,J⟩ sA (cS [1,2,0] 3) ?_;rintro (_|m6) _ _ ⟨p7,p8,h,rfl,rfl⟩
  ·exact bg h
  rw [kq.eq_2] at h;refine Y ?_;refine az ?_;refine au J (fun g9=> ?_) (fun g9=> ?_)
  ·replace h:=ah g9 h;refine Y ?_;refine az ?_;refine Y ?_;obtain ⟨x10,hx10,h⟩:=aa h;obtain ⟨lx10,ux10,hx10⟩:=aI hx10;refine gR (bp 0 J aU J J hH bm lx10 ux10) ?_;refine gR (bj (us:=[iV x10.Kind,iV x10.N,.string x10.S]) 0 J aU J hx10 aD (fun _ _ _ h=>by rw [show _=_ from h];rfl)) ?_;refine gD (aH d9 J) ?_;rintro _ _ ⟨B11,rfl,rfl⟩;refine gO (ar (us:=[iV x10.Kind,iV x10.N,.string x10.S]) (cs':=[iV x10.Kind,iV x10.N,.string x10.S]) 0 J J J J bm J J J) ?_;rintro _ _ rfl;refine Y ?_;refine gR (ab (us:=[iV x10.Kind,iV x10.N,.string x10.S]) 0 J J aD J) ?_;obtain ⟨y12,hy12,h⟩:=aa h;refine gD (vX (a:=(true,x10)) [aj B11 30 [iV x10.Kind,iV x10.N,.string x10.S],dm A2 n2 c2 a1.Slots,dm A3 n3 c3 a1.More,aR B1 138 [iV a1.Kind,iV a1.Shape,iV a1.Flags,iV a1.Age,I A2 n2 c2,I A3 n3 c3]] hY hy12 J J) ?_;rintro _ _ ⟨rfl,rfl⟩;refine Y ?_;refine au J (fun g13=> ?_) (fun g13=> ?_)
   ·replace h:=ah g13 h;refine Y ?_;obtain rfl:=ap h;exact Ai J (cS [] 4) ⟨J,J⟩
   replace h:=ai g13 h;refine Y ?_;obtain ⟨q14,h⟩:=ay h;refine gE (bE J J q14.1 q14.2) ?_;refine Y ?_;exact ⟨m6,_,_,Mw _,⟨p7+1,y12.2,h,J,J⟩,sA,cS [1,2,3] 4⟩
  replace h:=ai g9 h;refine Y ?_;exact ⟨_,_,⟨p8,h,J,J⟩,sA,cS [0,1,2] 3⟩
 rintro _ _ ⟨p5,h,rfl,rfl⟩;refine Y ?_;refine gR (cJ 2 J J ik J) ?_;refine gR (bG 1 J aU J hH) ?_;refine Y ?_;refine bN (fun m s L=> ∃p16 p17,jr N fy a1 m p16 p17=some r∧s=[(0,.func (.yield l) #[] #[]),(1,pV B1 0),(21,I A3 n3 c3),(22,iV (a1.More.length:Int)),(23,iV p16)]∧L=dm A3 n3 c3 a1.More::dm A2 n2 c2 a1.Slots::aR B1 138 [iV a1.Kind,iV a1.Shape,iV a1.Flags,iV a1.Age,I A2 n2 c2,I A3 n3 c3]::(G p17)) N _ _ ⟨0,p5,h,J,J⟩ sA (cS [1,0,2] 3) ?_;rintro (_|m15) _ _ ⟨p16,p17,h,rfl,rfl⟩
 ·exact bg h
 rw [jr.eq_2] at h;refine Y ?_;refine az ?_;refine au J (fun g18=> ?_) (fun g18=> ?_)
 ·replace h:=ah g18 h;refine Y ?_;refine az ?_;refine Y ?_;obtain ⟨x19,hx19,h⟩:=aa h;obtain ⟨lx19,ux19,hx19⟩:=aI hx19;refine gR (bp 0 J aU J J hH bm lx19 ux19) ?_;refine gR (bj (us:=[iV x19.Kind,iV x19.N,.string x19.S]) 0 J aU J hx19 aD (fun _ _ _ h=>by rw [show _=_ from h];rfl)) ?_;refine gD (aH d9 J) ?_;rintro _ _ ⟨B20,rfl,rfl⟩;refine Y ?_;refine gO (ar (us:=[iV x19.Kind,iV x19.N,.string x19.S]) (cs':=[iV x19.Kind,iV x19.N,.string x19.S]) 0 J J J J bm J J J) ?_;rintro _ _ rfl;refine bL ?_;refine Y ?_;refine gR (cJ 3 J J dv J) ?_;refine Y ?_;obtain ⟨b21,hb21,h⟩:=aa h;refine aN 9 40 b21 ?_ ?_
  ·clear h;refine aK 31 J (fun g21=> ?_) (fun g21=> ?_)
   ·have h:=ah g21 hb21;refine Y ?_;refine ci (cJ 3 J J dv J) J (bq g21 J) J ?_;refine Y ?_;obtain ⟨b22,hb22,h⟩:=aa h;refine aN 4 39 b22 ?_ ?_
    ·clear h;refine aK 35 J (fun g22=> ?_) (fun g22=> ?_)
     ·have h:=ah g22 hb22;refine Y ?_;obtain rfl:=ap h;exact ad sA (cS [0,1,2,3] 4)
     have h:=ai g22 hb22;refine Y ?_;refine d3 (pF J J (by decide)) J (cU g22 J) J ?_;refine Y ?_;obtain rfl:=ap h;exact ad sA (cS [0,1,2,3] 4)
    refine Y ?_;obtain rfl:=ap h;exact ad sA (cS [0,1,2,3] 4)
   have h:=ai g21 hb21;refine Y ?_;obtain rfl:=ap h;exact ad sA (cS [0,1,2,3] 4)
  refine Y ?_;refine gR (ab (us:=[iV x19.Kind,iV x19.N,.string x19.S]) 0 J J aD J) ?_;obtain ⟨y23,hy23,h⟩:=aa h;refine gD (vX (a:=(b21,x19)) [aj B20 30 [iV x19.Kind,iV x19.N,.string x19.S],dm A3 n3 c3 a1.More,dm A2 n2 c2 a1.Slots,aR B1 138 [iV a1.Kind,iV a1.Shape,iV a1.Flags,iV a1.Age,I A2 n2 c2,I A3 n3 c3]] hY hy23 J J) ?_;rintro _ _ ⟨rfl,rfl⟩;refine Y ?_;refine au J (fun g24=> ?_) (fun g24=> ?_)
  ·replace h:=ah g24 h;refine Y ?_;obtain rfl:=ap h;exact Ai J (cS [] 4) ⟨J,J⟩
  replace h:=ai g24 h;refine Y ?_;obtain ⟨q25,h⟩:=ay h;refine gE (bE J J q25.1 q25.2) ?_;refine Y ?_;exact ⟨m15,_,_,Mw _,⟨p16+1,y23.2,h,J,J⟩,sA,cS [1,2,3] 4⟩
 replace h:=ai g18 h;refine Y ?_;obtain rfl:=ap h;exact ez J (cS [] 3) ⟨J,J⟩
def uu (N:Nat)(a0:Mb):Option Unit:=
 some ()
theorem wO {N:Nat}{a0:Mb}{r:Unit}(h:uu N a0=some r):Okc Tryz.prog 225 [.agg #[iV a0.Kind,iV a0.Shape,iV a0.Flags,iV a0.Age,I A1 n1 c1,I A2 n2 c2]] ([dm A1 n1 c1 a0.Slots,dm A2 n2 c2 a0.More]) (fun u post=> ∃B900,u=.func (.func 238) #[] #[pV B900 0]∧post=[aj B900 138 [iV a0.Kind,iV a0.Shape,iV a0.Flags,iV a0.Age,I A1 n1 c1,I A2 n2 c2]]):=by
 refine br Tryz.func225 J J ?_;simp only [aS];refine Y ?_;refine gD (aL J J) ?_;rintro _ _ ⟨B3,rfl,rfl⟩;refine Y ?_;refine gE (sK J) ?_;refine Y ?_;obtain rfl:=ap h;exact aO J J (cS [0] 3) ⟨_,J,J⟩
theorem t8 {a0:Mb}{A1:Option Addr}{n1:Nat}{c1:Nat}{A2:Option Addr}{n2:Nat}{c2:Nat}: ∀v post,((fun (u:Value) (post:List Chunk)=> ∃B900,u=.func (.func 238) #[] #[pV B900 0]∧post=[aj B900 138 [iV a0.Kind,iV a0.Shape,iV a0.Flags,iV a0.Age,I A1 n1 c1,I A2 n2 c2]])) v post→ ∀c∈post,bV c:=by
 rintro _ _ ⟨_,rfl,rfl⟩;exact hD sF (ac)
def iP (N:Nat)(a0:Mg)(p10:Bool):Option Bool:=
 bif p10 then (some (decide (1≤a0.N))) else ((bif decide (a0.N=0) then (some (decide (0≤a0.Kind))) else (some false)).bind fun b14=>(bif b14 then (some (decide (a0.Kind≤9))) else (some false)).bind fun b15=>some b15)
def ii (N:Nat)(a0:Mg):Option Bool:=
 bif decide (a0.Kind=5) then ((bif decide (a0.N=0) then (some (decide ((a0.S.size:Int)≤65536))) else (some false)).bind fun b3=>some b3) else (bif !(a0.S.toList==(⟨#[]⟩:ByteArray).toList) then (some false) else (bif decide (a0.Kind=2) then ((bif decide (a0.N=0) then (some true) else (some (decide (a0.N=1)))).bind fun b6=>some b6) else (bif decide (a0.Kind=3) then ((bif decide ((-9007199254740992)≤a0.N) then (some (decide (a0.N≤9007199254740992))) else (some false)).bind fun b8=>some b8) else (bif decide (a0.Kind=6) then (iP N a0 (decide (a0.Kind=6))) else (bif decide (a0.Kind=7) then (iP N a0 (decide (a0.Kind=7))) else (iP N a0 (decide (a0.Kind=9))))))))
set_option maxHeartbeats 4000000 in
theorem CE {N:Nat}{a0:Mg}{r:Bool}(h:ii N a0=some r):Okc Tryz.prog 226 [(aZ a0)] ([]) (fun u post=>u=.bool r∧post=[]):=by
 refine br Tryz.func226 J J ?_;simp only [aS];refine Y ?_;refine gD (aL J J) ?_;rintro _ _ ⟨B1,rfl,rfl⟩;refine Y ?_;refine az ?_;refine Y ?_;refine au J (fun g2=> ?_) (fun g2=> ?_)
 ·replace h:=ah g2 h;refine Y ?_;obtain ⟨b3,hb3,h⟩:=aa h;refine aN 5 14 b3 ?_ ?_
  ·clear h;refine aK 9 J (fun g3=> ?_) (fun g3=> ?_)
   ·have h:=ah g3 hb3;refine Y ?_;refine d3 (ls J Ex) J (bq g3 J) J ?_;refine Y ?_;obtain rfl:=ap h;exact ad sA (cS [0] 1)
   have h:=ai g3 hb3;refine Y ?_;obtain rfl:=ap h;exact ad sA (cS [0] 1)
  refine Y ?_;obtain rfl:=ap h;exact aO J J (cS [] 1) ⟨J,J⟩
 replace h:=ai g2 h;refine Y ?_;refine az ?_;refine Y ?_;refine gE (yO J J) ?_;refine Y ?_;refine au J (fun g4=> ?_) (fun g4=> ?_)
 ·replace h:=ah g4 h;refine Y ?_;obtain rfl:=ap h;exact aO J J (cS [] 1) ⟨J,J⟩
 replace h:=ai g4 h;refine Y ?_;refine az ?_;refine Y ?_;refine au J (fun g5=> ?_) (fun g5=> ?_)
 ·replace h:=ah g5 h;refine Y ?_;obtain ⟨b6,hb6,h⟩:=aa h;refine aN 4 29 b6 ?_ ?_
  ·clear h;refine aK 25 J (fun g6=> ?_) (fun g6=> ?_)
   ·have h:=ah g6 hb6;refine Y ?_;obtain rfl:=ap h;exact ad sA (cS [0] 1)
   have h:=ai g6 hb6;refine Y ?_;obtain rfl:=ap h;exact ad sA (cS [0] 1)
  refine Y ?_;obtain rfl:=ap h;exact aO J J (cS [] 1) ⟨J,J⟩
 replace h:=ai g5 h;refine Y ?_;refine au J (fun g7=> ?_) (fun g7=> ?_)
 ·replace h:=ah g7 h;refine Y ?_;obtain ⟨b8,hb8,h⟩:=aa h;refine aN 4 39 b8 ?_ ?_
  ·clear h;refine aK 35 J (fun g8=> ?_) (fun g8=> ?_)
   ·have h:=ah g8 hb8;refine Y ?_;obtain rfl:=ap h;exact ad sA (cS [0] 1)
   have h:=ai g8 hb8;refine Y ?_;obtain rfl:=ap h;exact ad sA (cS [0] 1)
  refine Y ?_;obtain rfl:=ap h;exact aO J J (cS [] 1) ⟨J,J⟩
 replace h:=ai g7 h;refine aW (fun s L=> ∃p10,iP N a0 p10=some r∧s=[(1,pV B1 0),(2,.bool false),(40,.bool p10)]∧L=[aj B1 30 (av a0)]) ?_ ?_
 ·refine Y ?_;refine au J (fun g11=> ?_) (fun g11=> ?_)
  ·replace h:=ah g11 h;refine Y ?_;exact ⟨_,_,⟨decide (a0.Kind=6),h,J,J⟩,sA,cS [0] 1⟩
  replace h:=ai g11 h;refine Y ?_;refine au J (fun g12=> ?_) (fun g12=> ?_)
  ·replace h:=ah g12 h;refine Y ?_;exact ⟨_,_,⟨decide (a0.Kind=7),h,J,J⟩,sA,cS [0] 1⟩
  replace h:=ai g12 h;refine Y ?_;exact ⟨_,_,⟨decide (a0.Kind=9),h,J,J⟩,sA,cS [0] 1⟩
 rintro _ _ ⟨p10,h,rfl,rfl⟩;refine au J (fun g13=> ?_) (fun g13=> ?_)
 ·replace h:=ah g13 h;refine Y ?_;obtain rfl:=ap h;exact aO J J (cS [] 1) ⟨J,J⟩
 replace h:=ai g13 h;refine Y ?_;obtain ⟨b14,hb14,h⟩:=aa h;refine aN 4 54 b14 ?_ ?_
 ·clear h;refine aK 50 J (fun g14=> ?_) (fun g14=> ?_)
  ·have h:=ah g14 hb14;refine Y ?_;obtain rfl:=ap h;exact ad sA (cS [0] 1)
  have h:=ai g14 hb14;refine Y ?_;obtain rfl:=ap h;exact ad sA (cS [0] 1)
 refine Y ?_;obtain ⟨b15,hb15,h⟩:=aa h;refine aN 4 59 b15 ?_ ?_
 ·clear h;refine aK 55 J (fun g15=> ?_) (fun g15=> ?_)
  ·have h:=ah g15 hb15;refine Y ?_;obtain rfl:=ap h;exact ad sA (cS [0] 1)
  have h:=ai g15 hb15;refine Y ?_;obtain rfl:=ap h;exact ad sA (cS [0] 1)
 refine Y ?_;obtain rfl:=ap h;exact aO J J (cS [] 1) ⟨J,J⟩
theorem zL {r:Bool}: ∀v post,((fun (u:Value) (post:List Chunk)=>u=.bool r∧post=[])) v post→ ∀c∈post,bV c:=by
 rintro _ _ ⟨rfl,rfl⟩;exact ac
def fY (N:Nat)(p2:Bool):Option Bool:=
 bif p2 then (some true) else (some false)
def mV (N:Nat)(a0:Int):Option Bool:=
 bif decide (a0=1) then (fY N (decide (a0=1))) else (bif decide (a0=2) then (fY N (decide (a0=2))) else (bif decide (a0=3) then (fY N (decide (a0=3))) else (bif decide (a0=6) then (fY N (decide (a0=6))) else (bif decide (a0=8) then (fY N (decide (a0=8))) else (bif decide (a0=9) then (fY N (decide (a0=9))) else (fY N (decide (a0=10))))))))
theorem CF {N:Nat}{a0:Int}{r:Bool}(h:mV N a0=some r):Okc Tryz.prog 239 [iV a0] ([]) (fun u post=>u=.bool r∧post=[]):=by
 refine br Tryz.func239 J J ?_;simp only [aS];refine Y ?_;refine az ?_;refine Y ?_;refine aW (fun s L=> ∃p2,fY N p2=some r∧s=[(2,.bool false),(4,.bool p2)]∧L=[]) ?_ ?_
 ·refine Y ?_;refine au J (fun g3=> ?_) (fun g3=> ?_)
  ·replace h:=ah g3 h;refine Y ?_;exact ⟨_,_,⟨decide (a0=1),h,J,J⟩,sA,cS [] 0⟩
  replace h:=ai g3 h;refine Y ?_;refine au J (fun g4=> ?_) (fun g4=> ?_)
  ·replace h:=ah g4 h;refine Y ?_;exact ⟨_,_,⟨decide (a0=2),h,J,J⟩,sA,cS [] 0⟩
  replace h:=ai g4 h;refine Y ?_;refine au J (fun g5=> ?_) (fun g5=> ?_)
  ·replace h:=ah g5 h;refine Y ?_;exact ⟨_,_,⟨decide (a0=3),h,J,J⟩,sA,cS [] 0⟩
  replace h:=ai g5 h;refine Y ?_;refine au J (fun g6=> ?_) (fun g6=> ?_)
  ·replace h:=ah g6 h;refine Y ?_;exact ⟨_,_,⟨decide (a0=6),h,J,J⟩,sA,cS [] 0⟩
  replace h:=ai g6 h;refine Y ?_;refine au J (fun g7=> ?_) (fun g7=> ?_)
  ·replace h:=ah g7 h;refine Y ?_;exact ⟨_,_,⟨decide (a0=8),h,J,J⟩,sA,cS [] 0⟩
  replace h:=ai g7 h;refine Y ?_;refine au J (fun g8=> ?_) (fun g8=> ?_)
  ·replace h:=ah g8 h;refine Y ?_;exact ⟨_,_,⟨decide (a0=9),h,J,J⟩,sA,cS [] 0⟩
  replace h:=ai g8 h;refine Y ?_;exact ⟨_,_,⟨decide (a0=10),h,J,J⟩,sA,cS [] 0⟩
 rintro _ _ ⟨p2,h,rfl,rfl⟩;refine au J (fun g9=> ?_) (fun g9=> ?_)
 ·replace h:=ah g9 h;refine Y ?_;obtain rfl:=ap h;exact aO J J (cS [] 0) ⟨J,J⟩
 replace h:=ai g9 h;refine Y ?_;obtain rfl:=ap h;exact aO J J (cS [] 0) ⟨J,J⟩
theorem zN {r:Bool}: ∀v post,((fun (u:Value) (post:List Chunk)=>u=.bool r∧post=[])) v post→ ∀c∈post,bV c:=by
 rintro _ _ ⟨rfl,rfl⟩;exact ac
def fw (N:Nat)(a0:Mg)(a1:Int):Option Bool:=
 (bif decide (a0.Kind=0) then (some true) else (some (decide (a0.Kind=a1)))).bind fun b2=>some b2
theorem iG {N:Nat}{a0:Mg}{a1:Int}{r:Bool}(h:fw N a0 a1=some r):Okc Tryz.prog 240 [(aZ a0),iV a1] ([]) (fun u post=>u=.bool r∧post=[]):=by
 refine br Tryz.func240 J J ?_;simp only [aS];refine Y ?_;refine gD (aL J J) ?_;rintro _ _ ⟨B1,rfl,rfl⟩;refine Y ?_;obtain ⟨b2,hb2,h⟩:=aa h;refine aN 5 13 b2 ?_ ?_
 ·clear h;refine aK 8 J (fun g2=> ?_) (fun g2=> ?_)
  ·have h:=ah g2 hb2;refine Y ?_;obtain rfl:=ap h;exact ad sA (cS [0] 1)
  have h:=ai g2 hb2;refine Y ?_;obtain rfl:=ap h;exact ad sA (cS [0] 1)
 refine Y ?_;obtain rfl:=ap h;exact aO J J (cS [] 1) ⟨J,J⟩
theorem f6 {r:Bool}: ∀v post,((fun (u:Value) (post:List Chunk)=>u=.bool r∧post=[])) v post→ ∀c∈post,bV c:=by
 rintro _ _ ⟨rfl,rfl⟩;exact ac
def eK (N:Nat)(a0:Mb):Option Bool:=
 (mV N a0.Kind).bind fun y4=>(bif y4 then (some true) else ((bif decide (a0.Kind=7) then (some (decide (0<(a0.Slots.length:Int)))) else (some false)).bind fun b6=>some b6)).bind fun b5=>bif b5 then ((bif decide (1≤(a0.Slots.length:Int)) then (some (decide ((a0.Slots.length:Int)≤1025))) else (some false)).bind fun b8=>(bif b8 then ((bU a0.Slots 0).bind fun x10=>(bif decide (x10.Kind=1) then (some true) else ((bU a0.Slots 0).bind fun x12=>some (decide (x12.Kind=7)))).bind fun b11=>some b11) else (some false)).bind fun b9=>some b9) else (bif decide (a0.Kind=7) then (some (decide (a0.Shape=0))) else ((bif !decide (a0.Shape=0) then (some true) else (some (!decide (a0.Flags=0)))).bind fun b14=>bif b14 then (some false) else (bif decide (a0.Kind=5) then ((bif decide ((a0.Slots.length:Int)=2) then ((bU a0.Slots 0).bind fun x18=>(fw N x18 7).bind fun y19=>some y19) else (some false)).bind fun b17=>(bif b17 then ((bU a0.Slots 1).bind fun x21=>(fw N x21 7).bind fun y22=>some y22) else (some false)).bind fun b20=>some b20) else (some (decide ((a0.Slots.length:Int)=0))))))
set_option maxHeartbeats 4000000 in
theorem ut {N:Nat}{a0:Mb}{r:Bool}(h:eK N a0=some r):Okc Tryz.prog 227 [.agg #[iV a0.Kind,iV a0.Shape,iV a0.Flags,iV a0.Age,I A1 n1 c1,I A2 n2 c2]] ([dm A1 n1 c1 a0.Slots,dm A2 n2 c2 a0.More]) (fun u post=>u=.bool r∧post=[]):=by
 refine br Tryz.func227 J J ?_;simp only [aS];refine Y ?_;refine gD (aL J J) ?_;rintro _ _ ⟨B3,rfl,rfl⟩;refine Y ?_;refine az ?_;refine Y ?_;obtain ⟨y4,hy4,h⟩:=aa h;refine gD (al (CF hy4) Ir J (ac) zN) ?_;rintro _ _ ⟨_,⟨rfl,rfl⟩,rfl⟩;refine Y ?_;obtain ⟨b5,hb5,h⟩:=aa h;refine aN 10 16 b5 ?_ ?_
 ·clear h;refine aK 6 J (fun g5=> ?_) (fun g5=> ?_)
  ·have h:=ah g5 hb5;refine Y ?_;obtain rfl:=ap h;exact ad sA (cS [0,1,2] 3)
  have h:=ai g5 hb5;refine Y ?_;obtain ⟨b6,hb6,h⟩:=aa h;refine aN 5 15 b6 ?_ ?_
  ·clear h;refine aK 10 J (fun g6=> ?_) (fun g6=> ?_)
   ·have h:=ah g6 hb6;refine Y ?_;refine ci (bG 1 J aU J hH) J (bq g6 J) J ?_;refine Y ?_;obtain rfl:=ap h;exact ad sA (cS [0,1,2] 3)
   have h:=ai g6 hb6;refine Y ?_;obtain rfl:=ap h;exact ad sA (cS [0,1,2] 3)
  refine Y ?_;obtain rfl:=ap h;exact ad sA (cS [0,1,2] 3)
 refine Y ?_;refine au J (fun g7=> ?_) (fun g7=> ?_)
 ·replace h:=ah g7 h;refine Y ?_;refine gR (bG 1 J aU J hH) ?_;refine Y ?_;obtain ⟨b8,hb8,h⟩:=aa h;refine aN 5 26 b8 ?_ ?_
  ·clear h;refine aK 21 J (fun g8=> ?_) (fun g8=> ?_)
   ·have h:=ah g8 hb8;refine Y ?_;refine ci (bG 1 J aU J hH) J (bq g8 J) J ?_;refine Y ?_;obtain rfl:=ap h;exact ad sA (cS [0,1,2] 3)
   have h:=ai g8 hb8;refine Y ?_;obtain rfl:=ap h;exact ad sA (cS [0,1,2] 3)
  refine Y ?_;obtain ⟨b9,hb9,h⟩:=aa h;refine aN 15 42 b9 ?_ ?_
  ·clear h;refine aK 27 J (fun g9=> ?_) (fun g9=> ?_)
   ·have h:=ah g9 hb9;refine Y ?_;obtain ⟨x10,hx10,h⟩:=aa h;obtain ⟨lx10,ux10,hx10⟩:=aI hx10;refine ci (bp 1 J aU J J hH bm lx10 ux10) J (bq g9 J) J ?_;refine ci (pj 1 J aU J (toNat_lt lx10 ux10) oQ) J (bq g9 J) J ?_;refine ci (eX (u:=iV x10.Kind) 1 J aU J hx10 dv (fun _ _ _ h=>by rw [show _=_ from h];rfl)) J (bq g9 J) J ?_;refine Y ?_;obtain ⟨b11,hb11,h⟩:=aa h;refine aN 7 41 b11 ?_ ?_
    ·clear h;refine aK 34 J (fun g11=> ?_) (fun g11=> ?_)
     ·have h:=ah g11 hb11;refine Y ?_;obtain rfl:=ap h;exact ad sA (cS [0,1,2] 3)
     have h:=ai g11 hb11;refine Y ?_;obtain ⟨x12,hx12,h⟩:=aa h;obtain ⟨lx12,ux12,hx12⟩:=aI hx12;refine ci (bp 1 J aU J J hH bm lx12 ux12) J (cU g11 J) J ?_;refine ci (pj 1 J aU J (toNat_lt lx12 ux12) oQ) J (cU g11 J) J ?_;refine ci (eX (u:=iV x12.Kind) 1 J aU J hx12 dv (fun _ _ _ h=>by rw [show _=_ from h];rfl)) J (cU g11 J) J ?_;refine Y ?_;obtain rfl:=ap h;exact ad sA (cS [0,1,2] 3)
    refine Y ?_;obtain rfl:=ap h;exact ad sA (cS [0,1,2] 3)
   have h:=ai g9 hb9;refine Y ?_;obtain rfl:=ap h;exact ad sA (cS [0,1,2] 3)
  refine Y ?_;obtain rfl:=ap h;exact aO J J (cS [] 3) ⟨J,J⟩
 replace h:=ai g7 h;refine Y ?_;refine az ?_;refine Y ?_;refine au J (fun g13=> ?_) (fun g13=> ?_)
 ·replace h:=ah g13 h;refine Y ?_;obtain rfl:=ap h;exact aO J J (cS [] 3) ⟨J,J⟩
 replace h:=ai g13 h;refine Y ?_;refine az ?_;refine Y ?_;obtain ⟨b14,hb14,h⟩:=aa h;refine aN 4 56 b14 ?_ ?_
 ·clear h;refine aK 52 J (fun g14=> ?_) (fun g14=> ?_)
  ·have h:=ah g14 hb14;refine Y ?_;obtain rfl:=ap h;exact ad sA (cS [0,1,2] 3)
  have h:=ai g14 hb14;refine Y ?_;obtain rfl:=ap h;exact ad sA (cS [0,1,2] 3)
 refine Y ?_;refine au J (fun g15=> ?_) (fun g15=> ?_)
 ·replace h:=ah g15 h;refine Y ?_;obtain rfl:=ap h;exact aO J J (cS [] 3) ⟨J,J⟩
 replace h:=ai g15 h;refine Y ?_;refine az ?_;refine Y ?_;refine au J (fun g16=> ?_) (fun g16=> ?_)
 ·replace h:=ah g16 h;refine Y ?_;refine gR (bG 1 J aU J hH) ?_;refine Y ?_;obtain ⟨b17,hb17,h⟩:=aa h;refine aN 6 70 b17 ?_ ?_
  ·clear h;refine aK 64 J (fun g17=> ?_) (fun g17=> ?_)
   ·have h:=ah g17 hb17;refine Y ?_;obtain ⟨x18,hx18,h⟩:=aa h;obtain ⟨lx18,ux18,hx18⟩:=aI hx18;refine ci (bp 1 J aU J J hH bm lx18 ux18) J (bq g17 J) J ?_;refine ci (bj (us:=[iV x18.Kind,iV x18.N,.string x18.S]) 1 J aU J hx18 aD (fun _ _ _ h=>by rw [show _=_ from h];rfl)) J (bq g17 J) J ?_;obtain ⟨y19,hy19,h⟩:=aa h;refine cr (al (iG hy19) tv J (ac) f6) J (bq g17 J) J ?_;rintro _ _ ⟨_,⟨rfl,rfl⟩,rfl⟩;refine Y ?_;obtain rfl:=ap h;exact ad sA (cS [0,1,2] 3)
   have h:=ai g17 hb17;refine Y ?_;obtain rfl:=ap h;exact ad sA (cS [0,1,2] 3)
  refine Y ?_;obtain ⟨b20,hb20,h⟩:=aa h;refine aN 6 77 b20 ?_ ?_
  ·clear h;refine aK 71 J (fun g20=> ?_) (fun g20=> ?_)
   ·have h:=ah g20 hb20;refine Y ?_;obtain ⟨x21,hx21,h⟩:=aa h;obtain ⟨lx21,ux21,hx21⟩:=aI hx21;refine ci (bp 1 J aU J J hH bm lx21 ux21) J (bq g20 J) J ?_;refine ci (bj (us:=[iV x21.Kind,iV x21.N,.string x21.S]) 1 J aU J hx21 aD (fun _ _ _ h=>by rw [show _=_ from h];rfl)) J (bq g20 J) J ?_;obtain ⟨y22,hy22,h⟩:=aa h;refine cr (al (iG hy22) tv J (ac) f6) J (bq g20 J) J ?_;rintro _ _ ⟨_,⟨rfl,rfl⟩,rfl⟩;refine Y ?_;obtain rfl:=ap h;exact ad sA (cS [0,1,2] 3)
   have h:=ai g20 hb20;refine Y ?_;obtain rfl:=ap h;exact ad sA (cS [0,1,2] 3)
  refine Y ?_;obtain rfl:=ap h;exact aO J J (cS [] 3) ⟨J,J⟩
 replace h:=ai g16 h;refine Y ?_;refine gR (bG 1 J aU J hH) ?_;refine Y ?_;obtain rfl:=ap h;exact aO J J (cS [] 3) ⟨J,J⟩
theorem sR {r:Bool}: ∀v post,((fun (u:Value) (post:List Chunk)=>u=.bool r∧post=[])) v post→ ∀c∈post,bV c:=by
 rintro _ _ ⟨rfl,rfl⟩;exact ac
def ig (N:Nat)(a0:Mg)(a1:Int)(a2:Int):Option Bool:=
 (bif decide (a0.Kind=3) then (some (decide (a1≤a0.N))) else (some false)).bind fun b2=>(bif b2 then (some (decide (a0.N≤a2))) else (some false)).bind fun b3=>some b3
theorem iH {N:Nat}{a0:Mg}{a1:Int}{a2:Int}{r:Bool}(h:ig N a0 a1 a2=some r):Okc Tryz.prog 241 [(aZ a0),iV a1,iV a2] ([]) (fun u post=>u=.bool r∧post=[]):=by
 refine br Tryz.func241 J J ?_;simp only [aS];refine Y ?_;refine gD (aL J J) ?_;rintro _ _ ⟨B1,rfl,rfl⟩;refine Y ?_;obtain ⟨b2,hb2,h⟩:=aa h;refine aN 5 15 b2 ?_ ?_
 ·clear h;refine aK 10 J (fun g2=> ?_) (fun g2=> ?_)
  ·have h:=ah g2 hb2;refine Y ?_;obtain rfl:=ap h;exact ad sA (cS [0] 1)
  have h:=ai g2 hb2;refine Y ?_;obtain rfl:=ap h;exact ad sA (cS [0] 1)
 refine Y ?_;obtain ⟨b3,hb3,h⟩:=aa h;refine aN 5 21 b3 ?_ ?_
 ·clear h;refine aK 16 J (fun g3=> ?_) (fun g3=> ?_)
  ·have h:=ah g3 hb3;refine Y ?_;obtain rfl:=ap h;exact ad sA (cS [0] 1)
  have h:=ai g3 hb3;refine Y ?_;obtain rfl:=ap h;exact ad sA (cS [0] 1)
 refine Y ?_;obtain rfl:=ap h;exact aO J J (cS [] 1) ⟨J,J⟩
theorem f7 {r:Bool}: ∀v post,((fun (u:Value) (post:List Chunk)=>u=.bool r∧post=[])) v post→ ∀c∈post,bV c:=by
 rintro _ _ ⟨rfl,rfl⟩;exact ac
def nV (N:Nat){σ:Type}(fy:(List Mg)→σ→Option (Bool×σ))(a1:(List Mg))(a2:Int):Nat→Int→σ→Option σ
 |0,_,_=>none
 |m4+1,p5,p6=>bif decide (p5<(a1.length:Int)) then (cR ((0:Int)≤p5∧p5.toNat≤a1.length∧a1.length≤a1.length) (cR (bK (p5+(min a2 (((a1.drop p5.toNat).take (a1.length - p5.toNat)).length:Int)))) (cR (bK (p5+(min a2 (((a1.drop p5.toNat).take (a1.length - p5.toNat)).length:Int)))) (cR ((0:Int)≤p5∧(0:Int)≤p5+(min a2 (((a1.drop p5.toNat).take (a1.length - p5.toNat)).length:Int))∧p5.toNat≤(p5+(min a2 (((a1.drop p5.toNat).take (a1.length - p5.toNat)).length:Int))).toNat∧(p5+(min a2 (((a1.drop p5.toNat).take (a1.length - p5.toNat)).length:Int))).toNat≤a1.length) ((fy ((a1.drop p5.toNat).take ((p5+(min a2 (((a1.drop p5.toNat).take (a1.length - p5.toNat)).length:Int))).toNat - p5.toNat)) p6).bind fun y14=>bif !y14.1 then (some y14.2) else (cR (bK (p5+a2)) ((nV N fy a1 a2 m4) (p5+a2) y14.2))))))) else (some p6)
def se (N:Nat){σ:Type}(a1:(List Mg))(a2:Int)(fy:(List Mg)→σ→Option (Bool×σ))(s0:σ):Option σ:=
 nV N fy a1 a2 N 0 s0
theorem wU {N:Nat}{σ:Type}{a1:(List Mg)}{a2:Int}{fy:(List Mg)→σ→Option (Bool×σ)}{s0:σ}{r:σ}(h:se N a1 a2 fy s0=some r){l:Nat}{G:σ→List Chunk}(hY:ta Tryz.prog l G (fun (x:(List Mg)) vs cs=> ∃A0 n0 c0,vs=[I A0 n0 c0]∧cs=[dm A0 n0 c0 x]) fy):Okc Tryz.prog 262 [.func (.yield l) #[] #[],pV B1 0,pV B3 0] (aR B1 38 [I A2 n2 c2]::dm A2 n2 c2 a1::aR B3 3 [iV a2]::(G s0)) (fun u post=>u=.tuple #[]∧post=G r):=by
 refine br Tryz.func262 J J ?_;simp only [aS];refine Y ?_;refine bN (fun m s L=> ∃p5 p6,nV N fy a1 a2 m p5 p6=some r∧s=[(0,.func (.yield l) #[] #[]),(1,pV B1 0),(2,pV B3 0),(4,iV p5)]∧L=dm A2 n2 c2 a1::aR B1 38 [I A2 n2 c2]::aR B3 3 [iV a2]::(G p6)) N _ _ ⟨0,s0,h,J,J⟩ sA (cS [1,0,2] 3) ?_;rintro (_|m4) _ _ ⟨p5,p6,h,rfl,rfl⟩
 ·exact bg h
 rw [nV.eq_2] at h;refine az ?_;refine Y ?_;refine gR (cJ 1 J J ik J) ?_;refine gR (bG 0 J aU J hH) ?_;refine Y ?_;refine au J (fun g7=> ?_) (fun g7=> ?_)
 ·replace h:=ah g7 h;refine Y ?_;refine az ?_;refine dV ?_;refine az ?_;refine bF V _ (ae _) ?_;refine zR 0 J (cJ 2 J J dv J) ?_;refine zR 1 J (cJ 1 J J ik J) ?_;refine zE 2 J (aw J) ?_;obtain ⟨q8,h⟩:=ay h;refine Ha 0 J (l:=p5.toNat) (h:=a1.length) q8.2.1 q8.2.2 ?_;rintro A9 n9 c9 e9;refine zR 3 J (xr 1 J e9 J hH bm J (by rw [Int.toNat_of_nonneg q8.1];rfl) q8.2.1) ?_;refine zR 4 J (bG 0 J aU J hH) ?_;refine zE 5 J (JQ J J EM EM) ?_;refine zE 6 J (be J) ?_;refine bz V ?_;refine Y ?_;refine gR (cJ 2 J J ik J) ?_;refine Y ?_;obtain ⟨q10,h⟩:=ay h;refine gE (bE J J q10.1 q10.2) ?_;refine Y ?_;obtain ⟨q11,h⟩:=ay h;refine gE (bE J J q11.1 q11.2) ?_;obtain ⟨q12,h⟩:=ay h;refine Kh 1 J (l:=p5.toNat) (h:=(p5+(min a2 (((a1.drop p5.toNat).take (a1.length - p5.toNat)).length:Int))).toNat) q12.2.2.1 q12.2.2.2 ?_;rintro A13 n13 c13 e13;refine gR (HD 2 J e13 J hH bm J (by rw [Int.toNat_of_nonneg q12.1];rfl) (by rw [Int.toNat_of_nonneg q12.2.1];rfl) (by rw [Int.toNat_of_nonneg q12.2.1];rfl) q12.2.2.1 q12.2.2.2) ?_;obtain ⟨y14,hy14,h⟩:=aa h
  refine gD (E8 (a:=(a1.drop p5.toNat).take ((p5+(min a2 (((a1.drop p5.toNat).take (a1.length - p5.toNat)).length:Int))).toNat - p5.toNat)) [dm A13 n13 c13 ((a1.drop p5.toNat).take ((p5+(min a2 (((a1.drop p5.toNat).take (a1.length - p5.toNat)).length:Int))).toNat - p5.toNat)),dm A9 n9 c9 ((a1.drop p5.toNat).take (a1.length - p5.toNat)),dm A2 n2 c2 a1,aR B1 38 [I A2 n2 c2],aR B3 3 [iV a2]] hY hy14 J J ⟨_,_,_,J,J⟩ (JV 0 J J)) ?_;rintro _ _ ⟨rfl,rfl⟩;refine Y ?_;refine au J (fun g15=> ?_) (fun g15=> ?_)
  ·replace h:=ah g15 h;refine Y ?_;obtain rfl:=ap h;exact Ai J (cS [] 5) ⟨J,J⟩
  replace h:=ai g15 h;refine Y ?_;refine gR (cJ 4 J J dv J) ?_;obtain ⟨q16,h⟩:=ay h;refine gE (bE J J q16.1 q16.2) ?_;refine Y ?_;exact ⟨m4,_,_,Mw _,⟨p5+a2,y14.2,h,J,J⟩,sA,cS [2,3,4] 5⟩
 replace h:=ai g7 h;refine Y ?_;obtain rfl:=ap h;exact ez J (cS [] 3) ⟨J,J⟩
def pa (N:Nat)(a0:(List Mg))(a1:Int):Option Unit:=
 bif decide (a1<1) then none else (some ())
theorem tD {N:Nat}{a0:(List Mg)}{a1:Int}{r:Unit}(h:pa N a0 a1=some r):Okc Tryz.prog 253 [I A1 n1 c1,iV a1] ([dm A1 n1 c1 a0]) (fun u post=> ∃B900 B901,u=.func (.func 262) #[] #[pV B900 0,pV B901 0]∧post=[aj B900 38 [I A1 n1 c1],aj B901 3 [iV a1]]):=by
 refine br Tryz.func253 J J ?_;simp only [aS];refine Y ?_;refine gD (aL J J) ?_;rintro _ _ ⟨B2,rfl,rfl⟩;refine gD (aL J J) ?_;rintro _ _ ⟨B3,rfl,rfl⟩;refine Y ?_;refine az ?_;refine Y ?_;refine au J (fun g4=> ?_) (fun g4=> ?_)
 ·replace h:=ah g4 h;exact bg h
 replace h:=ai g4 h;refine Y ?_;refine gE (sK J) ?_;refine Y ?_;obtain rfl:=ap h;exact aO J J (cS [1,0] 3) ⟨_,_,J,J⟩
theorem rU {a1:Int}{A1:Option Addr}{n1:Nat}{c1:Nat}: ∀v post,((fun (u:Value) (post:List Chunk)=> ∃B900 B901,u=.func (.func 262) #[] #[pV B900 0,pV B901 0]∧post=[aj B900 38 [I A1 n1 c1],aj B901 3 [iV a1]])) v post→ ∀c∈post,bV c:=by
 rintro _ _ ⟨_,_,rfl,rfl⟩;exact hD sF (hD sF (ac))
def kp (N:Nat)(a1:Int)(x9:(List Mg)):(Unit)→Option (Option Exit×Unit)
 |()=>(bU x9 0).bind fun x12=>(bif !decide (x12.Kind=7) then (some true) else ((bU x9 1).bind fun x14=>some (decide (x14.Kind=8)))).bind fun b13=>bif b13 then (some (some .ret,())) else ((bif decide (a1=4) then ((bU x9 2).bind fun x17=>(fw N x17 7).bind fun y18=>(bif !y18 then (some true) else ((bU x9 3).bind fun x20=>(ig N x20 0 9007199254740992).bind fun y21=>some (!y21))).bind fun b19=>some b19) else (some false)).bind fun b16=>bif b16 then (some (some .ret,())) else (some (none,())))
def kR (N:Nat)(a0:(List Mg))(a1:Int):Option Bool:=
 cR (a1≠0) (bif !decide ((a0.length:Int).tmod a1=0) then (some false) else ((pa N a0 a1).bind fun y6=>(se N a0 a1 (kj (fun x st=>kp N a1 x st)) (none,())).bind fun y11=>wP y11.1 (some true) (some false) (fun _=>none)))
set_option maxHeartbeats 4000000 in
theorem nP {N:Nat}{a0:(List Mg)}{a1:Int}{r:Bool}(h:kR N a0 a1=some r):Okc Tryz.prog 242 [I A1 n1 c1,iV a1] ([dm A1 n1 c1 a0]) (fun u post=>u=.bool r∧post=[]):=by
 refine br Tryz.func242 J J ?_;simp only [aS];refine Y ?_;refine gD (aL J J) ?_;rintro _ _ ⟨B2,rfl,rfl⟩;refine gD (aH I9 J) ?_;rintro _ _ ⟨B3,rfl,rfl⟩;refine Y ?_;refine az ?_;refine Y ?_;refine gR (bG 2 J aU J hH) ?_;refine Y ?_;obtain ⟨q4,h⟩:=ay h;refine gE (pF J J q4) ?_;refine Y ?_;refine au J (fun g5=> ?_) (fun g5=> ?_)
 ·replace h:=ah g5 h;refine Y ?_;refine gO (ar (us:=[.bool false]) (cs':=[.bool false]) 0 J J J J xY J J J) ?_;rintro _ _ rfl;refine Y ?_;obtain rfl:=ap h;exact ca (rs:=[.cell 4 4]) (vs:=[.bool false]) J (.cons (th 0 J J Cb) .nil) J (cS [] 3) ⟨J,J⟩
 replace h:=ai g5 h;refine Y ?_;refine az ?_;refine Y ?_;obtain ⟨y6,hy6,h⟩:=aa h;refine gD (al (tD hy6) Im J (hD (ao (i:=2) J J) ac) rU) ?_;rintro _ _ ⟨_,⟨B7,B8,rfl,rfl⟩,rfl⟩;refine jT ?_;refine eg ?_;refine f3 ?_ bX (o4 0 J);refine f3 ?_ bX (o4 1 J);refine Dy ?_;obtain ⟨y11,hy11,h⟩:=aa h;refine FK (R:=(fun (x:(List Mg)) vs cs=> ∃A0 n0 c0,vs=[I A0 n0 c0]∧cs=[dm A0 n0 c0 x])) (fun x st=>kp N a1 x st) (fun (st:Unit) (mz:Unit)=> [aj B2 3 [iV a1],aj B3 4 [.bool false]]) [aR B7 38 [I A1 n1 c1],dm A1 n1 c1 a0,aR B8 3 [iV a1]] (()) (()) J J Ik J (by rintro _ _ _ ⟨_,_,_,rfl,rfl⟩;rfl) (fun l G hY=>(wU hy11 hY).mono fun _ _ hh=>hh.2) (aC [0,4,1] [] [3,2] 5 J) h ?_ ?_ ?_ ?_
 ·rintro l x9 _ je sr9 _ h _ _ ⟨A10,n10,c10,rfl,rfl⟩;replace h:kp N a1 x9 ()=some (je,sr9):=h;simp only [yU,List.zip_cons_cons,List.zip_nil_left,List.zip_nil_right,List.reverse_cons,List.reverse_nil,List.nil_append,List.cons_append];refine Y ?_;refine az ?_;refine Y ?_;obtain ⟨x12,hx12,h⟩:=aa h;obtain ⟨lx12,ux12,hx12⟩:=aI hx12;refine gR (bp 0 J aU J J hH bm lx12 ux12) ?_;refine gR (pj 0 J aU J (toNat_lt lx12 ux12) oQ) ?_;refine gR (eX (u:=iV x12.Kind) 0 J aU J hx12 dv (fun _ _ _ h=>by rw [show _=_ from h];rfl)) ?_;refine Y ?_;obtain ⟨b13,hb13,h⟩:=aa h;refine aN 6 26 b13 ?_ ?_
  ·clear h;refine aK 20 J (fun g13=> ?_) (fun g13=> ?_)
   ·have h:=ah g13 hb13;refine Y ?_;obtain rfl:=ap h;exact ad sA (cS [0,1,2] 3)
   have h:=ai g13 hb13;refine Y ?_;obtain ⟨x14,hx14,h⟩:=aa h;obtain ⟨lx14,ux14,hx14⟩:=aI hx14;refine ci (bp 0 J aU J J hH bm lx14 ux14) J (cU g13 J) J ?_;refine ci (pj 0 J aU J (toNat_lt lx14 ux14) oQ) J (cU g13 J) J ?_;refine ci (eX (u:=iV x14.Kind) 0 J aU J hx14 dv (fun _ _ _ h=>by rw [show _=_ from h];rfl)) J (cU g13 J) J ?_;refine Y ?_;obtain rfl:=ap h;exact ad sA (cS [0,1,2] 3)
  refine Y ?_;refine au J (fun g15=> ?_) (fun g15=> ?_)
  ·replace h:=ah g15 h;refine Y ?_;refine gO (ar (us:=[.bool false]) (cs':=[.bool false]) 2 J J J J xY J J J) ?_;rintro _ _ rfl;refine Y ?_;obtain ⟨rfl,rfl⟩:=Prod.mk.inj (Option.some.inj h);exact Du ((cS [1,2] 3).trans (ko () J))
  replace h:=ai g15 h;refine Y ?_;obtain ⟨b16,hb16,h⟩:=aa h;refine aN 13 42 b16 ?_ ?_
  ·clear h;refine aK 29 J (fun g16=> ?_) (fun g16=> ?_)
   ·have h:=ah g16 hb16;refine Y ?_;obtain ⟨x17,hx17,h⟩:=aa h;obtain ⟨lx17,ux17,hx17⟩:=aI hx17;refine ci (bp 0 J aU J J hH bm lx17 ux17) J (bq g16 J) J ?_;refine ci (bj (us:=[iV x17.Kind,iV x17.N,.string x17.S]) 0 J aU J hx17 aD (fun _ _ _ h=>by rw [show _=_ from h];rfl)) J (bq g16 J) J ?_;obtain ⟨y18,hy18,h⟩:=aa h;refine cr (al (iG hy18) tv J (ac) f6) J (bq g16 J) J ?_;rintro _ _ ⟨_,⟨rfl,rfl⟩,rfl⟩;refine Y ?_;obtain ⟨b19,hb19,h⟩:=aa h;refine aN 6 41 b19 ?_ ?_
    ·clear h;refine aK 35 J (fun g19=> ?_) (fun g19=> ?_)
     ·have h:=ah g19 hb19;refine Y ?_;obtain rfl:=ap h;exact ad sA (cS [0,1,2] 3)
     have h:=ai g19 hb19;refine Y ?_;obtain ⟨x20,hx20,h⟩:=aa h;obtain ⟨lx20,ux20,hx20⟩:=aI hx20;refine ci (bp 0 J aU J J hH bm lx20 ux20) J (cU g19 J) J ?_;refine ci (bj (us:=[iV x20.Kind,iV x20.N,.string x20.S]) 0 J aU J hx20 aD (fun _ _ _ h=>by rw [show _=_ from h];rfl)) J (cU g19 J) J ?_;obtain ⟨y21,hy21,h⟩:=aa h;refine cr (al (iH hy21) tu J (ac) f7) J (cU g19 J) J ?_;rintro _ _ ⟨_,⟨rfl,rfl⟩,rfl⟩;refine Y ?_;obtain rfl:=ap h;exact ad sA (cS [0,1,2] 3)
    refine Y ?_;obtain rfl:=ap h;exact ad sA (cS [0,1,2] 3)
   have h:=ai g16 hb16;refine Y ?_;obtain rfl:=ap h;exact ad sA (cS [0,1,2] 3)
  refine Y ?_;refine au J (fun g22=> ?_) (fun g22=> ?_)
  ·replace h:=ah g22 h;refine Y ?_;refine gO (ar (us:=[.bool false]) (cs':=[.bool false]) 2 J J J J xY J J J) ?_;rintro _ _ rfl;refine Y ?_;obtain ⟨rfl,rfl⟩:=Prod.mk.inj (Option.some.inj h);exact Du ((cS [1,2] 3).trans (ko () J))
  replace h:=ai g22 h;refine Y ?_;obtain ⟨rfl,rfl⟩:=Prod.mk.inj (Option.some.inj h);exact FI ((cS [1,2] 3).trans (ko () J))
 ·rintro _ h;refine rC ([aj B2 3 [iV a1],aj B3 4 [.bool false]]) J ?_;refine Y ?_;refine gO (ar (us:=[.bool true]) (cs':=[.bool true]) 1 J J J J xY J J J) ?_;rintro _ _ rfl;refine bL ?_;refine Y ?_;obtain rfl:=ap h;exact ca (rs:=[.cell 4 4]) (vs:=[.bool true]) J (.cons (th 1 J J Cb) .nil) J (cS [] 2) ⟨J,J⟩
 ·rintro _ h;refine rC ([aj B2 3 [iV a1],aj B3 4 [.bool false]]) J ?_;refine Y ?_;obtain rfl:=ap h;exact ca (rs:=[.cell 4 4]) (vs:=[.bool false]) J (.cons (th 1 J J Cb) .nil) J (cS [] 2) ⟨J,J⟩
 rintro i _ h;exact bg h
theorem mu {r:Bool}: ∀v post,((fun (u:Value) (post:List Chunk)=>u=.bool r∧post=[])) v post→ ∀c∈post,bV c:=by
 rintro _ _ ⟨rfl,rfl⟩;exact ac
end Go.Proofs.YtanojiedimeegaaGreatDoor