/- Merged texts: part 3. No conditions of their own. -/
import Derived.Test.YtdcccmadhipinaaGreatG2
import Derived.Test.YtdcccmadhipinaaGreatChecked
import Derived.ProofKit
namespace Go.Proofs.YtdcccmadhipinaaGreat
theorem t5:type_of% Tryz.underlying9:=Tryz.underlying9
theorem t0:type_of% Tryz.underlying30:=Tryz.underlying30
theorem hU:type_of% Tryz.underlying97:=Tryz.underlying97
variable {A1 A2 A3 A4 A5:Option Addr} {B1 B3 B6 M7 c1 c2 c3 c4 c5 n1 n2 n3 n4 n5:Nat}
open Go.RowKit Asn
set_option maxRecDepth 20000
structure SY where
 Way:Int
 Steps:Int
 Calls:Int
 Made:Int
 Young:Int
 Full:Int
 Sites:Int
 deriving DecidableEq,Inhabited
def QR:Rep SY:=.flat 7 (fun x=> [iV x.Way,iV x.Steps,iV x.Calls,iV x.Made,iV x.Young,iV x.Full,iV x.Sites]) (fun _=>rfl) (fun _=>rfl)
structure SW where
 at_:(List (Int×Bool))
 deriving DecidableEq,Inhabited
structure SR where
 Kind:Int
 N:Int
 S:ByteArray
 deriving DecidableEq,Inhabited
def bj:Rep SR:=.flat 3 (fun x=> [iV x.Kind,iV x.N,.string x.S]) (fun _=>rfl) (fun _=>rfl)
structure Ta where
 Kind:Int
 Shape:Int
 Flags:Int
 Age:Int
 Slots:(List SR)
 More:(List SR)
 deriving DecidableEq,Inhabited
def eM:Rep Ta where
 sz:=6
 rel S w vs x:= ∃A4 n4 c4 A5 n5 c5,vs=[iV x.Kind,iV x.Shape,iV x.Flags,iV x.Age,U A4 n4 c4,U A5 n5 c5]∧SlR bj S w (U A4 n4 c4) x.Slots∧SlR bj S w (U A5 n5 c5) x.More
 loc:=fun h ⟨_,_,_,_,_,_,e,h4,h5⟩=>⟨_,_,_,_,_,_,e,h4.loc h,h5.loc h⟩
 mono:=fun h ⟨_,_,_,_,_,_,e,h4,h5⟩=>⟨_,_,_,_,_,_,e,h4.mono h,h5.mono h⟩
 len:=fun ⟨_,_,_,_,_,_,e,_⟩=>by rw [e];rfl
 one:=fun ⟨_,_,_,_,_,_,e,_⟩=>by rw [e];rfl
theorem gh (x:Ta):JZ eM x fun vs cs=> ∃A4 n4 c4 A5 n5 c5,vs=[iV x.Kind,iV x.Shape,iV x.Flags,iV x.Age,U A4 n4 c4,U A5 n5 c5]∧cs=[ij bj (U A4 n4 c4) x.Slots,ij bj (U A5 n5 c5) x.More]:=fun S w vs ⟨_,_,_,_,_,_,e,h4,h5⟩=>⟨_,⟨_,_,_,_,_,_,e,rfl⟩,hJ h4 (hJ h5 (ac))⟩
structure SP where
 Young:(List Ta)
 Old:(List Ta)
 deriving DecidableEq,Inhabited
def QQ:Rep SP where
 sz:=2
 rel S w vs x:= ∃A0 n0 c0 A1 n1 c1,vs=[U A0 n0 c0,U A1 n1 c1]∧SlR eM S w (U A0 n0 c0) x.Young∧SlR eM S w (U A1 n1 c1) x.Old
 loc:=fun h ⟨_,_,_,_,_,_,e,h0,h1⟩=>⟨_,_,_,_,_,_,e,h0.loc h,h1.loc h⟩
 mono:=fun h ⟨_,_,_,_,_,_,e,h0,h1⟩=>⟨_,_,_,_,_,_,e,h0.mono h,h1.mono h⟩
 len:=fun ⟨_,_,_,_,_,_,e,_⟩=>by rw [e];rfl
 one:=fun ⟨_,_,_,_,_,_,e,_⟩=>by rw [e];rfl
structure SS where
 m_:SP
 roots_:(List SR)
 pending_:(List SR)
 set_:SW
 deriving DecidableEq,Inhabited
structure SN where
 Kind:Int
 N:Int
 S:ByteArray
 deriving DecidableEq,Inhabited
def R3:Rep SN:=.flat 3 (fun x=> [iV x.Kind,iV x.N,.string x.S]) (fun _=>rfl) (fun _=>rfl)
structure SU where
 Up:Int
 Key:SN
 Attrs:Int
 Len:Int
 deriving DecidableEq,Inhabited
def dx:Rep SU:=.flat 6 (fun x=> [iV x.Up,iV x.Key.Kind,iV x.Key.N,.string x.Key.S,iV x.Attrs,iV x.Len]) (fun _=>rfl) (fun _=>rfl)
structure SM where
 up_:Int
 key_:SN
 attrs_:Int
 deriving DecidableEq,Inhabited
def RA:Rep SM:=.flat 5 (fun x=> [iV x.up_,iV x.key_.Kind,iV x.key_.N,.string x.key_.S,iV x.attrs_]) (fun _=>rfl) (fun _=>rfl)
structure Tb where
 shapes_:(List SU)
 next_:(List (SM×Int))
 deriving DecidableEq,Inhabited
structure ST where
 steps_:Int
 made_:Int
 calls_:Int
 deriving DecidableEq,Inhabited
def Rp:Rep ST:=.flat 3 (fun x=> [iV x.steps_,iV x.made_,iV x.calls_]) (fun _=>rfl) (fun _=>rfl)
structure SX where
 Kind:Int
 Key:SN
 S:ByteArray
 deriving DecidableEq,Inhabited
def i6:Rep SX:=.flat 5 (fun x=> [iV x.Kind,iV x.Key.Kind,iV x.Key.N,.string x.Key.S,.string x.S]) (fun _=>rfl) (fun _=>rfl)
structure Te where
 spent_:ST
 config_:SY
 host_:Unit
 heap_:SS
 shapes_:Tb
 symbols_:(List ByteArray)
 epoch_:Int
 serial_:Int
 sleepers_:Int
 events_:(List SX)
 out_:(List ByteArray)
 deriving DecidableEq,Inhabited
structure Tf where
 m_:SP
 all_:(List Int)
 met_:(List (Int×Unit))
 done_:Int
 deriving DecidableEq,Inhabited
structure SQ where
 m_:SP
 kept_:(List Int)
 met_:(List Int)
 seen_:(List (Int×Bool))
 next_:Int
 deriving DecidableEq,Inhabited
structure SZ where
 Kind:Int
 N:Int
 Value:SR
 deriving DecidableEq,Inhabited
def R4:Rep SZ:=.flat 5 (fun x=> [iV x.Kind,iV x.N,iV x.Value.Kind,iV x.Value.N,.string x.Value.S]) (fun _=>rfl) (fun _=>rfl)
abbrev bf (A:Option Addr)(n c:Nat):=eN bj 23 (.slice A n c)
abbrev bB (A:Option Addr)(n c:Nat):=ij eM (.slice A n c)
abbrev bE (A:Option Addr)(n c:Nat):=ij bj (.slice A n c)
abbrev bS (A:Option Addr)(n c:Nat):=eN eM 42 (.slice A n c)
abbrev ex (A:Option Addr)(n c:Nat):=ij (iP .i64) (.slice A n c)
abbrev eC (A:Option Addr)(n c:Nat):=eN (iP .i64) 3 (.slice A n c)
abbrev fv (A:Option Addr)(n c:Nat):=eN nX 9 (.slice A n c)
abbrev lH (A:Option Addr)(n c:Nat):=eN dx 114 (.slice A n c)
abbrev nv (A:Option Addr)(n c:Nat):=eN i6 84 (.slice A n c)
abbrev G6 (x:SY):Value:=.agg #[iV x.Way,iV x.Steps,iV x.Calls,iV x.Made,iV x.Young,iV x.Full,iV x.Sites]
abbrev G5 (x:SZ):Value:=.agg #[iV x.Kind,iV x.N,iV x.Value.Kind,iV x.Value.N,.string x.Value.S]
abbrev Jc (x:SX):Value:=.agg #[iV x.Kind,iV x.Key.Kind,iV x.Key.N,.string x.Key.S,.string x.S]
abbrev G4 (x:SN):Value:=.agg #[iV x.Kind,iV x.N,.string x.S]
abbrev FS (x:SU):Value:=.agg #[iV x.Up,iV x.Key.Kind,iV x.Key.N,.string x.Key.S,iV x.Attrs,iV x.Len]
abbrev Md (x:SM):Value:=.agg #[iV x.up_,iV x.key_.Kind,iV x.key_.N,.string x.key_.S,iV x.attrs_]
abbrev fC (x:SR):Value:=.agg #[iV x.Kind,iV x.N,.string x.S]
abbrev GX (x:SY):List Value:=[iV x.Way,iV x.Steps,iV x.Calls,iV x.Made,iV x.Young,iV x.Full,iV x.Sites]
abbrev EN (x:SZ):List Value:=[iV x.Kind,iV x.N,iV x.Value.Kind,iV x.Value.N,.string x.Value.S]
abbrev FN (x:SX):List Value:=[iV x.Kind,iV x.Key.Kind,iV x.Key.N,.string x.Key.S,.string x.S]
abbrev zp (x:SN):List Value:=[iV x.Kind,iV x.N,.string x.S]
abbrev jP (x:SU):List Value:=[iV x.Up,iV x.Key.Kind,iV x.Key.N,.string x.Key.S,iV x.Attrs,iV x.Len]
abbrev oG (x:SR):List Value:=[iV x.Kind,iV x.N,.string x.S]
abbrev oY (x:Te)(b d:Nat)(A:Option Addr)(n c:Nat)(A2:Option Addr)(n2 c2:Nat)(A3:Option Addr)(n3 c3:Nat):List Value:=[iV x.spent_.steps_,iV x.spent_.made_,iV x.spent_.calls_,iV x.config_.Way,iV x.config_.Steps,iV x.config_.Calls,iV x.config_.Made,iV x.config_.Young,iV x.config_.Full,iV x.config_.Sites,.nilIface,pV b 0,pV d 0,.slice A n c,iV x.epoch_,iV x.serial_,iV x.sleepers_,U A2 n2 c2,U A3 n3 c3]
theorem Js:ar Tryz.prog 7:=⟨Tryz.f7,Tryz.func7,rfl,rfl⟩
theorem Jr:ar Tryz.prog 8:=⟨Tryz.f8,Tryz.func8,rfl,rfl⟩
theorem MY:ar Tryz.prog 11:=⟨Tryz.f11,Tryz.func11,rfl,rfl⟩
theorem MX:ar Tryz.prog 12:=⟨Tryz.f12,Tryz.func12,rfl,rfl⟩
theorem Iy:ar Tryz.prog 13:=⟨Tryz.f13,Tryz.func13,rfl,rfl⟩
theorem DK:ar Tryz.prog 14:=⟨Tryz.f14,Tryz.func14,rfl,rfl⟩
theorem Qr:ar Tryz.prog 15:=⟨Tryz.f15,Tryz.func15,rfl,rfl⟩
theorem Ix:ar Tryz.prog 16:=⟨Tryz.f16,Tryz.func16,rfl,rfl⟩
theorem yi:ar Tryz.prog 17:=⟨Tryz.f17,Tryz.func17,rfl,rfl⟩
theorem Qq:ar Tryz.prog 18:=⟨Tryz.f18,Tryz.func18,rfl,rfl⟩
theorem Qp:ar Tryz.prog 19:=⟨Tryz.f19,Tryz.func19,rfl,rfl⟩
theorem Qo:ar Tryz.prog 20:=⟨Tryz.f20,Tryz.func20,rfl,rfl⟩
theorem Qn:ar Tryz.prog 21:=⟨Tryz.f21,Tryz.func21,rfl,rfl⟩
theorem Qm:ar Tryz.prog 25:=⟨Tryz.f25,Tryz.func25,rfl,rfl⟩
theorem Ql:ar Tryz.prog 28:=⟨Tryz.f28,Tryz.func28,rfl,rfl⟩
theorem Qk:ar Tryz.prog 33:=⟨Tryz.f33,Tryz.func33,rfl,rfl⟩
theorem Qj:ar Tryz.prog 34:=⟨Tryz.f34,Tryz.func34,rfl,rfl⟩
theorem Qi:ar Tryz.prog 35:=⟨Tryz.f35,Tryz.func35,rfl,rfl⟩
theorem tJ:ar Tryz.prog 36:=⟨Tryz.f36,Tryz.func36,rfl,rfl⟩
theorem MW:ar Tryz.prog 37:=⟨Tryz.f37,Tryz.func37,rfl,rfl⟩
theorem sb:ar Tryz.prog 38:=⟨Tryz.f38,Tryz.func38,rfl,rfl⟩
theorem Qh:ar Tryz.prog 40:=⟨Tryz.f40,Tryz.func40,rfl,rfl⟩
theorem Qg:ar Tryz.prog 41:=⟨Tryz.f41,Tryz.func41,rfl,rfl⟩
theorem Iw:ar Tryz.prog 42:=⟨Tryz.f42,Tryz.func42,rfl,rfl⟩
theorem MV:ar Tryz.prog 43:=⟨Tryz.f43,Tryz.func43,rfl,rfl⟩
theorem MU:ar Tryz.prog 44:=⟨Tryz.f44,Tryz.func44,rfl,rfl⟩
theorem Qf:ar Tryz.prog 45:=⟨Tryz.f45,Tryz.func45,rfl,rfl⟩
theorem Qe:ar Tryz.prog 46:=⟨Tryz.f46,Tryz.func46,rfl,rfl⟩
theorem Qd:ar Tryz.prog 47:=⟨Tryz.f47,Tryz.func47,rfl,rfl⟩
theorem MT:ar Tryz.prog 48:=⟨Tryz.f48,Tryz.func48,rfl,rfl⟩
theorem tI:ar Tryz.prog 49:=⟨Tryz.f49,Tryz.func49,rfl,rfl⟩
theorem MR:ar Tryz.prog 50:=⟨Tryz.f50,Tryz.func50,rfl,rfl⟩
theorem qY:ar Tryz.prog 51:=⟨Tryz.f51,Tryz.func51,rfl,rfl⟩
theorem Qc:ar Tryz.prog 52:=⟨Tryz.f52,Tryz.func52,rfl,rfl⟩
theorem Qb:ar Tryz.prog 53:=⟨Tryz.f53,Tryz.func53,rfl,rfl⟩
theorem MQ:ar Tryz.prog 54:=⟨Tryz.f54,Tryz.func54,rfl,rfl⟩
theorem Qa:ar Tryz.prog 55:=⟨Tryz.f55,Tryz.func55,rfl,rfl⟩
theorem P9:ar Tryz.prog 56:=⟨Tryz.f56,Tryz.func56,rfl,rfl⟩
theorem MP:ar Tryz.prog 57:=⟨Tryz.f57,Tryz.func57,rfl,rfl⟩
theorem DJ:ar Tryz.prog 61:=⟨Tryz.f61,Tryz.func61,rfl,rfl⟩
theorem yh:ar Tryz.prog 74:=⟨Tryz.f74,Tryz.func74,rfl,rfl⟩
theorem P8:ar Tryz.prog 75:=⟨Tryz.f75,Tryz.func75,rfl,rfl⟩
theorem vR:ar Tryz.prog 76:=⟨Tryz.f76,Tryz.func76,rfl,rfl⟩
theorem P7:ar Tryz.prog 77:=⟨Tryz.f77,Tryz.func77,rfl,rfl⟩
theorem MO:ar Tryz.prog 78:=⟨Tryz.f78,Tryz.func78,rfl,rfl⟩
theorem P6:ar Tryz.prog 79:=⟨Tryz.f79,Tryz.func79,rfl,rfl⟩
theorem P5:ar Tryz.prog 80:=⟨Tryz.f80,Tryz.func80,rfl,rfl⟩
theorem DI:ar Tryz.prog 81:=⟨Tryz.f81,Tryz.func81,rfl,rfl⟩
theorem AH:ar Tryz.prog 82:=⟨Tryz.f82,Tryz.func82,rfl,rfl⟩
theorem MN:ar Tryz.prog 83:=⟨Tryz.f83,Tryz.func83,rfl,rfl⟩
theorem MM:ar Tryz.prog 84:=⟨Tryz.f84,Tryz.func84,rfl,rfl⟩
theorem vQ:ar Tryz.prog 85:=⟨Tryz.f85,Tryz.func85,rfl,rfl⟩
theorem ML:ar Tryz.prog 86:=⟨Tryz.f86,Tryz.func86,rfl,rfl⟩
theorem vP:ar Tryz.prog 87:=⟨Tryz.f87,Tryz.func87,rfl,rfl⟩
theorem MK:ar Tryz.prog 88:=⟨Tryz.f88,Tryz.func88,rfl,rfl⟩
theorem Iv:ar Tryz.prog 89:=⟨Tryz.f89,Tryz.func89,rfl,rfl⟩
theorem MJ:ar Tryz.prog 90:=⟨Tryz.f90,Tryz.func90,rfl,rfl⟩
theorem P4:ar Tryz.prog 91:=⟨Tryz.f91,Tryz.func91,rfl,rfl⟩
theorem P3:ar Tryz.prog 92:=⟨Tryz.f92,Tryz.func92,rfl,rfl⟩
theorem P2:ar Tryz.prog 93:=⟨Tryz.f93,Tryz.func93,rfl,rfl⟩
theorem P1:ar Tryz.prog 94:=⟨Tryz.f94,Tryz.func94,rfl,rfl⟩
theorem AG:ar Tryz.prog 95:=⟨Tryz.f95,Tryz.func95,rfl,rfl⟩
theorem MI:ar Tryz.prog 96:=⟨Tryz.f96,Tryz.func96,rfl,rfl⟩
theorem yg:ar Tryz.prog 97:=⟨Tryz.f97,Tryz.func97,rfl,rfl⟩
theorem F4:ar Tryz.prog 98:=⟨Tryz.f98,Tryz.func98,rfl,rfl⟩
theorem P0:ar Tryz.prog 99:=⟨Tryz.f99,Tryz.func99,rfl,rfl⟩
theorem JS:ar Tryz.prog 100:=⟨Tryz.f100,Tryz.func100,rfl,rfl⟩
theorem Pg:ar Tryz.prog 101:=⟨Tryz.f101,Tryz.func101,rfl,rfl⟩
theorem JR:ar Tryz.prog 102:=⟨Tryz.f102,Tryz.func102,rfl,rfl⟩
theorem Pf:ar Tryz.prog 103:=⟨Tryz.f103,Tryz.func103,rfl,rfl⟩
theorem Pe:ar Tryz.prog 104:=⟨Tryz.f104,Tryz.func104,rfl,rfl⟩
theorem Pd:ar Tryz.prog 114:=⟨Tryz.f114,Tryz.func114,rfl,rfl⟩
theorem Pc:ar Tryz.prog 115:=⟨Tryz.f115,Tryz.func115,rfl,rfl⟩
theorem Pb:ar Tryz.prog 116:=⟨Tryz.f116,Tryz.func116,rfl,rfl⟩
theorem Pa:ar Tryz.prog 117:=⟨Tryz.f117,Tryz.func117,rfl,rfl⟩
theorem JQ:ar Tryz.prog 118:=⟨Tryz.f118,Tryz.func118,rfl,rfl⟩
theorem O9:ar Tryz.prog 119:=⟨Tryz.f119,Tryz.func119,rfl,rfl⟩
theorem O8:ar Tryz.prog 120:=⟨Tryz.f120,Tryz.func120,rfl,rfl⟩
theorem O7:ar Tryz.prog 121:=⟨Tryz.f121,Tryz.func121,rfl,rfl⟩
theorem JP:ar Tryz.prog 122:=⟨Tryz.f122,Tryz.func122,rfl,rfl⟩
theorem O6:ar Tryz.prog 123:=⟨Tryz.f123,Tryz.func123,rfl,rfl⟩
theorem O5:ar Tryz.prog 124:=⟨Tryz.f124,Tryz.func124,rfl,rfl⟩
theorem JO:ar Tryz.prog 125:=⟨Tryz.f125,Tryz.func125,rfl,rfl⟩
theorem F9:ar Tryz.prog 126:=⟨Tryz.f126,Tryz.func126,rfl,rfl⟩
theorem JN:ar Tryz.prog 127:=⟨Tryz.f127,Tryz.func127,rfl,rfl⟩
theorem JM:ar Tryz.prog 128:=⟨Tryz.f128,Tryz.func128,rfl,rfl⟩
theorem BZ:ar Tryz.prog 129:=⟨Tryz.f129,Tryz.func129,rfl,rfl⟩
theorem O4:ar Tryz.prog 130:=⟨Tryz.f130,Tryz.func130,rfl,rfl⟩
theorem O3:ar Tryz.prog 131:=⟨Tryz.f131,Tryz.func131,rfl,rfl⟩
theorem O2:ar Tryz.prog 132:=⟨Tryz.f132,Tryz.func132,rfl,rfl⟩
theorem JL:ar Tryz.prog 133:=⟨Tryz.f133,Tryz.func133,rfl,rfl⟩
theorem BY:ar Tryz.prog 134:=⟨Tryz.f134,Tryz.func134,rfl,rfl⟩
theorem JK:ar Tryz.prog 135:=⟨Tryz.f135,Tryz.func135,rfl,rfl⟩
theorem F8:ar Tryz.prog 136:=⟨Tryz.f136,Tryz.func136,rfl,rfl⟩
theorem zS:ar Tryz.prog 137:=⟨Tryz.f137,Tryz.func137,rfl,rfl⟩
theorem zQ:ar Tryz.prog 138:=⟨Tryz.f138,Tryz.func138,rfl,rfl⟩
theorem JJ:ar Tryz.prog 139:=⟨Tryz.f139,Tryz.func139,rfl,rfl⟩
theorem tK:ar Tryz.prog 140:=⟨Tryz.f140,Tryz.func140,rfl,rfl⟩
theorem O1:ar Tryz.prog 141:=⟨Tryz.f141,Tryz.func141,rfl,rfl⟩
theorem O0:ar Tryz.prog 142:=⟨Tryz.f142,Tryz.func142,rfl,rfl⟩
theorem JI:ar Tryz.prog 143:=⟨Tryz.f143,Tryz.func143,rfl,rfl⟩
theorem OZ:ar Tryz.prog 144:=⟨Tryz.f144,Tryz.func144,rfl,rfl⟩
theorem JH:ar Tryz.prog 145:=⟨Tryz.f145,Tryz.func145,rfl,rfl⟩
theorem JG:ar Tryz.prog 146:=⟨Tryz.f146,Tryz.func146,rfl,rfl⟩
theorem OY:ar Tryz.prog 148:=⟨Tryz.f148,Tryz.func148,rfl,rfl⟩
theorem F7:ar Tryz.prog 152:=⟨Tryz.f152,Tryz.func152,rfl,rfl⟩
theorem OX:ar Tryz.prog 153:=⟨Tryz.f153,Tryz.func153,rfl,rfl⟩
theorem OW:ar Tryz.prog 154:=⟨Tryz.f154,Tryz.func154,rfl,rfl⟩
theorem OV:ar Tryz.prog 155:=⟨Tryz.f155,Tryz.func155,rfl,rfl⟩
theorem JF:ar Tryz.prog 156:=⟨Tryz.f156,Tryz.func156,rfl,rfl⟩
theorem OU:ar Tryz.prog 157:=⟨Tryz.f157,Tryz.func157,rfl,rfl⟩
theorem wE:ar Tryz.prog 158:=⟨Tryz.f158,Tryz.func158,rfl,rfl⟩
theorem wD:ar Tryz.prog 159:=⟨Tryz.f159,Tryz.func159,rfl,rfl⟩
theorem JE:ar Tryz.prog 160:=⟨Tryz.f160,Tryz.func160,rfl,rfl⟩
theorem OT:ar Tryz.prog 161:=⟨Tryz.f161,Tryz.func161,rfl,rfl⟩
theorem OS:ar Tryz.prog 162:=⟨Tryz.f162,Tryz.func162,rfl,rfl⟩
theorem OR:ar Tryz.prog 163:=⟨Tryz.f163,Tryz.func163,rfl,rfl⟩
theorem OQ:ar Tryz.prog 164:=⟨Tryz.f164,Tryz.func164,rfl,rfl⟩
theorem JD:ar Tryz.prog 165:=⟨Tryz.f165,Tryz.func165,rfl,rfl⟩
theorem JC:ar Tryz.prog 166:=⟨Tryz.f166,Tryz.func166,rfl,rfl⟩
theorem JB:ar Tryz.prog 167:=⟨Tryz.f167,Tryz.func167,rfl,rfl⟩
theorem OP:ar Tryz.prog 168:=⟨Tryz.f168,Tryz.func168,rfl,rfl⟩
theorem OO:ar Tryz.prog 169:=⟨Tryz.f169,Tryz.func169,rfl,rfl⟩
theorem ON:ar Tryz.prog 170:=⟨Tryz.f170,Tryz.func170,rfl,rfl⟩
theorem OM:ar Tryz.prog 171:=⟨Tryz.f171,Tryz.func171,rfl,rfl⟩
theorem OL:ar Tryz.prog 172:=⟨Tryz.f172,Tryz.func172,rfl,rfl⟩
theorem OK:ar Tryz.prog 173:=⟨Tryz.f173,Tryz.func173,rfl,rfl⟩
theorem JA:ar Tryz.prog 174:=⟨Tryz.f174,Tryz.func174,rfl,rfl⟩
theorem OJ:ar Tryz.prog 175:=⟨Tryz.f175,Tryz.func175,rfl,rfl⟩
theorem Jz:ar Tryz.prog 176:=⟨Tryz.f176,Tryz.func176,rfl,rfl⟩
theorem BX:ar Tryz.prog 177:=⟨Tryz.f177,Tryz.func177,rfl,rfl⟩
theorem Jy:ar Tryz.prog 178:=⟨Tryz.f178,Tryz.func178,rfl,rfl⟩
theorem OI:ar Tryz.prog 179:=⟨Tryz.f179,Tryz.func179,rfl,rfl⟩
theorem OH:ar Tryz.prog 180:=⟨Tryz.f180,Tryz.func180,rfl,rfl⟩
theorem F6:ar Tryz.prog 181:=⟨Tryz.f181,Tryz.func181,rfl,rfl⟩
theorem Jx:ar Tryz.prog 182:=⟨Tryz.f182,Tryz.func182,rfl,rfl⟩
theorem OG:ar Tryz.prog 187:=⟨Tryz.f187,Tryz.func187,rfl,rfl⟩
theorem OF:ar Tryz.prog 188:=⟨Tryz.f188,Tryz.func188,rfl,rfl⟩
theorem OE:ar Tryz.prog 189:=⟨Tryz.f189,Tryz.func189,rfl,rfl⟩
theorem OD:ar Tryz.prog 190:=⟨Tryz.f190,Tryz.func190,rfl,rfl⟩
theorem Jw:ar Tryz.prog 191:=⟨Tryz.f191,Tryz.func191,rfl,rfl⟩
theorem Jv:ar Tryz.prog 192:=⟨Tryz.f192,Tryz.func192,rfl,rfl⟩
theorem OC:ar Tryz.prog 193:=⟨Tryz.f193,Tryz.func193,rfl,rfl⟩
theorem OB:ar Tryz.prog 194:=⟨Tryz.f194,Tryz.func194,rfl,rfl⟩
theorem Ju:ar Tryz.prog 195:=⟨Tryz.f195,Tryz.func195,rfl,rfl⟩
theorem OA:ar Tryz.prog 206:=⟨Tryz.f206,Tryz.func206,rfl,rfl⟩
theorem Oz:ar Tryz.prog 207:=⟨Tryz.f207,Tryz.func207,rfl,rfl⟩
theorem Oy:ar Tryz.prog 208:=⟨Tryz.f208,Tryz.func208,rfl,rfl⟩
theorem F5:ar Tryz.prog 209:=⟨Tryz.f209,Tryz.func209,rfl,rfl⟩
theorem Jt:ar Tryz.prog 210:=⟨Tryz.f210,Tryz.func210,rfl,rfl⟩
theorem oJ (b o:Nat)(w:World):(Instr.fieldAt 23 (pV b o) 0).run Tryz.prog w=.ok (pV b o) w:=by kernel_rfl
theorem rE (b o:Nat)(w:World):(Instr.fieldAt 23 (pV b o) 1).run Tryz.prog w=.ok (.pointer (some ⟨b,o+1,none⟩)) w:=by kernel_rfl
theorem Ot (b o:Nat)(w:World):(Instr.fieldAt 23 (pV b o) 2).run Tryz.prog w=.ok (.pointer (some ⟨b,o+2,none⟩)) w:=by kernel_rfl
theorem Oq (b o:Nat)(w:World):(Instr.fieldAt 29 (pV b o) 0).run Tryz.prog w=.ok (pV b o) w:=by kernel_rfl
theorem Jk (b o:Nat)(w:World):(Instr.fieldAt 29 (pV b o) 1).run Tryz.prog w=.ok (.pointer (some ⟨b,o+1,none⟩)) w:=by kernel_rfl
theorem Oo (b o:Nat)(w:World):(Instr.fieldAt 29 (pV b o) 2).run Tryz.prog w=.ok (.pointer (some ⟨b,o+2,none⟩)) w:=by kernel_rfl
theorem Jj (b o:Nat)(w:World):(Instr.fieldAt 29 (pV b o) 3).run Tryz.prog w=.ok (.pointer (some ⟨b,o+3,none⟩)) w:=by kernel_rfl
theorem On (b o:Nat)(w:World):(Instr.fieldAt 29 (pV b o) 4).run Tryz.prog w=.ok (.pointer (some ⟨b,o+4,none⟩)) w:=by kernel_rfl
theorem Om (b o:Nat)(w:World):(Instr.fieldAt 29 (pV b o) 5).run Tryz.prog w=.ok (.pointer (some ⟨b,o+5,none⟩)) w:=by kernel_rfl
theorem Ol (b o:Nat)(w:World):(Instr.fieldAt 29 (pV b o) 6).run Tryz.prog w=.ok (.pointer (some ⟨b,o+6,none⟩)) w:=by kernel_rfl
theorem Ok (b o:Nat)(w:World):(Instr.fieldAt 34 (pV b o) 0).run Tryz.prog w=.ok (pV b o) w:=by kernel_rfl
theorem Oj (b o:Nat)(w:World):(Instr.fieldAt 34 (pV b o) 2).run Tryz.prog w=.ok (.pointer (some ⟨b,o+2,none⟩)) w:=by kernel_rfl
theorem Ji (b o:Nat)(w:World):(Instr.fieldAt 42 (pV b o) 0).run Tryz.prog w=.ok (pV b o) w:=by kernel_rfl
theorem Oi (b o:Nat)(w:World):(Instr.fieldAt 42 (pV b o) 1).run Tryz.prog w=.ok (.pointer (some ⟨b,o+1,none⟩)) w:=by kernel_rfl
theorem Oh (b o:Nat)(w:World):(Instr.fieldAt 42 (pV b o) 2).run Tryz.prog w=.ok (.pointer (some ⟨b,o+2,none⟩)) w:=by kernel_rfl
theorem Og (b o:Nat)(w:World):(Instr.fieldAt 42 (pV b o) 3).run Tryz.prog w=.ok (.pointer (some ⟨b,o+3,none⟩)) w:=by kernel_rfl
theorem wy (b o:Nat)(w:World):(Instr.fieldAt 42 (pV b o) 4).run Tryz.prog w=.ok (.pointer (some ⟨b,o+4,none⟩)) w:=by kernel_rfl
theorem kC (b o:Nat)(w:World):(Instr.fieldAt 42 (pV b o) 5).run Tryz.prog w=.ok (.pointer (some ⟨b,o+5,none⟩)) w:=by kernel_rfl
theorem Jh (b o:Nat)(w:World):(Instr.fieldAt 75 (pV b o) 0).run Tryz.prog w=.ok (pV b o) w:=by kernel_rfl
theorem Jg (b o:Nat)(w:World):(Instr.fieldAt 75 (pV b o) 1).run Tryz.prog w=.ok (.pointer (some ⟨b,o+1,none⟩)) w:=by kernel_rfl
theorem FX (b o:Nat)(w:World):(Instr.fieldAt 79 (pV b o) 0).run Tryz.prog w=.ok (pV b o) w:=by kernel_rfl
theorem FW (b o:Nat)(w:World):(Instr.fieldAt 79 (pV b o) 1).run Tryz.prog w=.ok (.pointer (some ⟨b,o+3,none⟩)) w:=by kernel_rfl
theorem kB (b o:Nat)(w:World):(Instr.fieldAt 79 (pV b o) 3).run Tryz.prog w=.ok (.pointer (some ⟨b,o+11,none⟩)) w:=by kernel_rfl
theorem Of (b o:Nat)(w:World):(Instr.fieldAt 79 (pV b o) 4).run Tryz.prog w=.ok (.pointer (some ⟨b,o+12,none⟩)) w:=by kernel_rfl
theorem FV (b o:Nat)(w:World):(Instr.fieldAt 79 (pV b o) 9).run Tryz.prog w=.ok (.pointer (some ⟨b,o+17,none⟩)) w:=by kernel_rfl
theorem Oe (b o:Nat)(w:World):(Instr.fieldAt 82 (pV b o) 0).run Tryz.prog w=.ok (pV b o) w:=by kernel_rfl
theorem Od (b o:Nat)(w:World):(Instr.fieldAt 82 (pV b o) 1).run Tryz.prog w=.ok (.pointer (some ⟨b,o+1,none⟩)) w:=by kernel_rfl
theorem Oc (b o:Nat)(w:World):(Instr.fieldAt 82 (pV b o) 2).run Tryz.prog w=.ok (.pointer (some ⟨b,o+2,none⟩)) w:=by kernel_rfl
theorem Jf (b o:Nat)(w:World):(Instr.fieldAt 84 (pV b o) 2).run Tryz.prog w=.ok (.pointer (some ⟨b,o+4,none⟩)) w:=by kernel_rfl
theorem BU (b o:Nat)(w:World):(Instr.fieldAt 96 (pV b o) 0).run Tryz.prog w=.ok (pV b o) w:=by kernel_rfl
theorem zA (b o:Nat)(w:World):(Instr.fieldAt 96 (pV b o) 1).run Tryz.prog w=.ok (.pointer (some ⟨b,o+1,none⟩)) w:=by kernel_rfl
theorem lq (b o:Nat)(w:World):(Instr.fieldAt 99 (pV b o) 0).run Tryz.prog w=.ok (pV b o) w:=by kernel_rfl
theorem oI (b o:Nat)(w:World):(Instr.fieldAt 99 (pV b o) 1).run Tryz.prog w=.ok (.pointer (some ⟨b,o+2,none⟩)) w:=by kernel_rfl
theorem rD (b o:Nat)(w:World):(Instr.fieldAt 99 (pV b o) 2).run Tryz.prog w=.ok (.pointer (some ⟨b,o+3,none⟩)) w:=by kernel_rfl
theorem zz (b o:Nat)(w:World):(Instr.fieldAt 99 (pV b o) 3).run Tryz.prog w=.ok (.pointer (some ⟨b,o+4,none⟩)) w:=by kernel_rfl
theorem He (b o:Nat)(w:World):(Instr.fieldAt 114 (pV b o) 0).run Tryz.prog w=.ok (pV b o) w:=by kernel_rfl
theorem zC (b o:Nat)(w:World):(Instr.fieldAt 114 (pV b o) 1).run Tryz.prog w=.ok (.pointer (some ⟨b,o+1,none⟩)) w:=by kernel_rfl
theorem vF (b o:Nat)(w:World):(Instr.fieldAt 114 (pV b o) 2).run Tryz.prog w=.ok (.pointer (some ⟨b,o+4,none⟩)) w:=by kernel_rfl
theorem Dy (b o:Nat)(w:World):(Instr.fieldAt 114 (pV b o) 3).run Tryz.prog w=.ok (.pointer (some ⟨b,o+5,none⟩)) w:=by kernel_rfl
theorem sO (b o:Nat)(w:World):(Instr.fieldAt 118 (pV b o) 0).run Tryz.prog w=.ok (pV b o) w:=by kernel_rfl
theorem Dx (b o:Nat)(w:World):(Instr.fieldAt 118 (pV b o) 1).run Tryz.prog w=.ok (.pointer (some ⟨b,o+1,none⟩)) w:=by kernel_rfl
theorem Ml (b o:Nat)(w:World):(Instr.fieldAt 147 (pV b o) 0).run Tryz.prog w=.ok (pV b o) w:=by kernel_rfl
theorem Hd (b o:Nat)(w:World):(Instr.fieldAt 186 (pV b o) 0).run Tryz.prog w=.ok (pV b o) w:=by kernel_rfl
theorem Hc (b o:Nat)(w:World):(Instr.fieldAt 186 (pV b o) 1).run Tryz.prog w=.ok (.pointer (some ⟨b,o+2,none⟩)) w:=by kernel_rfl
theorem o4 (b o:Nat)(w:World):(Instr.fieldAt 186 (pV b o) 2).run Tryz.prog w=.ok (.pointer (some ⟨b,o+3,none⟩)) w:=by kernel_rfl
theorem Mk (b o:Nat)(w:World):(Instr.fieldAt 186 (pV b o) 3).run Tryz.prog w=.ok (.pointer (some ⟨b,o+4,none⟩)) w:=by kernel_rfl
theorem Dw (b o:Nat)(w:World):(Instr.fieldAt 186 (pV b o) 4).run Tryz.prog w=.ok (.pointer (some ⟨b,o+5,none⟩)) w:=by kernel_rfl
theorem Hb (b o:Nat)(w:World):(Instr.fieldAt 229 (pV b o) 0).run Tryz.prog w=.ok (pV b o) w:=by kernel_rfl
theorem zB (b o:Nat)(w:World):(Instr.fieldAt 229 (pV b o) 1).run Tryz.prog w=.ok (.pointer (some ⟨b,o+2,none⟩)) w:=by kernel_rfl
theorem Mj (b o:Nat)(w:World):(Instr.fieldAt 229 (pV b o) 2).run Tryz.prog w=.ok (.pointer (some ⟨b,o+3,none⟩)) w:=by kernel_rfl
theorem Dv (b o:Nat)(w:World):(Instr.fieldAt 229 (pV b o) 3).run Tryz.prog w=.ok (.pointer (some ⟨b,o+4,none⟩)) w:=by kernel_rfl
theorem dy:gY Tryz.prog 3=true:=by kernel_rfl
theorem H8:gY Tryz.prog 4=true:=by kernel_rfl
theorem NV:gY Tryz.prog 9=true:=by kernel_rfl
theorem zc:gY Tryz.prog 24=true:=by kernel_rfl
theorem dD:gY Tryz.prog 30=true:=by kernel_rfl
theorem lA:gY Tryz.prog 39=true:=by kernel_rfl
theorem iZ:gY Tryz.prog 46=true:=by kernel_rfl
theorem LD:gY Tryz.prog 58=true:=by kernel_rfl
theorem QX:gY Tryz.prog 72=true:=by kernel_rfl
theorem QW:gY Tryz.prog 89=true:=by kernel_rfl
theorem oU:gY Tryz.prog 94=true:=by kernel_rfl
theorem EE:gY Tryz.prog 97=true:=by kernel_rfl
theorem vd:gY Tryz.prog 115=true:=by kernel_rfl
theorem Ia:gY Tryz.prog 116=true:=by kernel_rfl
theorem H9:gY Tryz.prog 145=true:=by kernel_rfl
theorem An:gY Tryz.prog 170=true:=by kernel_rfl
theorem PI:gY Tryz.prog 225=true:=by kernel_rfl
theorem PH:gY Tryz.prog 227=true:=by kernel_rfl
theorem bV:ux Tryz.prog 23 3=true:=by kernel_rfl
theorem Py:ux Tryz.prog 29 7=true:=by kernel_rfl
theorem JY:ux Tryz.prog 34 5=true:=by kernel_rfl
theorem bA:ux Tryz.prog 42 6=true:=by kernel_rfl
theorem zW:ux Tryz.prog 82 3=true:=by kernel_rfl
theorem Rh:ux Tryz.prog 84 5=true:=by kernel_rfl
theorem fe:ux Tryz.prog 96 2=true:=by kernel_rfl
theorem yj:ux Tryz.prog 114 6=true:=by kernel_rfl
theorem dP:dO Tryz.prog 3 1=true:=by kernel_rfl
theorem Cq:dO Tryz.prog 4 1=true:=by kernel_rfl
theorem Ps:dO Tryz.prog 9 1=true:=by kernel_rfl
theorem aS:dO Tryz.prog 23 3=true:=by kernel_rfl
theorem eJ:dO Tryz.prog 30 1=true:=by kernel_rfl
theorem Cr:dO Tryz.prog 34 5=true:=by kernel_rfl
theorem rP:dO Tryz.prog 39 1=true:=by kernel_rfl
theorem bL:dO Tryz.prog 42 6=true:=by kernel_rfl
theorem PE:dO Tryz.prog 58 1=true:=by kernel_rfl
theorem PD:dO Tryz.prog 84 5=true:=by kernel_rfl
theorem rO:dO Tryz.prog 94 1=true:=by kernel_rfl
theorem fg:dO Tryz.prog 96 2=true:=by kernel_rfl
theorem jH:dO Tryz.prog 114 6=true:=by kernel_rfl
theorem NM:dO Tryz.prog 115 1=true:=by kernel_rfl
theorem NL:dO Tryz.prog 145 1=true:=by kernel_rfl
theorem NK:dO Tryz.prog 156 4=true:=by kernel_rfl
theorem NJ:dO Tryz.prog 157 22=true:=by kernel_rfl
theorem NI:dO Tryz.prog 170 1=true:=by kernel_rfl
theorem NH:dO Tryz.prog 225 1=true:=by kernel_rfl
theorem IT:dO Tryz.prog 253 0=true:=by kernel_rfl
theorem Gj (w:World):(zeroValue 3).run Tryz.prog w=.ok (iV 0) w:=by kernel_rfl
theorem Gi (w:World):(zeroValue 4).run Tryz.prog w=.ok (.bool false) w:=by kernel_rfl
theorem d7 (w:World):(zeroValue 23).run Tryz.prog w=.ok (.agg #[iV 0,iV 0,.string ⟨#[]⟩]) w:=by kernel_rfl
theorem Le (w:World):(zeroValue 30).run Tryz.prog w=.ok (U none 0 0) w:=by kernel_rfl
theorem HH (w:World):(zeroValue 34).run Tryz.prog w=.ok (.agg #[iV 0,iV 0,iV 0,iV 0,.string ⟨#[]⟩]) w:=by kernel_rfl
theorem HG (w:World):(zeroValue 39).run Tryz.prog w=.ok (U none 0 0) w:=by kernel_rfl
theorem eA (w:World):(zeroValue 42).run Tryz.prog w=.ok (.agg #[iV 0,iV 0,iV 0,iV 0,U none 0 0,U none 0 0]) w:=by kernel_rfl
theorem mO (w:World):(zeroValue 96).run Tryz.prog w=.ok (.agg #[U none 0 0,U none 0 0]) w:=by kernel_rfl
theorem ym (w:World):(zeroValue 114).run Tryz.prog w=.ok (.agg #[iV 0,iV 0,iV 0,.string ⟨#[]⟩,iV 0,iV 0]) w:=by kernel_rfl
theorem Nz (w:World):(zeroValue 145).run Tryz.prog w=.ok (.map none) w:=by kernel_rfl
theorem Ny (w:World):(zeroValue 156).run Tryz.prog w=.ok (.agg #[.string ⟨#[]⟩,.string ⟨#[]⟩,.string ⟨#[]⟩,.string ⟨#[]⟩]) w:=by kernel_rfl
theorem Nx (w:World):(zeroValue 157).run Tryz.prog w=.ok (.agg #[.string ⟨#[]⟩,.string ⟨#[]⟩,.string ⟨#[]⟩,.string ⟨#[]⟩,.string ⟨#[]⟩,.string ⟨#[]⟩,.string ⟨#[]⟩,.string ⟨#[]⟩,.string ⟨#[]⟩,.string ⟨#[]⟩,.string ⟨#[]⟩,.string ⟨#[]⟩,.string ⟨#[]⟩,.string ⟨#[]⟩,.string ⟨#[]⟩,.string ⟨#[]⟩,.string ⟨#[]⟩,.string ⟨#[]⟩,.string ⟨#[]⟩,.string ⟨#[]⟩,.string ⟨#[]⟩,.string ⟨#[]⟩]) w:=by kernel_rfl
theorem Nw (w:World):(zeroValue 170).run Tryz.prog w=.ok (.map none) w:=by kernel_rfl
theorem Nv (w:World):(zeroValue 225).run Tryz.prog w=.ok (.pointer none) w:=by kernel_rfl
theorem BO (w:World):(zeroValue 253).run Tryz.prog w=.ok (.agg #[]) w:=by kernel_rfl
theorem Mh (x0_:Int)(x1_:Int)(x2_:Int)(x3_:Int)(x4_a:Option Addr)(x4_n x4_c:Nat)(x5_a:Option Addr)(x5_n x5_c:Nat)(w:World):(Instr.field 42 (.agg #[iV x0_,iV x1_,iV x2_,iV x3_,.slice x4_a x4_n x4_c,.slice x5_a x5_n x5_c]) 2).run Tryz.prog w=.ok (iV x2_) w:=by kernel_rfl
theorem Mg (x0_:Int)(x1_:Int)(x2_:Int)(x3_:Int)(x4_a:Option Addr)(x4_n x4_c:Nat)(x5_a:Option Addr)(x5_n x5_c:Nat)(w:World):(Instr.field 42 (.agg #[iV x0_,iV x1_,iV x2_,iV x3_,.slice x4_a x4_n x4_c,.slice x5_a x5_n x5_c]) 3).run Tryz.prog w=.ok (iV x3_) w:=by kernel_rfl
theorem Dq (x0_:Int)(x1_:Int)(x2_:Int)(x3_:Int)(x4_a:Option Addr)(x4_n x4_c:Nat)(x5_a:Option Addr)(x5_n x5_c:Nat)(w:World):(Instr.field 42 (.agg #[iV x0_,iV x1_,iV x2_,iV x3_,.slice x4_a x4_n x4_c,.slice x5_a x5_n x5_c]) 5).run Tryz.prog w=.ok (.slice x5_a x5_n x5_c) w:=by kernel_rfl
theorem wF  (w:World):(Instr.build 23 #[]).run Tryz.prog w=.ok (.agg #[iV 0,iV 0,.string ⟨#[]⟩]) w:=by kernel_rfl
theorem Hw (x0_:Int)(w:World):(Instr.build 23 #[(0,iV x0_)]).run Tryz.prog w=.ok (.agg #[iV x0_,iV 0,.string ⟨#[]⟩]) w:=by kernel_rfl
theorem tL (x0_:Int)(x1_:Int)(w:World):(Instr.build 23 #[(0,iV x0_),(1,iV x1_)]).run Tryz.prog w=.ok (.agg #[iV x0_,iV x1_,.string ⟨#[]⟩]) w:=by kernel_rfl
theorem IE (x0_:Int)(x2_:ByteArray)(w:World):(Instr.build 23 #[(0,iV x0_),(2,.string x2_)]).run Tryz.prog w=.ok (.agg #[iV x0_,iV 0,.string x2_]) w:=by kernel_rfl
theorem Gd (x1_:Int)(x2_:Int)(x3_:Int)(w:World):(Instr.build 29 #[(1,iV x1_),(2,iV x2_),(3,iV x3_)]).run Tryz.prog w=.ok (.agg #[iV 0,iV x1_,iV x2_,iV x3_,iV 0,iV 0,iV 0]) w:=by kernel_rfl
theorem AK (x1_:Int)(x2_:Int)(x3_:Int)(x4_:Int)(x5_:Int)(w:World):(Instr.build 29 #[(1,iV x1_),(2,iV x2_),(3,iV x3_),(4,iV x4_),(5,iV x5_)]).run Tryz.prog w=.ok (.agg #[iV 0,iV x1_,iV x2_,iV x3_,iV x4_,iV x5_,iV 0]) w:=by kernel_rfl
theorem ID (x0_:Int)(x1_:Int)(w:World):(Instr.build 34 #[(0,iV x0_),(1,iV x1_)]).run Tryz.prog w=.ok (.agg #[iV x0_,iV x1_,iV 0,iV 0,.string ⟨#[]⟩]) w:=by kernel_rfl
theorem IC (x0_:Int)(x2_0_:Int)(x2_1_:Int)(x2_2_:ByteArray)(w:World):(Instr.build 34 #[(0,iV x0_),(2,.agg #[iV x2_0_,iV x2_1_,.string x2_2_])]).run Tryz.prog w=.ok (.agg #[iV x0_,iV 0,iV x2_0_,iV x2_1_,.string x2_2_]) w:=by kernel_rfl
theorem zT  (w:World):(Instr.build 42 #[]).run Tryz.prog w=.ok (.agg #[iV 0,iV 0,iV 0,iV 0,U none 0 0,U none 0 0]) w:=by kernel_rfl
theorem Hu (x0_:Int)(w:World):(Instr.build 42 #[(0,iV x0_)]).run Tryz.prog w=.ok (.agg #[iV x0_,iV 0,iV 0,iV 0,U none 0 0,U none 0 0]) w:=by kernel_rfl
theorem nH (x0_:Int)(x1_:Int)(x2_:Int)(x4_a:Option Addr)(x4_n x4_c:Nat)(w:World):(Instr.build 42 #[(0,iV x0_),(1,iV x1_),(2,iV x2_),(4,.slice x4_a x4_n x4_c)]).run Tryz.prog w=.ok (.agg #[iV x0_,iV x1_,iV x2_,iV 0,.slice x4_a x4_n x4_c,U none 0 0]) w:=by kernel_rfl
theorem Gc (x0_:Int)(x2_:Int)(x4_a:Option Addr)(x4_n x4_c:Nat)(w:World):(Instr.build 42 #[(0,iV x0_),(2,iV x2_),(4,.slice x4_a x4_n x4_c)]).run Tryz.prog w=.ok (.agg #[iV x0_,iV 0,iV x2_,iV 0,.slice x4_a x4_n x4_c,U none 0 0]) w:=by kernel_rfl
theorem IB (x0_:Int)(x5_a:Option Addr)(x5_n x5_c:Nat)(w:World):(Instr.build 42 #[(0,iV x0_),(5,.slice x5_a x5_n x5_c)]).run Tryz.prog w=.ok (.agg #[iV x0_,iV 0,iV 0,iV 0,U none 0 0,.slice x5_a x5_n x5_c]) w:=by kernel_rfl
theorem Ng (x5_a:Option Addr)(x5_n x5_c:Nat)(w:World):(Instr.build 42 #[(5,.slice x5_a x5_n x5_c)]).run Tryz.prog w=.ok (.agg #[iV 0,iV 0,iV 0,iV 0,U none 0 0,.slice x5_a x5_n x5_c]) w:=by kernel_rfl
theorem Gb (x1_0_:Int)(x1_1_:Int)(x1_2_:Int)(x1_3_:Int)(x1_4_:Int)(x1_5_:Int)(x1_6_:Int)(x3_:Option Addr)(x4_:Option Addr)(w:World):(Instr.build 79 #[(1,.agg #[iV x1_0_,iV x1_1_,iV x1_2_,iV x1_3_,iV x1_4_,iV x1_5_,iV x1_6_]),(3,.pointer x3_),(4,.pointer x4_)]).run Tryz.prog w=.ok (.agg #[iV 0,iV 0,iV 0,iV x1_0_,iV x1_1_,iV x1_2_,iV x1_3_,iV x1_4_,iV x1_5_,iV x1_6_,.nilIface,.pointer x3_,.pointer x4_,U none 0 0,iV 0,iV 0,iV 0,U none 0 0,U none 0 0]) w:=by kernel_rfl
theorem IA (x0_:Int)(x2_:ByteArray)(w:World):(Instr.build 82 #[(0,iV x0_),(2,.string x2_)]).run Tryz.prog w=.ok (.agg #[iV x0_,iV 0,.string x2_]) w:=by kernel_rfl
theorem Iz (x0_:Int)(x2_:ByteArray)(w:World):(Instr.build 84 #[(0,iV x0_),(2,.string x2_)]).run Tryz.prog w=.ok (.agg #[iV x0_,iV 0,iV 0,.string ⟨#[]⟩,.string x2_]) w:=by kernel_rfl
theorem JT  (w:World):(Instr.build 96 #[]).run Tryz.prog w=.ok (.agg #[U none 0 0,U none 0 0]) w:=by kernel_rfl
theorem Nf (x3_:Option Addr)(w:World):(Instr.build 99 #[(3,.pointer x3_)]).run Tryz.prog w=.ok (.agg #[U none 0 0,U none 0 0,U none 0 0,U none 0 0,.pointer x3_]) w:=by kernel_rfl
theorem Nh  (w:World):(Instr.build 114 #[]).run Tryz.prog w=.ok (.agg #[iV 0,iV 0,iV 0,.string ⟨#[]⟩,iV 0,iV 0]) w:=by kernel_rfl
theorem K8 (x0_:Int)(w:World):(Instr.build 114 #[(0,iV x0_)]).run Tryz.prog w=.ok (.agg #[iV x0_,iV 0,iV 0,.string ⟨#[]⟩,iV 0,iV 0]) w:=by kernel_rfl
theorem BK (x0_:Int)(x1_0_:Int)(x1_1_:Int)(x1_2_:ByteArray)(x2_:Int)(x3_:Int)(w:World):(Instr.build 114 #[(0,iV x0_),(1,.agg #[iV x1_0_,iV x1_1_,.string x1_2_]),(2,iV x2_),(3,iV x3_)]).run Tryz.prog w=.ok (.agg #[iV x0_,iV x1_0_,iV x1_1_,.string x1_2_,iV x2_,iV x3_]) w:=by kernel_rfl
theorem Hz (x1_0_:Int)(x1_1_:Int)(x1_2_:ByteArray)(x2_:Int)(w:World):(Instr.build 114 #[(1,.agg #[iV x1_0_,iV x1_1_,.string x1_2_]),(2,iV x2_)]).run Tryz.prog w=.ok (.agg #[iV 0,iV x1_0_,iV x1_1_,.string x1_2_,iV x2_,iV 0]) w:=by kernel_rfl
theorem Hy (x0_a:Option Addr)(x0_n x0_c:Nat)(x1_:Option Nat)(w:World):(Instr.build 118 #[(0,.slice x0_a x0_n x0_c),(1,.map x1_)]).run Tryz.prog w=.ok (.agg #[.slice x0_a x0_n x0_c,.map x1_]) w:=by kernel_rfl
theorem K7 (x0_:Option Nat)(w:World):(Instr.build 147 #[(0,.map x0_)]).run Tryz.prog w=.ok (.agg #[.map x0_]) w:=by kernel_rfl
theorem BJ (x0_:ByteArray)(x1_:ByteArray)(x2_:ByteArray)(x3_:ByteArray)(w:World):(Instr.build 156 #[(0,.string x0_),(1,.string x1_),(2,.string x2_),(3,.string x3_)]).run Tryz.prog w=.ok (.agg #[.string x0_,.string x1_,.string x2_,.string x3_]) w:=by kernel_rfl
theorem eD (x0_:ByteArray)(x1_:ByteArray)(x2_:ByteArray)(x3_:ByteArray)(x4_:ByteArray)(x5_:ByteArray)(x6_:ByteArray)(x7_:ByteArray)(x8_:ByteArray)(x9_:ByteArray)(x10_:ByteArray)(x11_:ByteArray)(x12_:ByteArray)(x13_:ByteArray)(x14_:ByteArray)(x15_:ByteArray)(x16_:ByteArray)(x17_:ByteArray)(x18_:ByteArray)(x19_:ByteArray)(x20_:ByteArray)(x21_:ByteArray)(w:World):(Instr.build 157 #[(0,.string x0_),(1,.string x1_),(2,.string x2_),(3,.string x3_),(4,.string x4_),(5,.string x5_),(6,.string x6_),(7,.string x7_),(8,.string x8_),(9,.string x9_),(10,.string x10_),(11,.string x11_),(12,.string x12_),(13,.string x13_),(14,.string x14_),(15,.string x15_),(16,.string x16_),(17,.string x17_),(18,.string x18_),(19,.string x19_),(20,.string x20_),(21,.string x21_)]).run Tryz.prog w=.ok (.agg #[.string x0_,.string x1_,.string x2_,.string x3_,.string x4_,.string x5_,.string x6_,.string x7_,.string x8_,.string x9_,.string x10_,.string x11_,.string x12_,.string x13_,.string x14_,.string x15_,.string x16_,.string x17_,.string x18_,.string x19_,.string x20_,.string x21_]) w:=by kernel_rfl
theorem Ef (x0_0_a:Option Addr)(x0_0_n x0_0_c:Nat)(x0_1_a:Option Addr)(x0_1_n x0_1_c:Nat)(x1_a:Option Addr)(x1_n x1_c:Nat)(x3_:Option Nat)(w:World):(Instr.build 186 #[(0,.agg #[.slice x0_0_a x0_0_n x0_0_c,.slice x0_1_a x0_1_n x0_1_c]),(1,.slice x1_a x1_n x1_c),(3,.map x3_)]).run Tryz.prog w=.ok (.agg #[.slice x0_0_a x0_0_n x0_0_c,.slice x0_1_a x0_1_n x0_1_c,.slice x1_a x1_n x1_c,U none 0 0,.map x3_,iV 0]) w:=by kernel_rfl
theorem xz (x0_:Int)(x1_0_:Int)(x1_1_:Int)(x1_2_:ByteArray)(x2_:Int)(w:World):(Instr.build 202 #[(0,iV x0_),(1,.agg #[iV x1_0_,iV x1_1_,.string x1_2_]),(2,iV x2_)]).run Tryz.prog w=.ok (.agg #[iV x0_,iV x1_0_,iV x1_1_,.string x1_2_,iV x2_]) w:=by kernel_rfl
theorem Hx (x0_0_a:Option Addr)(x0_0_n x0_0_c:Nat)(x0_1_a:Option Addr)(x0_1_n x0_1_c:Nat)(x2_:Option Nat)(w:World):(Instr.build 229 #[(0,.agg #[.slice x0_0_a x0_0_n x0_0_c,.slice x0_1_a x0_1_n x0_1_c]),(2,.map x2_)]).run Tryz.prog w=.ok (.agg #[.slice x0_0_a x0_0_n x0_0_c,.slice x0_1_a x0_1_n x0_1_c,U none 0 0,.map x2_,iV 0]) w:=by kernel_rfl
theorem Hv  (w:World):(Instr.build 253 #[]).run Tryz.prog w=.ok (.agg #[]) w:=by kernel_rfl
theorem Nd  (w:World):(Instr.buildSlice 30 0 #[]).run Tryz.prog w=.ok (.slice (some ⟨w.heap.size,0,none⟩) 0 0) (w.alloc (.cells #[] 23)):=by kernel_rfl
theorem vU (x0_0_:Int)(x0_1_:Int)(x0_2_:ByteArray)(w:World):(Instr.buildSlice 30 1 #[(0,.agg #[iV x0_0_,iV x0_1_,.string x0_2_])]).run Tryz.prog w=.ok (.slice (some ⟨w.heap.size,0,none⟩) 1 1) (w.alloc (.cells #[iV x0_0_,iV x0_1_,.string x0_2_] 23)):=by kernel_rfl
theorem vT (x0_0_:Int)(x0_1_:Int)(x0_2_:ByteArray)(x1_0_:Int)(x1_1_:Int)(x1_2_:ByteArray)(w:World):(Instr.buildSlice 30 2 #[(0,.agg #[iV x0_0_,iV x0_1_,.string x0_2_]),(1,.agg #[iV x1_0_,iV x1_1_,.string x1_2_])]).run Tryz.prog w=.ok (.slice (some ⟨w.heap.size,0,none⟩) 2 2) (w.alloc (.cells #[iV x0_0_,iV x0_1_,.string x0_2_,iV x1_0_,iV x1_1_,.string x1_2_] 23)):=by kernel_rfl
theorem Nc (x0_0_:Int)(x0_1_:Int)(x0_2_:ByteArray)(x1_0_:Int)(x1_1_:Int)(x1_2_:ByteArray)(x2_0_:Int)(x2_1_:Int)(x2_2_:ByteArray)(w:World):(Instr.buildSlice 30 3 #[(0,.agg #[iV x0_0_,iV x0_1_,.string x0_2_]),(1,.agg #[iV x1_0_,iV x1_1_,.string x1_2_]),(2,.agg #[iV x2_0_,iV x2_1_,.string x2_2_])]).run Tryz.prog w=.ok (.slice (some ⟨w.heap.size,0,none⟩) 3 3) (w.alloc (.cells #[iV x0_0_,iV x0_1_,.string x0_2_,iV x1_0_,iV x1_1_,.string x1_2_,iV x2_0_,iV x2_1_,.string x2_2_] 23)):=by kernel_rfl
theorem Nb (x0_0_:Int)(x0_1_:Int)(x0_2_:ByteArray)(x1_0_:Int)(x1_1_:Int)(x1_2_:ByteArray)(x2_0_:Int)(x2_1_:Int)(x2_2_:ByteArray)(x3_0_:Int)(x3_1_:Int)(x3_2_:ByteArray)(w:World):(Instr.buildSlice 30 4 #[(0,.agg #[iV x0_0_,iV x0_1_,.string x0_2_]),(1,.agg #[iV x1_0_,iV x1_1_,.string x1_2_]),(2,.agg #[iV x2_0_,iV x2_1_,.string x2_2_]),(3,.agg #[iV x3_0_,iV x3_1_,.string x3_2_])]).run Tryz.prog w=.ok (.slice (some ⟨w.heap.size,0,none⟩) 4 4) (w.alloc (.cells #[iV x0_0_,iV x0_1_,.string x0_2_,iV x1_0_,iV x1_1_,.string x1_2_,iV x2_0_,iV x2_1_,.string x2_2_,iV x3_0_,iV x3_1_,.string x3_2_] 23)):=by kernel_rfl
theorem ma (x0_:Int)(w:World):(Instr.buildSlice 39 1 #[(0,iV x0_)]).run Tryz.prog w=.ok (.slice (some ⟨w.heap.size,0,none⟩) 1 1) (w.alloc (.cells #[iV x0_] 3)):=by kernel_rfl
theorem Na (x0_:Int)(x1_:Int)(w:World):(Instr.buildSlice 39 2 #[(0,iV x0_),(1,iV x1_)]).run Tryz.prog w=.ok (.slice (some ⟨w.heap.size,0,none⟩) 2 2) (w.alloc (.cells #[iV x0_,iV x1_] 3)):=by kernel_rfl
theorem MZ (x0_0_:Int)(x0_1_0_:Int)(x0_1_1_:Int)(x0_1_2_:ByteArray)(x0_2_:ByteArray)(w:World):(Instr.buildSlice 58 1 #[(0,.agg #[iV x0_0_,iV x0_1_0_,iV x0_1_1_,.string x0_1_2_,.string x0_2_])]).run Tryz.prog w=.ok (.slice (some ⟨w.heap.size,0,none⟩) 1 1) (w.alloc (.cells #[iV x0_0_,iV x0_1_0_,iV x0_1_1_,.string x0_1_2_,.string x0_2_] 84)):=by kernel_rfl
theorem lZ (x0_a:Option Addr)(x0_n x0_c:Nat)(x1_a:Option Addr)(x1_n x1_c:Nat)(w:World):(Instr.buildSlice 65 2 #[(0,.slice x0_a x0_n x0_c),(1,.slice x1_a x1_n x1_c)]).run Tryz.prog w=.ok (.slice (some ⟨w.heap.size,0,none⟩) 2 2) (w.alloc (.cells #[.slice x0_a x0_n x0_c,.slice x1_a x1_n x1_c] 30)):=by kernel_rfl
theorem vS (x0_0_:Int)(x0_1_:Int)(x0_2_:Int)(x0_3_:Int)(x0_4_a:Option Addr)(x0_4_n x0_4_c:Nat)(x0_5_a:Option Addr)(x0_5_n x0_5_c:Nat)(w:World):(Instr.buildSlice 94 1 #[(0,.agg #[iV x0_0_,iV x0_1_,iV x0_2_,iV x0_3_,.slice x0_4_a x0_4_n x0_4_c,.slice x0_5_a x0_5_n x0_5_c])]).run Tryz.prog w=.ok (.slice (some ⟨w.heap.size,0,none⟩) 1 1) (w.alloc (.cells #[iV x0_0_,iV x0_1_,iV x0_2_,iV x0_3_,.slice x0_4_a x0_4_n x0_4_c,.slice x0_5_a x0_5_n x0_5_c] 42)):=by kernel_rfl
theorem AJ (x0_0_:Int)(x0_1_0_:Int)(x0_1_1_:Int)(x0_1_2_:ByteArray)(x0_2_:Int)(x0_3_:Int)(w:World):(Instr.buildSlice 115 1 #[(0,.agg #[iV x0_0_,iV x0_1_0_,iV x0_1_1_,.string x0_1_2_,iV x0_2_,iV x0_3_])]).run Tryz.prog w=.ok (.slice (some ⟨w.heap.size,0,none⟩) 1 1) (w.alloc (.cells #[iV x0_0_,iV x0_1_0_,iV x0_1_1_,.string x0_1_2_,iV x0_2_,iV x0_3_] 114)):=by kernel_rfl
theorem AI (x0_a:Option Addr)(x0_n x0_c:Nat)(x1_a:Option Addr)(x1_n x1_c:Nat)(w:World):(Instr.buildSlice 134 2 #[(0,.slice x0_a x0_n x0_c),(1,.slice x1_a x1_n x1_c)]).run Tryz.prog w=.ok (.slice (some ⟨w.heap.size,0,none⟩) 2 2) (w.alloc (.cells #[.slice x0_a x0_n x0_c,.slice x1_a x1_n x1_c] 94)):=by kernel_rfl
theorem E3 (x0_a:Option Addr)(x0_n x0_c:Nat)(x1_a:Option Addr)(x1_n x1_c:Nat)(w:World):(Instr.buildSlice 191 2 #[(0,.slice x0_a x0_n x0_c),(1,.slice x1_a x1_n x1_c)]).run Tryz.prog w=.ok (.slice (some ⟨w.heap.size,0,none⟩) 2 2) (w.alloc (.cells #[.slice x0_a x0_n x0_c,.slice x1_a x1_n x1_c] 39)):=by kernel_rfl
theorem HF:tO Tryz.prog 3 1 8=true:=by kernel_rfl
theorem Ce:tO Tryz.prog 23 3 32=true:=by kernel_rfl
theorem Gk:tO Tryz.prog 42 6 80=true:=by kernel_rfl
theorem QK:tO Tryz.prog 84 5 56=true:=by kernel_rfl
theorem QL:tO Tryz.prog 114 6 56=true:=by kernel_rfl
instance:Fc (gY Tryz.prog 3=true):=⟨dy⟩
instance:Fc (gY Tryz.prog 4=true):=⟨H8⟩
instance:Fc (gY Tryz.prog 9=true):=⟨NV⟩
instance:Fc (gY Tryz.prog 24=true):=⟨zc⟩
instance:Fc (gY Tryz.prog 30=true):=⟨dD⟩
instance:Fc (gY Tryz.prog 39=true):=⟨lA⟩
instance:Fc (gY Tryz.prog 46=true):=⟨iZ⟩
instance:Fc (gY Tryz.prog 58=true):=⟨LD⟩
instance:Fc (gY Tryz.prog 72=true):=⟨QX⟩
instance:Fc (gY Tryz.prog 89=true):=⟨QW⟩
instance:Fc (gY Tryz.prog 94=true):=⟨oU⟩
instance:Fc (gY Tryz.prog 97=true):=⟨EE⟩
instance:Fc (gY Tryz.prog 115=true):=⟨vd⟩
instance:Fc (gY Tryz.prog 116=true):=⟨Ia⟩
instance:Fc (gY Tryz.prog 145=true):=⟨H9⟩
instance:Fc (gY Tryz.prog 170=true):=⟨An⟩
instance:Fc (gY Tryz.prog 225=true):=⟨PI⟩
instance:Fc (gY Tryz.prog 227=true):=⟨PH⟩
instance:FcA0 Tryz.prog 23 0:=⟨oJ⟩
instance:FcA Tryz.prog 23 1 1:=⟨rE⟩
instance:FcA Tryz.prog 23 2 2:=⟨Ot⟩
instance:FcA0 Tryz.prog 29 0:=⟨Oq⟩
instance:FcA Tryz.prog 29 1 1:=⟨Jk⟩
instance:FcA Tryz.prog 29 2 2:=⟨Oo⟩
instance:FcA Tryz.prog 29 3 3:=⟨Jj⟩
instance:FcA Tryz.prog 29 4 4:=⟨On⟩
instance:FcA Tryz.prog 29 5 5:=⟨Om⟩
instance:FcA Tryz.prog 29 6 6:=⟨Ol⟩
instance:FcA0 Tryz.prog 34 0:=⟨Ok⟩
instance:FcA Tryz.prog 34 2 2:=⟨Oj⟩
instance:FcA0 Tryz.prog 42 0:=⟨Ji⟩
instance:FcA Tryz.prog 42 1 1:=⟨Oi⟩
instance:FcA Tryz.prog 42 2 2:=⟨Oh⟩
instance:FcA Tryz.prog 42 3 3:=⟨Og⟩
instance:FcA Tryz.prog 42 4 4:=⟨wy⟩
instance:FcA Tryz.prog 42 5 5:=⟨kC⟩
instance:FcA0 Tryz.prog 75 0:=⟨Jh⟩
instance:FcA Tryz.prog 75 1 1:=⟨Jg⟩
instance:FcA0 Tryz.prog 79 0:=⟨FX⟩
instance:FcA Tryz.prog 79 1 3:=⟨FW⟩
instance:FcA Tryz.prog 79 3 11:=⟨kB⟩
instance:FcA Tryz.prog 79 4 12:=⟨Of⟩
instance:FcA Tryz.prog 79 9 17:=⟨FV⟩
instance:FcA0 Tryz.prog 82 0:=⟨Oe⟩
instance:FcA Tryz.prog 82 1 1:=⟨Od⟩
instance:FcA Tryz.prog 82 2 2:=⟨Oc⟩
instance:FcA Tryz.prog 84 2 4:=⟨Jf⟩
instance:FcA0 Tryz.prog 96 0:=⟨BU⟩
instance:FcA Tryz.prog 96 1 1:=⟨zA⟩
instance:FcA0 Tryz.prog 99 0:=⟨lq⟩
instance:FcA Tryz.prog 99 1 2:=⟨oI⟩
instance:FcA Tryz.prog 99 2 3:=⟨rD⟩
instance:FcA Tryz.prog 99 3 4:=⟨zz⟩
instance:FcA0 Tryz.prog 114 0:=⟨He⟩
instance:FcA Tryz.prog 114 1 1:=⟨zC⟩
instance:FcA Tryz.prog 114 2 4:=⟨vF⟩
instance:FcA Tryz.prog 114 3 5:=⟨Dy⟩
instance:FcA0 Tryz.prog 118 0:=⟨sO⟩
instance:FcA Tryz.prog 118 1 1:=⟨Dx⟩
instance:FcA0 Tryz.prog 147 0:=⟨Ml⟩
instance:FcA0 Tryz.prog 186 0:=⟨Hd⟩
instance:FcA Tryz.prog 186 1 2:=⟨Hc⟩
instance:FcA Tryz.prog 186 2 3:=⟨o4⟩
instance:FcA Tryz.prog 186 3 4:=⟨Mk⟩
instance:FcA Tryz.prog 186 4 5:=⟨Dw⟩
instance:FcA0 Tryz.prog 229 0:=⟨Hb⟩
instance:FcA Tryz.prog 229 1 2:=⟨zB⟩
instance:FcA Tryz.prog 229 2 3:=⟨Mj⟩
instance:FcA Tryz.prog 229 3 4:=⟨Dv⟩
theorem KT:Tryz.prog.eqGuardType Tryz.prog.depth 23=false:=by kernel_rfl
theorem Ox (x y:SR)(w:World):(Op.equalIn 10000 23 (.agg #[iV x.Kind,iV x.N,.string x.S]) (.agg #[iV y.Kind,iV y.N,.string y.S])).run Tryz.prog w=.ok (decide (x=y)) w:=by
 obtain ⟨xKind,xN,xS⟩:=x;obtain ⟨yKind,yN,yS⟩:=y;show (Op.equalIn 10000 23 (.agg #[iV xKind,iV xN,.string xS]) (.agg #[iV yKind,iV yN,.string yS])).run Tryz.prog w=_
 go_simp
 simp only [DL];by_cases h0:xKind=yKind<;>by_cases h1:xN=yN<;>by_cases h2:xS=yS<;>simp [h0,h1,h2]
theorem Mq {s:co}{C:World→Prop}{d:Option Nat}{ty u:TypeId}{pos:String}{af:Array Edge}{gd:Option (Nat×Bool)}{a b:Operand}{x y:SR}(hx:cm s a=some (.agg #[iV x.Kind,iV x.N,.string x.S]))(hy:cm s b=some (.agg #[iV y.Kind,iV y.N,.string y.S])):Ev Tryz.prog s C ⟨d,.binOp .eql 23 a b u,ty,pos,af,gd⟩ (.bool (decide (x=y))):=
 gz hx hy fun w=>by
  rw [Sem.run_bind,run_eqGuard_agg w _ _ _ _ _ _ KT];simp only [Result.andThen_ok];rw [run_eql_struct,Ox];rfl
theorem KS:Tryz.prog.eqGuardType Tryz.prog.depth 82=false:=by kernel_rfl
theorem Ow (x y:SN)(w:World):(Op.equalIn 10000 82 (.agg #[iV x.Kind,iV x.N,.string x.S]) (.agg #[iV y.Kind,iV y.N,.string y.S])).run Tryz.prog w=.ok (decide (x=y)) w:=by
 obtain ⟨xKind,xN,xS⟩:=x;obtain ⟨yKind,yN,yS⟩:=y;show (Op.equalIn 10000 82 (.agg #[iV xKind,iV xN,.string xS]) (.agg #[iV yKind,iV yN,.string yS])).run Tryz.prog w=_
 go_simp
 simp only [DL];by_cases h0:xKind=yKind<;>by_cases h1:xN=yN<;>by_cases h2:xS=yS<;>simp [h0,h1,h2]
theorem Mo {s:co}{C:World→Prop}{d:Option Nat}{ty u:TypeId}{pos:String}{af:Array Edge}{gd:Option (Nat×Bool)}{a b:Operand}{x y:SN}(hx:cm s a=some (.agg #[iV x.Kind,iV x.N,.string x.S]))(hy:cm s b=some (.agg #[iV y.Kind,iV y.N,.string y.S])):Ev Tryz.prog s C ⟨d,.binOp .eql 82 a b u,ty,pos,af,gd⟩ (.bool (decide (x=y))):=
 gz hx hy fun w=>by
  rw [Sem.run_bind,run_eqGuard_agg w _ _ _ _ _ _ KS];simp only [Result.andThen_ok];rw [run_eql_struct,Ow];rfl
theorem Mx (x y:SM)(w:World):(Op.equalIn 10000 202 ((Md x)) ((Md y))).run Tryz.prog w=.ok (decide (x=y)) w:=by
 obtain ⟨xup_,⟨xkey_Kind,xkey_N,xkey_S⟩,xattrs_⟩:=x;obtain ⟨yup_,⟨ykey_Kind,ykey_N,ykey_S⟩,yattrs_⟩:=y;show (Op.equalIn 10000 202 (.agg #[iV xup_,iV xkey_Kind,iV xkey_N,.string xkey_S,iV xattrs_]) (.agg #[iV yup_,iV ykey_Kind,iV ykey_N,.string ykey_S,iV yattrs_])).run Tryz.prog w=_
 go_simp
 simp only [DL];by_cases h0:xup_=yup_
 rotate_left
 ·simp [h0]
 by_cases h1:xkey_Kind=ykey_Kind
 rotate_left
 ·simp [h0,h1]
 by_cases h2:xkey_N=ykey_N
 rotate_left
 ·simp [h0,h1,h2]
 by_cases h3:xkey_S=ykey_S
 rotate_left
 ·simp [h0,h1,h2,h3]
 by_cases h4:xattrs_=yattrs_
 rotate_left
 ·simp [h0,h1,h2,h3,h4]
 simp [h0,h1,h2,h3,h4]
def bd (x:SM):Value:=.agg #[iV x.up_,iV x.key_.Kind,iV x.key_.N,.string x.key_.S,iV x.attrs_]
theorem Dh:KeyOk Tryz.prog 202 bd where
 und:=⟨_,Tryz.underlying202,fun a b=> .inl rfl⟩
 eq:=fun a b w=>Mx a b w
 check:=fun e a w=>by
  obtain ⟨xup_,⟨xkey_Kind,xkey_N,xkey_S⟩,xattrs_⟩:=a;kernel_rfl
 bits:=fun a=>by
  obtain ⟨xup_,⟨xkey_Kind,xkey_N,xkey_S⟩,xattrs_⟩:=a;simp [bd,Instr.sameBits,IF]
def dw (N:Nat)(a0:Int)(a1:Int)(a2:Int):Option Bool:=
 (bif decide (a1≤a0) then (some (decide (a0≤a2))) else (some false)).bind fun b1=>some b1
theorem eK {N:Nat}{a0:Int}{a1:Int}{a2:Int}{r:Bool}(h:dw N a0 a1 a2=some r):Okc Tryz.prog 74 [iV a0,iV a1,iV a2] ([]) (fun u post=>u=.bool r∧post=[]):=by
 refine bp Tryz.func74 J J ?_;simp only [aP];refine Y ?_;obtain ⟨b1,hb1,h⟩:=aa h;refine aO 4 14 b1 ?_ ?_
 ·clear h;refine aN 10 J (fun g1=> ?_) (fun g1=> ?_)
  ·have h:=ag g1 hb1;refine Y ?_;obtain rfl:=aq h;exact ae sA (cS [] 0)
  have h:=ah g1 hb1;refine Y ?_;obtain rfl:=aq h;exact ae sA (cS [] 0)
 refine Y ?_;obtain rfl:=aq h;exact aL J J (cS [] 0) ⟨J,J⟩
theorem dG {r:Bool}: ∀v post,((fun (u:Value) (post:List Chunk)=>u=.bool r∧post=[])) v post→ ∀c∈post,ce c:=by
 rintro _ _ ⟨rfl,rfl⟩;exact ac
def ov (N:Nat)(a0:SY):Option Bool:=
 (dw N a0.Way 0 1).bind fun y2=>(bif y2 then ((dw N a0.Steps 0 1073741824).bind fun y4=>some y4) else (some false)).bind fun b3=>(bif b3 then ((dw N a0.Calls 1 200).bind fun y6=>some y6) else (some false)).bind fun b5=>(bif b5 then ((dw N a0.Made 0 1048576).bind fun y8=>some y8) else (some false)).bind fun b7=>(bif b7 then ((dw N a0.Young 0 1073741824).bind fun y10=>some y10) else (some false)).bind fun b9=>(bif b9 then ((dw N a0.Full 0 1073741824).bind fun y12=>some y12) else (some false)).bind fun b11=>(bif b11 then ((dw N a0.Sites 0 4).bind fun y14=>some y14) else (some false)).bind fun b13=>some b13
set_option maxHeartbeats 4000000 in
theorem CC {N:Nat}{a0:SY}{r:Bool}(h:ov N a0=some r):Okc Tryz.prog 33 [(G6 a0)] ([]) (fun u post=>u=.bool r∧post=[]):=by
 refine bp Tryz.func33 J J ?_;simp only [aP];refine Y ?_;refine gD (bn J J) ?_;rintro _ _ ⟨B1,rfl,rfl⟩;refine Y ?_;obtain ⟨y2,hy2,h⟩:=aa h;refine gD (lj (eK hy2) yh J J J (ac) dG) ?_;rintro _ _ ⟨_,⟨rfl,rfl⟩,rfl⟩;refine Y ?_;obtain ⟨b3,hb3,h⟩:=aa h;refine aO 5 13 b3 ?_ ?_
 ·clear h;refine aN 8 J (fun g3=> ?_) (fun g3=> ?_)
  ·have h:=ag g3 hb3;refine Y ?_;obtain ⟨y4,hy4,h⟩:=aa h;refine dn (lj (eK hy4) yh J J J (ac) dG) J (bU g3 J) J ?_;rintro _ _ ⟨_,⟨rfl,rfl⟩,rfl⟩;refine Y ?_;obtain rfl:=aq h;exact ae sA (cS [0] 1)
  have h:=ah g3 hb3;refine Y ?_;obtain rfl:=aq h;exact ae sA (cS [0] 1)
 refine Y ?_;obtain ⟨b5,hb5,h⟩:=aa h;refine aO 5 19 b5 ?_ ?_
 ·clear h;refine aN 14 J (fun g5=> ?_) (fun g5=> ?_)
  ·have h:=ag g5 hb5;refine Y ?_;obtain ⟨y6,hy6,h⟩:=aa h;refine dn (lj (eK hy6) yh J J J (ac) dG) J (bU g5 J) J ?_;rintro _ _ ⟨_,⟨rfl,rfl⟩,rfl⟩;refine Y ?_;obtain rfl:=aq h;exact ae sA (cS [0] 1)
  have h:=ah g5 hb5;refine Y ?_;obtain rfl:=aq h;exact ae sA (cS [0] 1)
 refine Y ?_;obtain ⟨b7,hb7,h⟩:=aa h;refine aO 5 25 b7 ?_ ?_
 ·clear h;refine aN 20 J (fun g7=> ?_) (fun g7=> ?_)
  ·have h:=ag g7 hb7;refine Y ?_;obtain ⟨y8,hy8,h⟩:=aa h;refine dn (lj (eK hy8) yh J J J (ac) dG) J (bU g7 J) J ?_;rintro _ _ ⟨_,⟨rfl,rfl⟩,rfl⟩;refine Y ?_;obtain rfl:=aq h;exact ae sA (cS [0] 1)
  have h:=ah g7 hb7;refine Y ?_;obtain rfl:=aq h;exact ae sA (cS [0] 1)
 refine Y ?_;obtain ⟨b9,hb9,h⟩:=aa h;refine aO 5 31 b9 ?_ ?_
 ·clear h;refine aN 26 J (fun g9=> ?_) (fun g9=> ?_)
  ·have h:=ag g9 hb9;refine Y ?_;obtain ⟨y10,hy10,h⟩:=aa h;refine dn (lj (eK hy10) yh J J J (ac) dG) J (bU g9 J) J ?_;rintro _ _ ⟨_,⟨rfl,rfl⟩,rfl⟩;refine Y ?_;obtain rfl:=aq h;exact ae sA (cS [0] 1)
  have h:=ah g9 hb9;refine Y ?_;obtain rfl:=aq h;exact ae sA (cS [0] 1)
 refine Y ?_;obtain ⟨b11,hb11,h⟩:=aa h;refine aO 5 37 b11 ?_ ?_
 ·clear h;refine aN 32 J (fun g11=> ?_) (fun g11=> ?_)
  ·have h:=ag g11 hb11;refine Y ?_;obtain ⟨y12,hy12,h⟩:=aa h;refine dn (lj (eK hy12) yh J J J (ac) dG) J (bU g11 J) J ?_;rintro _ _ ⟨_,⟨rfl,rfl⟩,rfl⟩;refine Y ?_;obtain rfl:=aq h;exact ae sA (cS [0] 1)
  have h:=ah g11 hb11;refine Y ?_;obtain rfl:=aq h;exact ae sA (cS [0] 1)
 refine Y ?_;obtain ⟨b13,hb13,h⟩:=aa h;refine aO 5 43 b13 ?_ ?_
 ·clear h;refine aN 38 J (fun g13=> ?_) (fun g13=> ?_)
  ·have h:=ag g13 hb13;refine Y ?_;obtain ⟨y14,hy14,h⟩:=aa h;refine dn (lj (eK hy14) yh J J J (ac) dG) J (bU g13 J) J ?_;rintro _ _ ⟨_,⟨rfl,rfl⟩,rfl⟩;refine Y ?_;obtain rfl:=aq h;exact ae sA (cS [0] 1)
  have h:=ah g13 hb13;refine Y ?_;obtain rfl:=aq h;exact ae sA (cS [0] 1)
 refine Y ?_;obtain rfl:=aq h;exact aL J J (cS [] 1) ⟨J,J⟩
theorem Ad {r:Bool}: ∀v post,((fun (u:Value) (post:List Chunk)=>u=.bool r∧post=[])) v post→ ∀c∈post,ce c:=by
 rintro _ _ ⟨rfl,rfl⟩;exact ac
def yC (N:Nat):Option SW:=
 some (⟨([]:(List (Int×Bool)))⟩:SW)
theorem DV {N:Nat}{r:SW}(h:yC N=some r):Okc Tryz.prog 75 [] ([]) (fun u post=> ∃B0 M1,u=pV B0 0∧post=[am B0 147 [.map (some M1)],aK bR cG M1 r.at_]):=by
 refine bp Tryz.func75 J J ?_;simp only [aP];refine Y ?_;refine gD (qB (ek:=bR) (ev:=cG)) ?_;rintro _ _ ⟨M1,rfl,rfl⟩;refine gE (bo J (K7 _)) ?_;refine gD (bn J J) ?_;rintro _ _ ⟨B2,rfl,rfl⟩;refine Y ?_;obtain rfl:=aq h;exact aL J J (cS [0,1] 2) ⟨_,_,J,J⟩
def Dn (N:Nat):Option SS:=
 (yC N).bind fun y1=>some (⟨(⟨[],[]⟩:SP),[],[],y1⟩:SS)
theorem G1 {N:Nat}{r:SS}(h:Dn N=some r):Okc Tryz.prog 34 [] ([]) (fun u post=> ∃B0 A1 n1 c1 A2 n2 c2 A3 n3 c3 A4 n4 c4 B5 M6,u=pV B0 0∧post=[am B0 99 [U A1 n1 c1,U A2 n2 c2,U A3 n3 c3,U A4 n4 c4,pV B5 0],bS A1 n1 c1 r.m_.Young,bS A2 n2 c2 r.m_.Old,bf A3 n3 c3 r.roots_,bf A4 n4 c4 r.pending_,am B5 147 [.map (some M6)],aK bR cG M6 r.set_.at_]):=by
 refine bp Tryz.func34 J J ?_;simp only [aP];refine Y ?_;obtain ⟨y1,hy1,h⟩:=aa h;refine gD (aT (DV hy1) P8 J (aI [] [] [] 0 J)) ?_;rintro _ _ ⟨_,⟨B2,M3,rfl,rfl⟩,rfl⟩;refine gE (bo J (Nf _)) ?_;refine gD (bn J J) ?_;rintro _ _ ⟨B4,rfl,rfl⟩;refine Y ?_;obtain rfl:=aq h;exact aL J J ((cn eM 42 _).trans ((cn eM 42 _).trans ((cn bj 23 _).trans ((cn bj 23 _).trans (cS [4,3,2,1,0,5,6] 7))))) ⟨_,_,_,_,_,_,_,_,_,_,_,_,_,_,_,J,J⟩
def AU (N:Nat):Option Tb:=
 some (⟨([(⟨(-1),(⟨0,0,⟨#[]⟩⟩:SN),0,0⟩:SU)]:List SU),([]:(List (SM×Int)))⟩:Tb)
theorem Fj {N:Nat}{r:Tb}(h:AU N=some r):Okc Tryz.prog 35 [] ([]) (fun u post=> ∃B0 A1 n1 c1 M2,u=pV B0 0∧post=[am B0 118 [U A1 n1 c1,.map (some M2)],lH A1 n1 c1 r.shapes_,aK bd gc M2 r.next_]):=by
 refine bp Tryz.func35 J J ?_;simp only [aP];refine Y ?_;refine gE (bo J (K8 _)) ?_;refine gD (bJ (R:=dx) (vss:=[[iV (-1),iV 0,iV 0,.string (⟨#[]⟩),iV 0,iV 0]]) (xs:=[(⟨(-1),(⟨0,0,⟨#[]⟩⟩:SN),0,0⟩:SU)]) J (AJ _ _ _ _ _ _) J J (fun _ _ hr=> .cons J All2.nil)) ?_;rintro _ _ ⟨A1,n1,c1,rfl,rfl⟩;refine gD (qB (ek:=bd) (ev:=gc)) ?_;rintro _ _ ⟨M2,rfl,rfl⟩;refine gE (bo J (Hy _ _ _ _)) ?_;refine gD (bn J J) ?_;rintro _ _ ⟨B3,rfl,rfl⟩;refine Y ?_;obtain rfl:=aq h;exact aL J J (cS [0,2,1] 3) ⟨_,_,_,_,_,J,J⟩
def bm (N:Nat)(a0:SS):Option Bool:=
 some false
theorem cP {N:Nat}{a0:SS}{r:Bool}(h:bm N a0=some r):Okc Tryz.prog 49 [pV B1 0] ([aR B1 99 [U A2 n2 c2,U A3 n3 c3,U A4 n4 c4,U A5 n5 c5,pV B6 0],bB A2 n2 c2 a0.m_.Young,bB A3 n3 c3 a0.m_.Old,bE A4 n4 c4 a0.roots_,bE A5 n5 c5 a0.pending_,aR B6 147 [.map (some M7)],fh bR cG M7 a0.set_.at_]) (fun u post=>u=.bool r∧post=[]):=by
 refine bp Tryz.func49 J J ?_;simp only [aP];refine Y ?_;refine gE (cT J Tryz.underlying46) ?_;refine Y ?_;refine gR (ba 0 J J EE J) ?_;refine gE (cT J hU) ?_;refine Y ?_;obtain rfl:=aq h;exact aL J J (cS [] 7) ⟨J,J⟩
theorem cv {r:Bool}: ∀v post,((fun (u:Value) (post:List Chunk)=>u=.bool r∧post=[])) v post→ ∀c∈post,ce c:=by
 rintro _ _ ⟨rfl,rfl⟩;exact ac
def bX (N:Nat)(a0:SS)(a1:Int):Option SR:=
 (bm N a0).bind fun y9=>(bif y9 then (some true) else (some (decide (a1<0)))).bind fun b10=>(bif b10 then (some true) else (some (decide ((a0.roots_.length:Int)≤a1)))).bind fun b11=>bif b11 then (some (⟨0,0,⟨#[]⟩⟩:SR)) else ((aF a0.roots_ a1).bind fun x13=>some x13)
theorem cU {N:Nat}{a0:SS}{a1:Int}{r:SR}(h:bX N a0 a1=some r):Okc Tryz.prog 38 [pV B1 0,iV a1] ([aR B1 99 [U A2 n2 c2,U A3 n3 c3,U A4 n4 c4,U A5 n5 c5,pV B6 0],bB A2 n2 c2 a0.m_.Young,bB A3 n3 c3 a0.m_.Old,bE A4 n4 c4 a0.roots_,bE A5 n5 c5 a0.pending_,aR B6 147 [.map (some M7)],fh bR cG M7 a0.set_.at_]) (fun u post=>u=(fC r)∧post=[]):=by
 refine bp Tryz.func38 J J ?_;simp only [aP];refine Y ?_;refine gD (aE d7 J) ?_;rintro _ _ ⟨B8,rfl,rfl⟩;refine Y ?_;refine ax ?_;refine Y ?_;obtain ⟨y9,hy9,h⟩:=aa h;refine gD (ai (cP hy9) tI J (hJ (ab (i:=1) J J) (hJ (ab (i:=2) J J) (hJ (ab (i:=3) J J) (hJ (ab (i:=4) J J) (hJ (ab (i:=5) J J) (hJ (ab (i:=6) J J) (hJ (ab (i:=7) J J) ac))))))) cv) ?_;rintro _ _ ⟨_,⟨rfl,rfl⟩,rfl⟩;refine Y ?_;obtain ⟨b10,hb10,h⟩:=aa h;refine aO 3 10 b10 ?_ ?_
 ·clear h;refine aN 7 J (fun g10=> ?_) (fun g10=> ?_)
  ·have h:=ag g10 hb10;refine Y ?_;obtain rfl:=aq h;exact ae sA (cS [0,1,2,3,4,5,6,7] 8)
  have h:=ah g10 hb10;refine Y ?_;obtain rfl:=aq h;exact ae sA (cS [0,1,2,3,4,5,6,7] 8)
 refine Y ?_;obtain ⟨b11,hb11,h⟩:=aa h;refine aO 8 19 b11 ?_ ?_
 ·clear h;refine aN 11 J (fun g11=> ?_) (fun g11=> ?_)
  ·have h:=ag g11 hb11;refine Y ?_;obtain rfl:=aq h;exact ae sA (cS [0,1,2,3,4,5,6,7] 8)
  have h:=ah g11 hb11;refine Y ?_;refine cL (ba 1 J J dD J) J (eS g11 J) J ?_;refine cL (aU 4 J av J t0) J (eS g11 J) J ?_;refine Y ?_;obtain rfl:=aq h;exact ae sA (cS [0,1,2,3,4,5,6,7] 8)
 refine Y ?_;refine au J (fun g12=> ?_) (fun g12=> ?_)
 ·replace h:=ag g12 h;refine Y ?_;refine gE (bo J (wF)) ?_;refine gO (ao (us:=[iV 0,iV 0,.string (⟨#[]⟩)]) (cs':=[iV 0,iV 0,.string (⟨#[]⟩)]) 0 J J J J aS J J J) ?_;rintro _ _ rfl;refine Y ?_;obtain rfl:=aq h;exact db (rs:=[.cell 4 23]) (vs:=[.agg #[iV 0,iV 0,.string (⟨#[]⟩)]]) J (.cons (bT 0 J J bV) .nil) J (cS [] 8) ⟨J,J⟩
 replace h:=ah g12 h;refine Y ?_;refine gR (ba 1 J J dD J) ?_;refine Y ?_;obtain ⟨x13,hx13,h⟩:=aa h;obtain ⟨lx13,ux13,hx13⟩:=aA hx13;refine gR (aX 4 J av J J t0 aS lx13 ux13) ?_;refine gR (bG (us:=[iV x13.Kind,iV x13.N,.string x13.S]) 4 J av J hx13 bV (fun _ _ _ h=>by rw [show _=_ from h];rfl)) ?_;refine gO (ao (us:=[iV x13.Kind,iV x13.N,.string x13.S]) (cs':=[iV x13.Kind,iV x13.N,.string x13.S]) 0 J J J J aS J J J) ?_;rintro _ _ rfl;refine Y ?_;obtain rfl:=aq h;exact db (rs:=[.cell 4 23]) (vs:=[.agg #[iV x13.Kind,iV x13.N,.string x13.S]]) J (.cons (bT 0 J J bV) .nil) J (cS [] 8) ⟨J,J⟩
theorem cz {r:SR}: ∀v post,((fun (u:Value) (post:List Chunk)=>u=(fC r)∧post=[])) v post→ ∀c∈post,ce c:=by
 rintro _ _ ⟨rfl,rfl⟩;exact ac
def kc (N:Nat){σ:Type}(fy:(Bool×SR)→σ→Option (Bool×σ))(a1:Ta):Nat→Int→σ→Option σ
 |0,_,_=>none
 |m15+1,p16,p17=>bif decide (p16<(a1.More.length:Int)) then ((aF a1.More p16).bind fun x19=>(bif !decide (a1.Kind=8) then ((bif !decide (a1.Kind=10) then (some true) else (some (decide (p16.tmod 2=0)))).bind fun b22=>some b22) else (some false)).bind fun b21=>(fy (b21,x19) p17).bind fun y23=>bif !y23.1 then (some y23.2) else (bi (in64 (p16+1)) ((kc N fy a1 m15) (p16+1) y23.2))) else (some p17)
def qS (N:Nat){σ:Type}(fy:(Bool×SR)→σ→Option (Bool×σ))(a1:Ta)(p5:σ):Option σ:=
 kc N fy a1 N 0 p5
def jr (N:Nat){σ:Type}(fy:(Bool×SR)→σ→Option (Bool×σ))(a1:Ta):Nat→Int→σ→Option σ
 |0,_,_=>none
 |m6+1,p7,p8=>bif decide (p7<(a1.Slots.length:Int)) then ((aF a1.Slots p7).bind fun x10=>(fy (true,x10) p8).bind fun y12=>bif !y12.1 then (some y12.2) else (bi (in64 (p7+1)) ((jr N fy a1 m6) (p7+1) y12.2))) else (qS N fy a1 p8)
def lX (N:Nat){σ:Type}(a1:Ta)(fy:(Bool×SR)→σ→Option (Bool×σ))(s0:σ):Option σ:=
 jr N fy a1 N 0 s0
set_option maxHeartbeats 4000000 in
theorem vO {N:Nat}{σ:Type}{a1:Ta}{fy:(Bool×SR)→σ→Option (Bool×σ)}{s0:σ}{r:σ}(h:lX N a1 fy s0=some r){l:Nat}{G:σ→List Chunk}(hY:rJ Tryz.prog l G (fun x=> [.bool x.1,.agg #[iV x.2.Kind,iV x.2.N,.string x.2.S]]) fy):Okc Tryz.prog 156 [.func (.yield l) #[] #[],pV B1 0] (aR B1 42 [iV a1.Kind,iV a1.Shape,iV a1.Flags,iV a1.Age,U A2 n2 c2,U A3 n3 c3]::bE A2 n2 c2 a1.Slots::bE A3 n3 c3 a1.More::(G s0)) (fun u post=>u=.tuple #[]∧post=G r):=by
 refine bp Tryz.func156 J J ?_;simp only [aP];refine aM (fun s L=> ∃p5,qS N fy a1 p5=some r∧s=[(0,.func (.yield l) #[] #[]),(1,pV B1 0)]∧L=bE A2 n2 c2 a1.Slots::bE A3 n3 c3 a1.More::aR B1 42 [iV a1.Kind,iV a1.Shape,iV a1.Flags,iV a1.Age,U A2 n2 c2,U A3 n3 c3]::(G p5)) ?_ ?_
 ·refine Y ?_;refine gR (ba 0 J J dD J) ?_;refine gR (aU 1 J av J t0) ?_;refine Y ?_;refine bv (fun m s L=> ∃p7 p8,jr N fy a1 m p7 p8=some r∧s=[(0,.func (.yield l) #[] #[]),(1,pV B1 0),(9,U A2 n2 c2),(10,iV (a1.Slots.length:Int)),(11,iV p7)]∧L=bE A2 n2 c2 a1.Slots::bE A3 n3 c3 a1.More::aR B1 42 [iV a1.Kind,iV a1.Shape,iV a1.Flags,iV a1.Age,U A2 n2 c2,U A3 n3 c3]::(G p8)) N _ _ ⟨0,s0,h,J,J⟩ sA (cS [1,2,0] 3) ?_;rintro (_|m6) _ _ ⟨p7,p8,h,rfl,rfl⟩
  ·exact aG h
  rw [jr.eq_2] at h;refine Y ?_;refine ax ?_;refine au J (fun g9=> ?_) (fun g9=> ?_)
  ·replace h:=ag g9 h;refine Y ?_;refine ax ?_;refine Y ?_;obtain ⟨x10,hx10,h⟩:=aa h;obtain ⟨lx10,ux10,hx10⟩:=aA hx10;refine gR (aX 0 J av J J t0 aS lx10 ux10) ?_;refine gR (bG (us:=[iV x10.Kind,iV x10.N,.string x10.S]) 0 J av J hx10 bV (fun _ _ _ h=>by rw [show _=_ from h];rfl)) ?_;refine gD (aE d7 J) ?_;rintro _ _ ⟨B11,rfl,rfl⟩;refine gO (ao (us:=[iV x10.Kind,iV x10.N,.string x10.S]) (cs':=[iV x10.Kind,iV x10.N,.string x10.S]) 0 J J J J aS J J J) ?_;rintro _ _ rfl;refine Y ?_;refine gR (aD (us:=[iV x10.Kind,iV x10.N,.string x10.S]) 0 J J bV J) ?_;obtain ⟨y12,hy12,h⟩:=aa h;refine gD (wo (a:=(true,x10)) [am B11 23 [iV x10.Kind,iV x10.N,.string x10.S],bE A2 n2 c2 a1.Slots,bE A3 n3 c3 a1.More,aR B1 42 [iV a1.Kind,iV a1.Shape,iV a1.Flags,iV a1.Age,U A2 n2 c2,U A3 n3 c3]] hY hy12 J J) ?_;rintro _ _ ⟨rfl,rfl⟩;refine Y ?_;refine au J (fun g13=> ?_) (fun g13=> ?_)
   ·replace h:=ag g13 h;refine Y ?_;obtain rfl:=aq h;exact EY J (cS [] 4) ⟨J,J⟩
   replace h:=ah g13 h;refine Y ?_;obtain ⟨q14,h⟩:=ap h;refine gE (aW J J q14.1 q14.2) ?_;refine Y ?_;exact ⟨m6,_,_,Tk _,⟨p7+1,y12.2,h,J,J⟩,sA,cS [1,2,3] 4⟩
  replace h:=ah g9 h;refine Y ?_;exact ⟨_,_,⟨p8,h,J,J⟩,sA,cS [0,1,2] 3⟩
 rintro _ _ ⟨p5,h,rfl,rfl⟩;refine Y ?_;refine gR (ba 2 J J dD J) ?_;refine gR (aU 1 J av J t0) ?_;refine Y ?_;refine bv (fun m s L=> ∃p16 p17,kc N fy a1 m p16 p17=some r∧s=[(0,.func (.yield l) #[] #[]),(1,pV B1 0),(21,U A3 n3 c3),(22,iV (a1.More.length:Int)),(23,iV p16)]∧L=bE A3 n3 c3 a1.More::bE A2 n2 c2 a1.Slots::aR B1 42 [iV a1.Kind,iV a1.Shape,iV a1.Flags,iV a1.Age,U A2 n2 c2,U A3 n3 c3]::(G p17)) N _ _ ⟨0,p5,h,J,J⟩ sA (cS [1,0,2] 3) ?_;rintro (_|m15) _ _ ⟨p16,p17,h,rfl,rfl⟩
 ·exact aG h
 rw [kc.eq_2] at h;refine Y ?_;refine ax ?_;refine au J (fun g18=> ?_) (fun g18=> ?_)
 ·replace h:=ag g18 h;refine Y ?_;refine ax ?_;refine Y ?_;obtain ⟨x19,hx19,h⟩:=aa h;obtain ⟨lx19,ux19,hx19⟩:=aA hx19;refine gR (aX 0 J av J J t0 aS lx19 ux19) ?_;refine gR (bG (us:=[iV x19.Kind,iV x19.N,.string x19.S]) 0 J av J hx19 bV (fun _ _ _ h=>by rw [show _=_ from h];rfl)) ?_;refine gD (aE d7 J) ?_;rintro _ _ ⟨B20,rfl,rfl⟩;refine Y ?_;refine gO (ao (us:=[iV x19.Kind,iV x19.N,.string x19.S]) (cs':=[iV x19.Kind,iV x19.N,.string x19.S]) 0 J J J J aS J J J) ?_;rintro _ _ rfl;refine cp ?_;refine Y ?_;refine gR (ba 3 J J dy J) ?_;refine Y ?_;obtain ⟨b21,hb21,h⟩:=aa h;refine aO 9 40 b21 ?_ ?_
  ·clear h;refine aN 31 J (fun g21=> ?_) (fun g21=> ?_)
   ·have h:=ag g21 hb21;refine Y ?_;refine cL (ba 3 J J dy J) J (bU g21 J) J ?_;refine Y ?_;obtain ⟨b22,hb22,h⟩:=aa h;refine aO 4 39 b22 ?_ ?_
    ·clear h;refine aN 35 J (fun g22=> ?_) (fun g22=> ?_)
     ·have h:=ag g22 hb22;refine Y ?_;obtain rfl:=aq h;exact ae sA (cS [0,1,2,3] 4)
     have h:=ah g22 hb22;refine Y ?_;refine o8 (tx J J (by decide)) J (eS g22 J) J ?_;refine Y ?_;obtain rfl:=aq h;exact ae sA (cS [0,1,2,3] 4)
    refine Y ?_;obtain rfl:=aq h;exact ae sA (cS [0,1,2,3] 4)
   have h:=ah g21 hb21;refine Y ?_;obtain rfl:=aq h;exact ae sA (cS [0,1,2,3] 4)
  refine Y ?_;refine gR (aD (us:=[iV x19.Kind,iV x19.N,.string x19.S]) 0 J J bV J) ?_;obtain ⟨y23,hy23,h⟩:=aa h;refine gD (wo (a:=(b21,x19)) [am B20 23 [iV x19.Kind,iV x19.N,.string x19.S],bE A3 n3 c3 a1.More,bE A2 n2 c2 a1.Slots,aR B1 42 [iV a1.Kind,iV a1.Shape,iV a1.Flags,iV a1.Age,U A2 n2 c2,U A3 n3 c3]] hY hy23 J J) ?_;rintro _ _ ⟨rfl,rfl⟩;refine Y ?_;refine au J (fun g24=> ?_) (fun g24=> ?_)
  ·replace h:=ag g24 h;refine Y ?_;obtain rfl:=aq h;exact EY J (cS [] 4) ⟨J,J⟩
  replace h:=ah g24 h;refine Y ?_;obtain ⟨q25,h⟩:=ap h;refine gE (aW J J q25.1 q25.2) ?_;refine Y ?_;exact ⟨m15,_,_,Tk _,⟨p16+1,y23.2,h,J,J⟩,sA,cS [1,2,3] 4⟩
 replace h:=ah g18 h;refine Y ?_;obtain rfl:=aq h;exact jn J (cS [] 3) ⟨J,J⟩
def qT (N:Nat)(a0:Ta):Option Unit:=
 some ()
theorem Br {N:Nat}{a0:Ta}{r:Unit}(h:qT N a0=some r):Okc Tryz.prog 118 [.agg #[iV a0.Kind,iV a0.Shape,iV a0.Flags,iV a0.Age,U A1 n1 c1,U A2 n2 c2]] ([bE A1 n1 c1 a0.Slots,bE A2 n2 c2 a0.More]) (fun u post=> ∃B900,u=.func (.func 156) #[] #[pV B900 0]∧post=[am B900 42 [iV a0.Kind,iV a0.Shape,iV a0.Flags,iV a0.Age,U A1 n1 c1,U A2 n2 c2]]):=by
 refine bp Tryz.func118 J J ?_;simp only [aP];refine Y ?_;refine gD (bn J J) ?_;rintro _ _ ⟨B3,rfl,rfl⟩;refine Y ?_;refine gE (dZ J) ?_;refine Y ?_;obtain rfl:=aq h;exact aL J J (cS [0] 3) ⟨_,J,J⟩
theorem xy {a0:Ta}{A1:Option Addr}{n1:Nat}{c1:Nat}{A2:Option Addr}{n2:Nat}{c2:Nat}: ∀v post,((fun (u:Value) (post:List Chunk)=> ∃B900,u=.func (.func 156) #[] #[pV B900 0]∧post=[am B900 42 [iV a0.Kind,iV a0.Shape,iV a0.Flags,iV a0.Age,U A1 n1 c1,U A2 n2 c2]])) v post→ ∀c∈post,ce c:=by
 rintro _ _ ⟨_,rfl,rfl⟩;exact hJ o3 (ac)
def o5 (N:Nat)(a0:SR)(p10:Bool):Option Bool:=
 bif p10 then (some (decide (1≤a0.N))) else ((bif decide (a0.N=0) then (some (decide (0≤a0.Kind))) else (some false)).bind fun b14=>(bif b14 then (some (decide (a0.Kind≤9))) else (some false)).bind fun b15=>some b15)
def tG (N:Nat)(a0:SR):Option Bool:=
 bif decide (a0.Kind=5) then ((bif decide (a0.N=0) then (some (decide ((a0.S.size:Int)≤65536))) else (some false)).bind fun b3=>some b3) else (bif !(a0.S.toList==(⟨#[]⟩:ByteArray).toList) then (some false) else (bif decide (a0.Kind=2) then ((bif decide (a0.N=0) then (some true) else (some (decide (a0.N=1)))).bind fun b6=>some b6) else (bif decide (a0.Kind=3) then ((bif decide ((-9007199254740992)≤a0.N) then (some (decide (a0.N≤9007199254740992))) else (some false)).bind fun b8=>some b8) else (bif decide (a0.Kind=6) then (o5 N a0 (decide (a0.Kind=6))) else (bif decide (a0.Kind=7) then (o5 N a0 (decide (a0.Kind=7))) else (o5 N a0 (decide (a0.Kind=9))))))))
set_option maxHeartbeats 4000000 in
theorem Hr {N:Nat}{a0:SR}{r:Bool}(h:tG N a0=some r):Okc Tryz.prog 119 [(fC a0)] ([]) (fun u post=>u=.bool r∧post=[]):=by
 refine bp Tryz.func119 J J ?_;simp only [aP];refine Y ?_;refine gD (bn J J) ?_;rintro _ _ ⟨B1,rfl,rfl⟩;refine Y ?_;refine ax ?_;refine Y ?_;refine au J (fun g2=> ?_) (fun g2=> ?_)
 ·replace h:=ag g2 h;refine Y ?_;obtain ⟨b3,hb3,h⟩:=aa h;refine aO 5 14 b3 ?_ ?_
  ·clear h;refine aN 9 J (fun g3=> ?_) (fun g3=> ?_)
   ·have h:=ag g3 hb3;refine Y ?_;refine o8 (zH J t5) J (bU g3 J) J ?_;refine Y ?_;obtain rfl:=aq h;exact ae sA (cS [0] 1)
   have h:=ah g3 hb3;refine Y ?_;obtain rfl:=aq h;exact ae sA (cS [0] 1)
  refine Y ?_;obtain rfl:=aq h;exact aL J J (cS [] 1) ⟨J,J⟩
 replace h:=ah g2 h;refine Y ?_;refine ax ?_;refine Y ?_;refine gE (Mn J J) ?_;refine Y ?_;refine au J (fun g4=> ?_) (fun g4=> ?_)
 ·replace h:=ag g4 h;refine Y ?_;obtain rfl:=aq h;exact aL J J (cS [] 1) ⟨J,J⟩
 replace h:=ah g4 h;refine Y ?_;refine ax ?_;refine Y ?_;refine au J (fun g5=> ?_) (fun g5=> ?_)
 ·replace h:=ag g5 h;refine Y ?_;obtain ⟨b6,hb6,h⟩:=aa h;refine aO 4 29 b6 ?_ ?_
  ·clear h;refine aN 25 J (fun g6=> ?_) (fun g6=> ?_)
   ·have h:=ag g6 hb6;refine Y ?_;obtain rfl:=aq h;exact ae sA (cS [0] 1)
   have h:=ah g6 hb6;refine Y ?_;obtain rfl:=aq h;exact ae sA (cS [0] 1)
  refine Y ?_;obtain rfl:=aq h;exact aL J J (cS [] 1) ⟨J,J⟩
 replace h:=ah g5 h;refine Y ?_;refine au J (fun g7=> ?_) (fun g7=> ?_)
 ·replace h:=ag g7 h;refine Y ?_;obtain ⟨b8,hb8,h⟩:=aa h;refine aO 4 39 b8 ?_ ?_
  ·clear h;refine aN 35 J (fun g8=> ?_) (fun g8=> ?_)
   ·have h:=ag g8 hb8;refine Y ?_;obtain rfl:=aq h;exact ae sA (cS [0] 1)
   have h:=ah g8 hb8;refine Y ?_;obtain rfl:=aq h;exact ae sA (cS [0] 1)
  refine Y ?_;obtain rfl:=aq h;exact aL J J (cS [] 1) ⟨J,J⟩
 replace h:=ah g7 h;refine aM (fun s L=> ∃p10,o5 N a0 p10=some r∧s=[(1,pV B1 0),(2,.bool false),(40,.bool p10)]∧L=[am B1 23 (oG a0)]) ?_ ?_
 ·refine Y ?_;refine au J (fun g11=> ?_) (fun g11=> ?_)
  ·replace h:=ag g11 h;refine Y ?_;exact ⟨_,_,⟨decide (a0.Kind=6),h,J,J⟩,sA,cS [0] 1⟩
  replace h:=ah g11 h;refine Y ?_;refine au J (fun g12=> ?_) (fun g12=> ?_)
  ·replace h:=ag g12 h;refine Y ?_;exact ⟨_,_,⟨decide (a0.Kind=7),h,J,J⟩,sA,cS [0] 1⟩
  replace h:=ah g12 h;refine Y ?_;exact ⟨_,_,⟨decide (a0.Kind=9),h,J,J⟩,sA,cS [0] 1⟩
 rintro _ _ ⟨p10,h,rfl,rfl⟩;refine au J (fun g13=> ?_) (fun g13=> ?_)
 ·replace h:=ag g13 h;refine Y ?_;obtain rfl:=aq h;exact aL J J (cS [] 1) ⟨J,J⟩
 replace h:=ah g13 h;refine Y ?_;obtain ⟨b14,hb14,h⟩:=aa h;refine aO 4 54 b14 ?_ ?_
 ·clear h;refine aN 50 J (fun g14=> ?_) (fun g14=> ?_)
  ·have h:=ag g14 hb14;refine Y ?_;obtain rfl:=aq h;exact ae sA (cS [0] 1)
  have h:=ah g14 hb14;refine Y ?_;obtain rfl:=aq h;exact ae sA (cS [0] 1)
 refine Y ?_;obtain ⟨b15,hb15,h⟩:=aa h;refine aO 4 59 b15 ?_ ?_
 ·clear h;refine aN 55 J (fun g15=> ?_) (fun g15=> ?_)
  ·have h:=ag g15 hb15;refine Y ?_;obtain rfl:=aq h;exact ae sA (cS [0] 1)
  have h:=ah g15 hb15;refine Y ?_;obtain rfl:=aq h;exact ae sA (cS [0] 1)
 refine Y ?_;obtain rfl:=aq h;exact aL J J (cS [] 1) ⟨J,J⟩
theorem Ed {r:Bool}: ∀v post,((fun (u:Value) (post:List Chunk)=>u=.bool r∧post=[])) v post→ ∀c∈post,ce c:=by
 rintro _ _ ⟨rfl,rfl⟩;exact ac
def iJ (N:Nat)(p2:Bool):Option Bool:=
 bif p2 then (some true) else (some false)
def tH (N:Nat)(a0:Int):Option Bool:=
 bif decide (a0=1) then (iJ N (decide (a0=1))) else (bif decide (a0=2) then (iJ N (decide (a0=2))) else (bif decide (a0=3) then (iJ N (decide (a0=3))) else (bif decide (a0=6) then (iJ N (decide (a0=6))) else (bif decide (a0=8) then (iJ N (decide (a0=8))) else (bif decide (a0=9) then (iJ N (decide (a0=9))) else (iJ N (decide (a0=10))))))))
theorem Hs {N:Nat}{a0:Int}{r:Bool}(h:tH N a0=some r):Okc Tryz.prog 157 [iV a0] ([]) (fun u post=>u=.bool r∧post=[]):=by
 refine bp Tryz.func157 J J ?_;simp only [aP];refine Y ?_;refine ax ?_;refine Y ?_;refine aM (fun s L=> ∃p2,iJ N p2=some r∧s=[(2,.bool false),(4,.bool p2)]∧L=[]) ?_ ?_
 ·refine Y ?_;refine au J (fun g3=> ?_) (fun g3=> ?_)
  ·replace h:=ag g3 h;refine Y ?_;exact ⟨_,_,⟨decide (a0=1),h,J,J⟩,sA,cS [] 0⟩
  replace h:=ah g3 h;refine Y ?_;refine au J (fun g4=> ?_) (fun g4=> ?_)
  ·replace h:=ag g4 h;refine Y ?_;exact ⟨_,_,⟨decide (a0=2),h,J,J⟩,sA,cS [] 0⟩
  replace h:=ah g4 h;refine Y ?_;refine au J (fun g5=> ?_) (fun g5=> ?_)
  ·replace h:=ag g5 h;refine Y ?_;exact ⟨_,_,⟨decide (a0=3),h,J,J⟩,sA,cS [] 0⟩
  replace h:=ah g5 h;refine Y ?_;refine au J (fun g6=> ?_) (fun g6=> ?_)
  ·replace h:=ag g6 h;refine Y ?_;exact ⟨_,_,⟨decide (a0=6),h,J,J⟩,sA,cS [] 0⟩
  replace h:=ah g6 h;refine Y ?_;refine au J (fun g7=> ?_) (fun g7=> ?_)
  ·replace h:=ag g7 h;refine Y ?_;exact ⟨_,_,⟨decide (a0=8),h,J,J⟩,sA,cS [] 0⟩
  replace h:=ah g7 h;refine Y ?_;refine au J (fun g8=> ?_) (fun g8=> ?_)
  ·replace h:=ag g8 h;refine Y ?_;exact ⟨_,_,⟨decide (a0=9),h,J,J⟩,sA,cS [] 0⟩
  replace h:=ah g8 h;refine Y ?_;exact ⟨_,_,⟨decide (a0=10),h,J,J⟩,sA,cS [] 0⟩
 rintro _ _ ⟨p2,h,rfl,rfl⟩;refine au J (fun g9=> ?_) (fun g9=> ?_)
 ·replace h:=ag g9 h;refine Y ?_;obtain rfl:=aq h;exact aL J J (cS [] 0) ⟨J,J⟩
 replace h:=ah g9 h;refine Y ?_;obtain rfl:=aq h;exact aL J J (cS [] 0) ⟨J,J⟩
theorem Ee {r:Bool}: ∀v post,((fun (u:Value) (post:List Chunk)=>u=.bool r∧post=[])) v post→ ∀c∈post,ce c:=by
 rintro _ _ ⟨rfl,rfl⟩;exact ac
def gH (N:Nat)(a0:SR)(a1:Int):Option Bool:=
 (bif decide (a0.Kind=0) then (some true) else (some (decide (a0.Kind=a1)))).bind fun b2=>some b2
theorem jo {N:Nat}{a0:SR}{a1:Int}{r:Bool}(h:gH N a0 a1=some r):Okc Tryz.prog 158 [(fC a0),iV a1] ([]) (fun u post=>u=.bool r∧post=[]):=by
 refine bp Tryz.func158 J J ?_;simp only [aP];refine Y ?_;refine gD (bn J J) ?_;rintro _ _ ⟨B1,rfl,rfl⟩;refine Y ?_;obtain ⟨b2,hb2,h⟩:=aa h;refine aO 5 13 b2 ?_ ?_
 ·clear h;refine aN 8 J (fun g2=> ?_) (fun g2=> ?_)
  ·have h:=ag g2 hb2;refine Y ?_;obtain rfl:=aq h;exact ae sA (cS [0] 1)
  have h:=ah g2 hb2;refine Y ?_;obtain rfl:=aq h;exact ae sA (cS [0] 1)
 refine Y ?_;obtain rfl:=aq h;exact aL J J (cS [] 1) ⟨J,J⟩
theorem gQ {r:Bool}: ∀v post,((fun (u:Value) (post:List Chunk)=>u=.bool r∧post=[])) v post→ ∀c∈post,ce c:=by
 rintro _ _ ⟨rfl,rfl⟩;exact ac
def iI (N:Nat)(a0:Ta):Option Bool:=
 (tH N a0.Kind).bind fun y4=>(bif y4 then (some true) else ((bif decide (a0.Kind=7) then (some (decide (0<(a0.Slots.length:Int)))) else (some false)).bind fun b6=>some b6)).bind fun b5=>bif b5 then ((bif decide (1≤(a0.Slots.length:Int)) then (some (decide ((a0.Slots.length:Int)≤1025))) else (some false)).bind fun b8=>(bif b8 then ((aF a0.Slots 0).bind fun x10=>(bif decide (x10.Kind=1) then (some true) else ((aF a0.Slots 0).bind fun x12=>some (decide (x12.Kind=7)))).bind fun b11=>some b11) else (some false)).bind fun b9=>some b9) else (bif decide (a0.Kind=7) then (some (decide (a0.Shape=0))) else ((bif !decide (a0.Shape=0) then (some true) else (some (!decide (a0.Flags=0)))).bind fun b14=>bif b14 then (some false) else (bif decide (a0.Kind=5) then ((bif decide ((a0.Slots.length:Int)=2) then ((aF a0.Slots 0).bind fun x18=>(gH N x18 7).bind fun y19=>some y19) else (some false)).bind fun b17=>(bif b17 then ((aF a0.Slots 1).bind fun x21=>(gH N x21 7).bind fun y22=>some y22) else (some false)).bind fun b20=>some b20) else (some (decide ((a0.Slots.length:Int)=0))))))
set_option maxHeartbeats 4000000 in
theorem yf {N:Nat}{a0:Ta}{r:Bool}(h:iI N a0=some r):Okc Tryz.prog 120 [.agg #[iV a0.Kind,iV a0.Shape,iV a0.Flags,iV a0.Age,U A1 n1 c1,U A2 n2 c2]] ([bE A1 n1 c1 a0.Slots,bE A2 n2 c2 a0.More]) (fun u post=>u=.bool r∧post=[]):=by
 refine bp Tryz.func120 J J ?_;simp only [aP];refine Y ?_;refine gD (bn J J) ?_;rintro _ _ ⟨B3,rfl,rfl⟩;refine Y ?_;refine ax ?_;refine Y ?_;obtain ⟨y4,hy4,h⟩:=aa h;refine gD (ai (Hs hy4) OU J (ac) Ee) ?_;rintro _ _ ⟨_,⟨rfl,rfl⟩,rfl⟩;refine Y ?_;obtain ⟨b5,hb5,h⟩:=aa h;refine aO 10 16 b5 ?_ ?_
 ·clear h;refine aN 6 J (fun g5=> ?_) (fun g5=> ?_)
  ·have h:=ag g5 hb5;refine Y ?_;obtain rfl:=aq h;exact ae sA (cS [0,1,2] 3)
  have h:=ah g5 hb5;refine Y ?_;obtain ⟨b6,hb6,h⟩:=aa h;refine aO 5 15 b6 ?_ ?_
  ·clear h;refine aN 10 J (fun g6=> ?_) (fun g6=> ?_)
   ·have h:=ag g6 hb6;refine Y ?_;refine cL (aU 1 J av J t0) J (bU g6 J) J ?_;refine Y ?_;obtain rfl:=aq h;exact ae sA (cS [0,1,2] 3)
   have h:=ah g6 hb6;refine Y ?_;obtain rfl:=aq h;exact ae sA (cS [0,1,2] 3)
  refine Y ?_;obtain rfl:=aq h;exact ae sA (cS [0,1,2] 3)
 refine Y ?_;refine au J (fun g7=> ?_) (fun g7=> ?_)
 ·replace h:=ag g7 h;refine Y ?_;refine gR (aU 1 J av J t0) ?_;refine Y ?_;obtain ⟨b8,hb8,h⟩:=aa h;refine aO 5 26 b8 ?_ ?_
  ·clear h;refine aN 21 J (fun g8=> ?_) (fun g8=> ?_)
   ·have h:=ag g8 hb8;refine Y ?_;refine cL (aU 1 J av J t0) J (bU g8 J) J ?_;refine Y ?_;obtain rfl:=aq h;exact ae sA (cS [0,1,2] 3)
   have h:=ah g8 hb8;refine Y ?_;obtain rfl:=aq h;exact ae sA (cS [0,1,2] 3)
  refine Y ?_;obtain ⟨b9,hb9,h⟩:=aa h;refine aO 15 42 b9 ?_ ?_
  ·clear h;refine aN 27 J (fun g9=> ?_) (fun g9=> ?_)
   ·have h:=ag g9 hb9;refine Y ?_;obtain ⟨x10,hx10,h⟩:=aa h;obtain ⟨lx10,ux10,hx10⟩:=aA hx10;refine cL (aX 1 J av J J t0 aS lx10 ux10) J (bU g9 J) J ?_;refine cL (CI 1 J av J (fE lx10 ux10) oJ) J (bU g9 J) J ?_;refine cL (bH (u:=iV x10.Kind) 1 J av J hx10 dy (fun _ _ _ h=>by rw [show _=_ from h];rfl)) J (bU g9 J) J ?_;refine Y ?_;obtain ⟨b11,hb11,h⟩:=aa h;refine aO 7 41 b11 ?_ ?_
    ·clear h;refine aN 34 J (fun g11=> ?_) (fun g11=> ?_)
     ·have h:=ag g11 hb11;refine Y ?_;obtain rfl:=aq h;exact ae sA (cS [0,1,2] 3)
     have h:=ah g11 hb11;refine Y ?_;obtain ⟨x12,hx12,h⟩:=aa h;obtain ⟨lx12,ux12,hx12⟩:=aA hx12;refine cL (aX 1 J av J J t0 aS lx12 ux12) J (eS g11 J) J ?_;refine cL (CI 1 J av J (fE lx12 ux12) oJ) J (eS g11 J) J ?_;refine cL (bH (u:=iV x12.Kind) 1 J av J hx12 dy (fun _ _ _ h=>by rw [show _=_ from h];rfl)) J (eS g11 J) J ?_;refine Y ?_;obtain rfl:=aq h;exact ae sA (cS [0,1,2] 3)
    refine Y ?_;obtain rfl:=aq h;exact ae sA (cS [0,1,2] 3)
   have h:=ah g9 hb9;refine Y ?_;obtain rfl:=aq h;exact ae sA (cS [0,1,2] 3)
  refine Y ?_;obtain rfl:=aq h;exact aL J J (cS [] 3) ⟨J,J⟩
 replace h:=ah g7 h;refine Y ?_;refine ax ?_;refine Y ?_;refine au J (fun g13=> ?_) (fun g13=> ?_)
 ·replace h:=ag g13 h;refine Y ?_;obtain rfl:=aq h;exact aL J J (cS [] 3) ⟨J,J⟩
 replace h:=ah g13 h;refine Y ?_;refine ax ?_;refine Y ?_;obtain ⟨b14,hb14,h⟩:=aa h;refine aO 4 56 b14 ?_ ?_
 ·clear h;refine aN 52 J (fun g14=> ?_) (fun g14=> ?_)
  ·have h:=ag g14 hb14;refine Y ?_;obtain rfl:=aq h;exact ae sA (cS [0,1,2] 3)
  have h:=ah g14 hb14;refine Y ?_;obtain rfl:=aq h;exact ae sA (cS [0,1,2] 3)
 refine Y ?_;refine au J (fun g15=> ?_) (fun g15=> ?_)
 ·replace h:=ag g15 h;refine Y ?_;obtain rfl:=aq h;exact aL J J (cS [] 3) ⟨J,J⟩
 replace h:=ah g15 h;refine Y ?_;refine ax ?_;refine Y ?_;refine au J (fun g16=> ?_) (fun g16=> ?_)
 ·replace h:=ag g16 h;refine Y ?_;refine gR (aU 1 J av J t0) ?_;refine Y ?_;obtain ⟨b17,hb17,h⟩:=aa h;refine aO 6 70 b17 ?_ ?_
  ·clear h;refine aN 64 J (fun g17=> ?_) (fun g17=> ?_)
   ·have h:=ag g17 hb17;refine Y ?_;obtain ⟨x18,hx18,h⟩:=aa h;obtain ⟨lx18,ux18,hx18⟩:=aA hx18;refine cL (aX 1 J av J J t0 aS lx18 ux18) J (bU g17 J) J ?_;refine cL (bG (us:=[iV x18.Kind,iV x18.N,.string x18.S]) 1 J av J hx18 bV (fun _ _ _ h=>by rw [show _=_ from h];rfl)) J (bU g17 J) J ?_;obtain ⟨y19,hy19,h⟩:=aa h;refine dn (ai (jo hy19) wE J (ac) gQ) J (bU g17 J) J ?_;rintro _ _ ⟨_,⟨rfl,rfl⟩,rfl⟩;refine Y ?_;obtain rfl:=aq h;exact ae sA (cS [0,1,2] 3)
   have h:=ah g17 hb17;refine Y ?_;obtain rfl:=aq h;exact ae sA (cS [0,1,2] 3)
  refine Y ?_;obtain ⟨b20,hb20,h⟩:=aa h;refine aO 6 77 b20 ?_ ?_
  ·clear h;refine aN 71 J (fun g20=> ?_) (fun g20=> ?_)
   ·have h:=ag g20 hb20;refine Y ?_;obtain ⟨x21,hx21,h⟩:=aa h;obtain ⟨lx21,ux21,hx21⟩:=aA hx21;refine cL (aX 1 J av J J t0 aS lx21 ux21) J (bU g20 J) J ?_;refine cL (bG (us:=[iV x21.Kind,iV x21.N,.string x21.S]) 1 J av J hx21 bV (fun _ _ _ h=>by rw [show _=_ from h];rfl)) J (bU g20 J) J ?_;obtain ⟨y22,hy22,h⟩:=aa h;refine dn (ai (jo hy22) wE J (ac) gQ) J (bU g20 J) J ?_;rintro _ _ ⟨_,⟨rfl,rfl⟩,rfl⟩;refine Y ?_;obtain rfl:=aq h;exact ae sA (cS [0,1,2] 3)
   have h:=ah g20 hb20;refine Y ?_;obtain rfl:=aq h;exact ae sA (cS [0,1,2] 3)
  refine Y ?_;obtain rfl:=aq h;exact aL J J (cS [] 3) ⟨J,J⟩
 replace h:=ah g16 h;refine Y ?_;refine gR (aU 1 J av J t0) ?_;refine Y ?_;obtain rfl:=aq h;exact aL J J (cS [] 3) ⟨J,J⟩
theorem vN {r:Bool}: ∀v post,((fun (u:Value) (post:List Chunk)=>u=.bool r∧post=[])) v post→ ∀c∈post,ce c:=by
 rintro _ _ ⟨rfl,rfl⟩;exact ac
def gI (N:Nat)(a0:SR)(a1:Int)(a2:Int):Option Bool:=
 (bif decide (a0.Kind=3) then (some (decide (a1≤a0.N))) else (some false)).bind fun b2=>(bif b2 then (some (decide (a0.N≤a2))) else (some false)).bind fun b3=>some b3
theorem jp {N:Nat}{a0:SR}{a1:Int}{a2:Int}{r:Bool}(h:gI N a0 a1 a2=some r):Okc Tryz.prog 159 [(fC a0),iV a1,iV a2] ([]) (fun u post=>u=.bool r∧post=[]):=by
 refine bp Tryz.func159 J J ?_;simp only [aP];refine Y ?_;refine gD (bn J J) ?_;rintro _ _ ⟨B1,rfl,rfl⟩;refine Y ?_;obtain ⟨b2,hb2,h⟩:=aa h;refine aO 5 15 b2 ?_ ?_
 ·clear h;refine aN 10 J (fun g2=> ?_) (fun g2=> ?_)
  ·have h:=ag g2 hb2;refine Y ?_;obtain rfl:=aq h;exact ae sA (cS [0] 1)
  have h:=ah g2 hb2;refine Y ?_;obtain rfl:=aq h;exact ae sA (cS [0] 1)
 refine Y ?_;obtain ⟨b3,hb3,h⟩:=aa h;refine aO 5 21 b3 ?_ ?_
 ·clear h;refine aN 16 J (fun g3=> ?_) (fun g3=> ?_)
  ·have h:=ag g3 hb3;refine Y ?_;obtain rfl:=aq h;exact ae sA (cS [0] 1)
  have h:=ah g3 hb3;refine Y ?_;obtain rfl:=aq h;exact ae sA (cS [0] 1)
 refine Y ?_;obtain rfl:=aq h;exact aL J J (cS [] 1) ⟨J,J⟩
theorem gS {r:Bool}: ∀v post,((fun (u:Value) (post:List Chunk)=>u=.bool r∧post=[])) v post→ ∀c∈post,ce c:=by
 rintro _ _ ⟨rfl,rfl⟩;exact ac
def ir (N:Nat){σ:Type}(fy:(List SR)→σ→Option (Bool×σ))(a1:(List SR))(a2:Int):Nat→Int→σ→Option σ
 |0,_,_=>none
 |m4+1,p5,p6=>bif decide (p5<(a1.length:Int)) then (bi ((0:Int)≤p5∧p5.toNat≤a1.length∧a1.length≤a1.length) (bi (in64 (p5+(min a2 (((a1.drop p5.toNat).take (a1.length - p5.toNat)).length:Int)))) (bi (in64 (p5+(min a2 (((a1.drop p5.toNat).take (a1.length - p5.toNat)).length:Int)))) (bi ((0:Int)≤p5∧(0:Int)≤p5+(min a2 (((a1.drop p5.toNat).take (a1.length - p5.toNat)).length:Int))∧p5.toNat≤(p5+(min a2 (((a1.drop p5.toNat).take (a1.length - p5.toNat)).length:Int))).toNat∧(p5+(min a2 (((a1.drop p5.toNat).take (a1.length - p5.toNat)).length:Int))).toNat≤a1.length) ((fy ((a1.drop p5.toNat).take ((p5+(min a2 (((a1.drop p5.toNat).take (a1.length - p5.toNat)).length:Int))).toNat - p5.toNat)) p6).bind fun y14=>bif !y14.1 then (some y14.2) else (bi (in64 (p5+a2)) ((ir N fy a1 a2 m4) (p5+a2) y14.2))))))) else (some p6)
def qj (N:Nat){σ:Type}(a1:(List SR))(a2:Int)(fy:(List SR)→σ→Option (Bool×σ))(s0:σ):Option σ:=
 ir N fy a1 a2 N 0 s0
theorem By {N:Nat}{σ:Type}{a1:(List SR)}{a2:Int}{fy:(List SR)→σ→Option (Bool×σ)}{s0:σ}{r:σ}(h:qj N a1 a2 fy s0=some r){l:Nat}{G:σ→List Chunk}(hY:sR Tryz.prog l G (fun (x:(List SR)) vs cs=> ∃A0 n0 c0,vs=[U A0 n0 c0]∧cs=[bE A0 n0 c0 x]) fy):Okc Tryz.prog 206 [.func (.yield l) #[] #[],pV B1 0,pV B3 0] (aR B1 30 [U A2 n2 c2]::bE A2 n2 c2 a1::aR B3 3 [iV a2]::(G s0)) (fun u post=>u=.tuple #[]∧post=G r):=by
 refine bp Tryz.func206 J J ?_;simp only [aP];refine Y ?_;refine bv (fun m s L=> ∃p5 p6,ir N fy a1 a2 m p5 p6=some r∧s=[(0,.func (.yield l) #[] #[]),(1,pV B1 0),(2,pV B3 0),(4,iV p5)]∧L=bE A2 n2 c2 a1::aR B1 30 [U A2 n2 c2]::aR B3 3 [iV a2]::(G p6)) N _ _ ⟨0,s0,h,J,J⟩ sA (cS [1,0,2] 3) ?_;rintro (_|m4) _ _ ⟨p5,p6,h,rfl,rfl⟩
 ·exact aG h
 rw [ir.eq_2] at h;refine ax ?_;refine Y ?_;refine gR (ba 1 J J dD J) ?_;refine gR (aU 0 J av J t0) ?_;refine Y ?_;refine au J (fun g7=> ?_) (fun g7=> ?_)
 ·replace h:=ag g7 h;refine Y ?_;refine ax ?_;refine iK ?_;refine ax ?_;refine bN I _ (aj _) ?_;refine zR 0 J (ba 2 J J dy J) ?_;refine zR 1 J (ba 1 J J dD J) ?_;refine zE 2 J (aw J) ?_;obtain ⟨q8,h⟩:=ap h;refine AN 0 J (l:=p5.toNat) (h:=a1.length) q8.2.1 q8.2.2 ?_;rintro A9 n9 c9 e9;refine zR 3 J (yI 1 J e9 J t0 aS J (by rw [Int.toNat_of_nonneg q8.1];rfl) q8.2.1) ?_;refine zR 4 J (aU 0 J av J t0) ?_;refine zE 5 J (PU J J hP hP) ?_;refine zE 6 J (aC J) ?_;refine aZ I ?_;refine Y ?_;refine gR (ba 2 J J dD J) ?_;refine Y ?_;obtain ⟨q10,h⟩:=ap h;refine gE (aW J J q10.1 q10.2) ?_;refine Y ?_;obtain ⟨q11,h⟩:=ap h;refine gE (aW J J q11.1 q11.2) ?_;obtain ⟨q12,h⟩:=ap h;refine Nu 1 J (l:=p5.toNat) (h:=(p5+(min a2 (((a1.drop p5.toNat).take (a1.length - p5.toNat)).length:Int))).toNat) q12.2.2.1 q12.2.2.2 ?_;rintro A13 n13 c13 e13;refine gR (IX 2 J e13 J t0 aS J (by rw [Int.toNat_of_nonneg q12.1];rfl) (by rw [Int.toNat_of_nonneg q12.2.1];rfl) (by rw [Int.toNat_of_nonneg q12.2.1];rfl) q12.2.2.1 q12.2.2.2) ?_;obtain ⟨y14,hy14,h⟩:=aa h
  refine gD (EC (a:=(a1.drop p5.toNat).take ((p5+(min a2 (((a1.drop p5.toNat).take (a1.length - p5.toNat)).length:Int))).toNat - p5.toNat)) [bE A13 n13 c13 ((a1.drop p5.toNat).take ((p5+(min a2 (((a1.drop p5.toNat).take (a1.length - p5.toNat)).length:Int))).toNat - p5.toNat)),bE A9 n9 c9 ((a1.drop p5.toNat).take (a1.length - p5.toNat)),bE A2 n2 c2 a1,aR B1 30 [U A2 n2 c2],aR B3 3 [iV a2]] hY hy14 J J ⟨_,_,_,J,J⟩ (Iq 0 J J)) ?_;rintro _ _ ⟨rfl,rfl⟩;refine Y ?_;refine au J (fun g15=> ?_) (fun g15=> ?_)
  ·replace h:=ag g15 h;refine Y ?_;obtain rfl:=aq h;exact EY J (cS [] 5) ⟨J,J⟩
  replace h:=ah g15 h;refine Y ?_;refine gR (ba 4 J J dy J) ?_;obtain ⟨q16,h⟩:=ap h;refine gE (aW J J q16.1 q16.2) ?_;refine Y ?_;exact ⟨m4,_,_,Tk _,⟨p5+a2,y14.2,h,J,J⟩,sA,cS [2,3,4] 5⟩
 replace h:=ah g7 h;refine Y ?_;obtain rfl:=aq h;exact jn J (cS [] 3) ⟨J,J⟩
def jF (N:Nat)(a0:(List SR))(a1:Int):Option Unit:=
 bif decide (a1<1) then none else (some ())
theorem wM {N:Nat}{a0:(List SR)}{a1:Int}{r:Unit}(h:jF N a0 a1=some r):Okc Tryz.prog 188 [U A1 n1 c1,iV a1] ([bE A1 n1 c1 a0]) (fun u post=> ∃B900 B901,u=.func (.func 206) #[] #[pV B900 0,pV B901 0]∧post=[am B900 30 [U A1 n1 c1],am B901 3 [iV a1]]):=by
 refine bp Tryz.func188 J J ?_;simp only [aP];refine Y ?_;refine gD (bn J J) ?_;rintro _ _ ⟨B2,rfl,rfl⟩;refine gD (bn J J) ?_;rintro _ _ ⟨B3,rfl,rfl⟩;refine Y ?_;refine ax ?_;refine Y ?_;refine au J (fun g4=> ?_) (fun g4=> ?_)
 ·replace h:=ag g4 h;exact aG h
 replace h:=ah g4 h;refine Y ?_;refine gE (dZ J) ?_;refine Y ?_;obtain rfl:=aq h;exact aL J J (cS [1,0] 3) ⟨_,_,J,J⟩
theorem uq {a1:Int}{A1:Option Addr}{n1:Nat}{c1:Nat}: ∀v post,((fun (u:Value) (post:List Chunk)=> ∃B900 B901,u=.func (.func 206) #[] #[pV B900 0,pV B901 0]∧post=[am B900 30 [U A1 n1 c1],am B901 3 [iV a1]])) v post→ ∀c∈post,ce c:=by
 rintro _ _ ⟨_,_,rfl,rfl⟩;exact hJ o3 (hJ o3 (ac))
def cq (N:Nat)(a1:Int)(x9:(List SR)):(Unit)→Option (Option Exit×Unit)
 |()=>(aF x9 0).bind fun x12=>(bif !decide (x12.Kind=7) then (some true) else ((aF x9 1).bind fun x14=>some (decide (x14.Kind=8)))).bind fun b13=>bif b13 then (some (some .ret,())) else ((bif decide (a1=4) then ((aF x9 2).bind fun x17=>(gH N x17 7).bind fun y18=>(bif !y18 then (some true) else ((aF x9 3).bind fun x20=>(gI N x20 0 9007199254740992).bind fun y21=>some (!y21))).bind fun b19=>some b19) else (some false)).bind fun b16=>bif b16 then (some (some .ret,())) else (some (none,())))
def dL (N:Nat)(a0:(List SR))(a1:Int):Option Bool:=
 bi (a1≠0) (bif !decide ((a0.length:Int).tmod a1=0) then (some false) else ((jF N a0 a1).bind fun y6=>(qj N a0 a1 (cY (fun x st=>cq N a1 x st)) (none,())).bind fun y11=>nO y11.1 (some true) (some false) (fun _=>none)))
set_option maxHeartbeats 4000000 in
theorem o6 {N:Nat}{a0:(List SR)}{a1:Int}{r:Bool}(h:dL N a0 a1=some r):Okc Tryz.prog 160 [U A1 n1 c1,iV a1] ([bE A1 n1 c1 a0]) (fun u post=>u=.bool r∧post=[]):=by
 refine bp Tryz.func160 J J ?_;simp only [aP];refine Y ?_;refine gD (bn J J) ?_;rintro _ _ ⟨B2,rfl,rfl⟩;refine gD (aE Gi J) ?_;rintro _ _ ⟨B3,rfl,rfl⟩;refine Y ?_;refine ax ?_;refine Y ?_;refine gR (aU 2 J av J t0) ?_;refine Y ?_;obtain ⟨q4,h⟩:=ap h;refine gE (tx J J q4) ?_;refine Y ?_;refine au J (fun g5=> ?_) (fun g5=> ?_)
 ·replace h:=ag g5 h;refine Y ?_;refine gO (ao (us:=[.bool false]) (cs':=[.bool false]) 0 J J J J Cq J J J) ?_;rintro _ _ rfl;refine Y ?_;obtain rfl:=aq h;exact db (rs:=[.cell 4 4]) (vs:=[.bool false]) J (.cons (rk 0 J J H8) .nil) J (cS [] 3) ⟨J,J⟩
 replace h:=ah g5 h;refine Y ?_;refine ax ?_;refine Y ?_;obtain ⟨y6,hy6,h⟩:=aa h;refine gD (ai (wM hy6) OF J (hJ (ab (i:=2) J J) ac) uq) ?_;rintro _ _ ⟨_,⟨B7,B8,rfl,rfl⟩,rfl⟩;refine pI ?_;refine fb ?_;refine ik ?_ cB (gP 0 J);refine ik ?_ cB (gP 1 J);refine Eh ?_;obtain ⟨y11,hy11,h⟩:=aa h;refine E9 (R:=(fun (x:(List SR)) vs cs=> ∃A0 n0 c0,vs=[U A0 n0 c0]∧cs=[bE A0 n0 c0 x])) (fun x st=>cq N a1 x st) (fun (st:Unit) (mz:Unit)=> [am B2 3 [iV a1],am B3 4 [.bool false]]) [aR B7 30 [U A1 n1 c1],bE A1 n1 c1 a0,aR B8 3 [iV a1]] (()) (()) J J OA J (by rintro _ _ _ ⟨_,_,_,rfl,rfl⟩;rfl) (fun l G hY=>(By hy11 hY).mono fun _ _ hh=>hh.2) (aI [0,4,1] [] [3,2] 5 J) h ?_ ?_ ?_ ?_
 ·rintro l x9 _ je sr9 _ h _ _ ⟨A10,n10,c10,rfl,rfl⟩;replace h:cq N a1 x9 ()=some (je,sr9):=h;simp only [zJ,List.zip_cons_cons,List.zip_nil_left,List.zip_nil_right,List.reverse_cons,List.reverse_nil,List.nil_append,List.cons_append];refine Y ?_;refine ax ?_;refine Y ?_;obtain ⟨x12,hx12,h⟩:=aa h;obtain ⟨lx12,ux12,hx12⟩:=aA hx12;refine gR (aX 0 J av J J t0 aS lx12 ux12) ?_;refine gR (CI 0 J av J (fE lx12 ux12) oJ) ?_;refine gR (bH (u:=iV x12.Kind) 0 J av J hx12 dy (fun _ _ _ h=>by rw [show _=_ from h];rfl)) ?_;refine Y ?_;obtain ⟨b13,hb13,h⟩:=aa h;refine aO 6 26 b13 ?_ ?_
  ·clear h;refine aN 20 J (fun g13=> ?_) (fun g13=> ?_)
   ·have h:=ag g13 hb13;refine Y ?_;obtain rfl:=aq h;exact ae sA (cS [0,1,2] 3)
   have h:=ah g13 hb13;refine Y ?_;obtain ⟨x14,hx14,h⟩:=aa h;obtain ⟨lx14,ux14,hx14⟩:=aA hx14;refine cL (aX 0 J av J J t0 aS lx14 ux14) J (eS g13 J) J ?_;refine cL (CI 0 J av J (fE lx14 ux14) oJ) J (eS g13 J) J ?_;refine cL (bH (u:=iV x14.Kind) 0 J av J hx14 dy (fun _ _ _ h=>by rw [show _=_ from h];rfl)) J (eS g13 J) J ?_;refine Y ?_;obtain rfl:=aq h;exact ae sA (cS [0,1,2] 3)
  refine Y ?_;refine au J (fun g15=> ?_) (fun g15=> ?_)
  ·replace h:=ag g15 h;refine Y ?_;refine gO (ao (us:=[.bool false]) (cs':=[.bool false]) 2 J J J J Cq J J J) ?_;rintro _ _ rfl;refine Y ?_;obtain ⟨rfl,rfl⟩:=Prod.mk.inj (Option.some.inj h);exact II ((cS [1,2] 3).trans (fV () J))
  replace h:=ah g15 h;refine Y ?_;obtain ⟨b16,hb16,h⟩:=aa h;refine aO 13 42 b16 ?_ ?_
  ·clear h;refine aN 29 J (fun g16=> ?_) (fun g16=> ?_)
   ·have h:=ag g16 hb16;refine Y ?_;obtain ⟨x17,hx17,h⟩:=aa h;obtain ⟨lx17,ux17,hx17⟩:=aA hx17;refine cL (aX 0 J av J J t0 aS lx17 ux17) J (bU g16 J) J ?_;refine cL (bG (us:=[iV x17.Kind,iV x17.N,.string x17.S]) 0 J av J hx17 bV (fun _ _ _ h=>by rw [show _=_ from h];rfl)) J (bU g16 J) J ?_;obtain ⟨y18,hy18,h⟩:=aa h;refine dn (ai (jo hy18) wE J (ac) gQ) J (bU g16 J) J ?_;rintro _ _ ⟨_,⟨rfl,rfl⟩,rfl⟩;refine Y ?_;obtain ⟨b19,hb19,h⟩:=aa h;refine aO 6 41 b19 ?_ ?_
    ·clear h;refine aN 35 J (fun g19=> ?_) (fun g19=> ?_)
     ·have h:=ag g19 hb19;refine Y ?_;obtain rfl:=aq h;exact ae sA (cS [0,1,2] 3)
     have h:=ah g19 hb19;refine Y ?_;obtain ⟨x20,hx20,h⟩:=aa h;obtain ⟨lx20,ux20,hx20⟩:=aA hx20;refine cL (aX 0 J av J J t0 aS lx20 ux20) J (eS g19 J) J ?_;refine cL (bG (us:=[iV x20.Kind,iV x20.N,.string x20.S]) 0 J av J hx20 bV (fun _ _ _ h=>by rw [show _=_ from h];rfl)) J (eS g19 J) J ?_;obtain ⟨y21,hy21,h⟩:=aa h;refine dn (ai (jp hy21) wD J (ac) gS) J (eS g19 J) J ?_;rintro _ _ ⟨_,⟨rfl,rfl⟩,rfl⟩;refine Y ?_;obtain rfl:=aq h;exact ae sA (cS [0,1,2] 3)
    refine Y ?_;obtain rfl:=aq h;exact ae sA (cS [0,1,2] 3)
   have h:=ah g16 hb16;refine Y ?_;obtain rfl:=aq h;exact ae sA (cS [0,1,2] 3)
  refine Y ?_;refine au J (fun g22=> ?_) (fun g22=> ?_)
  ·replace h:=ag g22 h;refine Y ?_;refine gO (ao (us:=[.bool false]) (cs':=[.bool false]) 2 J J J J Cq J J J) ?_;rintro _ _ rfl;refine Y ?_;obtain ⟨rfl,rfl⟩:=Prod.mk.inj (Option.some.inj h);exact II ((cS [1,2] 3).trans (fV () J))
  replace h:=ah g22 h;refine Y ?_;obtain ⟨rfl,rfl⟩:=Prod.mk.inj (Option.some.inj h);exact BL ((cS [1,2] 3).trans (fV () J))
 ·rintro _ h;refine oM ([am B2 3 [iV a1],am B3 4 [.bool false]]) J ?_;refine Y ?_;refine gO (ao (us:=[.bool true]) (cs':=[.bool true]) 1 J J J J Cq J J J) ?_;rintro _ _ rfl;refine cp ?_;refine Y ?_;obtain rfl:=aq h;exact db (rs:=[.cell 4 4]) (vs:=[.bool true]) J (.cons (rk 1 J J H8) .nil) J (cS [] 2) ⟨J,J⟩
 ·rintro _ h;refine oM ([am B2 3 [iV a1],am B3 4 [.bool false]]) J ?_;refine Y ?_;obtain rfl:=aq h;exact db (rs:=[.cell 4 4]) (vs:=[.bool false]) J (.cons (rk 1 J J H8) .nil) J (cS [] 2) ⟨J,J⟩
 rintro i _ h;exact aG h
theorem nD {r:Bool}: ∀v post,((fun (u:Value) (post:List Chunk)=>u=.bool r∧post=[])) v post→ ∀c∈post,ce c:=by
 rintro _ _ ⟨rfl,rfl⟩;exact ac
def kE (N:Nat)(a0:Int)(a1:(List SR))(p5:Bool):Option Bool:=
 bif p5 then (some (decide ((a1.length:Int)=0))) else (bif decide (a0=3) then ((bif decide ((a1.length:Int)=3) then ((aF a1 0).bind fun x10=>(gI N x10 0 9007199254740992).bind fun y11=>some y11) else (some false)).bind fun b9=>(bif b9 then ((aF a1 1).bind fun x13=>(gH N x13 9).bind fun y14=>some y14) else (some false)).bind fun b12=>some b12) else (bif decide (a0=4) then ((bif decide (1≤(a1.length:Int)) then (some (decide ((a1.length:Int)≤4097))) else (some false)).bind fun b16=>(bif b16 then ((aF a1 0).bind fun x18=>(gH N x18 9).bind fun y19=>some y19) else (some false)).bind fun b17=>some b17) else (bif decide (a0=6) then ((bif decide ((a1.length:Int)=2) then ((aF a1 0).bind fun x22=>(gI N x22 0 3).bind fun y23=>some y23) else (some false)).bind fun b21=>(bif b21 then ((aF a1 1).bind fun x25=>(gH N x25 9).bind fun y26=>some y26) else (some false)).bind fun b24=>some b24) else (bif decide (a0=7) then ((bif decide (4≤(a1.length:Int)) then ((aF a1 2).bind fun x29=>(gI N x29 0 1).bind fun y30=>some y30) else (some false)).bind fun b28=>(bif b28 then ((aF a1 3).bind fun x32=>(gI N x32 0 9007199254740992).bind fun y33=>some y33) else (some false)).bind fun b31=>some b31) else (bif decide (a0=8) then ((dL N a1 2).bind fun y35=>some y35) else (bif decide (a0=10) then ((bif decide (1≤(a1.length:Int)) then ((aF a1 0).bind fun x38=>some (decide (x38.Kind=7))) else (some false)).bind fun b37=>(bif b37 then (bi ((0:Int)≤1∧(1:Int).toNat≤a1.length∧a1.length≤a1.length) ((dL N ((a1.drop ((1:Int).toNat)).take (a1.length - (1:Int).toNat)) 4).bind fun y42=>some y42)) else (some false)).bind fun b39=>some b39) else (bif decide (a0=9) then ((bif decide (2≤(a1.length:Int)) then ((aF a1 0).bind fun x45=>(gI N x45 0 2).bind fun y46=>some y46) else (some false)).bind fun b44=>some b44) else (some true))))))))
def jq (N:Nat)(a0:Int)(a1:(List SR)):Option Bool:=
 bif decide (1048576<(a1.length:Int)) then (some false) else (bif decide (a0=2) then (some (decide ((a1.length:Int)≤4096))) else (bif decide (a0=1) then (kE N a0 a1 (decide (a0=1))) else (kE N a0 a1 (decide (a0=5)))))
set_option maxHeartbeats 4000000 in
theorem zP {N:Nat}{a0:Int}{a1:(List SR)}{r:Bool}(h:jq N a0 a1=some r):Okc Tryz.prog 121 [iV a0,U A1 n1 c1] ([bE A1 n1 c1 a1]) (fun u post=>u=.bool r∧post=[]):=by
 refine bp Tryz.func121 J J ?_;simp only [aP];refine Y ?_;refine ax ?_;refine Y ?_;refine gR (aU 0 J av J t0) ?_;refine Y ?_;refine au J (fun g2=> ?_) (fun g2=> ?_)
 ·replace h:=ag g2 h;refine Y ?_;obtain rfl:=aq h;exact aL J J (cS [] 1) ⟨J,J⟩
 replace h:=ah g2 h;refine Y ?_;refine ax ?_;refine Y ?_;refine au J (fun g3=> ?_) (fun g3=> ?_)
 ·replace h:=ag g3 h;refine Y ?_;refine gR (aU 0 J av J t0) ?_;refine Y ?_;obtain rfl:=aq h;exact aL J J (cS [] 1) ⟨J,J⟩
 replace h:=ah g3 h;refine aM (fun s L=> ∃p5,kE N a0 a1 p5=some r∧s=[(1,U A1 n1 c1),(4,.bool false),(8,iV a0),(14,.bool p5)]∧L=[bE A1 n1 c1 a1]) ?_ ?_
 ·refine Y ?_;refine au J (fun g6=> ?_) (fun g6=> ?_)
  ·replace h:=ag g6 h;refine Y ?_;exact ⟨_,_,⟨decide (a0=1),h,J,J⟩,sA,cS [0] 1⟩
  replace h:=ah g6 h;refine Y ?_;exact ⟨_,_,⟨decide (a0=5),h,J,J⟩,sA,cS [0] 1⟩
 rintro _ _ ⟨p5,h,rfl,rfl⟩;refine au J (fun g7=> ?_) (fun g7=> ?_)
 ·replace h:=ag g7 h;refine Y ?_;refine gR (aU 0 J av J t0) ?_;refine Y ?_;obtain rfl:=aq h;exact aL J J (cS [] 1) ⟨J,J⟩
 replace h:=ah g7 h;refine Y ?_;refine au J (fun g8=> ?_) (fun g8=> ?_)
 ·replace h:=ag g8 h;refine Y ?_;refine gR (aU 0 J av J t0) ?_;refine Y ?_;obtain ⟨b9,hb9,h⟩:=aa h;refine aO 5 30 b9 ?_ ?_
  ·clear h;refine aN 25 J (fun g9=> ?_) (fun g9=> ?_)
   ·have h:=ag g9 hb9;refine Y ?_;obtain ⟨x10,hx10,h⟩:=aa h;obtain ⟨lx10,ux10,hx10⟩:=aA hx10;refine cL (aX 0 J av J J t0 aS lx10 ux10) J (bU g9 J) J ?_;refine cL (bG (us:=[iV x10.Kind,iV x10.N,.string x10.S]) 0 J av J hx10 bV (fun _ _ _ h=>by rw [show _=_ from h];rfl)) J (bU g9 J) J ?_;obtain ⟨y11,hy11,h⟩:=aa h;refine dn (ai (jp hy11) wD J (ac) gS) J (bU g9 J) J ?_;rintro _ _ ⟨_,⟨rfl,rfl⟩,rfl⟩;refine Y ?_;obtain rfl:=aq h;exact ae sA (cS [0] 1)
   have h:=ah g9 hb9;refine Y ?_;obtain rfl:=aq h;exact ae sA (cS [0] 1)
  refine Y ?_;obtain ⟨b12,hb12,h⟩:=aa h;refine aO 5 36 b12 ?_ ?_
  ·clear h;refine aN 31 J (fun g12=> ?_) (fun g12=> ?_)
   ·have h:=ag g12 hb12;refine Y ?_;obtain ⟨x13,hx13,h⟩:=aa h;obtain ⟨lx13,ux13,hx13⟩:=aA hx13;refine cL (aX 0 J av J J t0 aS lx13 ux13) J (bU g12 J) J ?_;refine cL (bG (us:=[iV x13.Kind,iV x13.N,.string x13.S]) 0 J av J hx13 bV (fun _ _ _ h=>by rw [show _=_ from h];rfl)) J (bU g12 J) J ?_;obtain ⟨y14,hy14,h⟩:=aa h;refine dn (ai (jo hy14) wE J (ac) gQ) J (bU g12 J) J ?_;rintro _ _ ⟨_,⟨rfl,rfl⟩,rfl⟩;refine Y ?_;obtain rfl:=aq h;exact ae sA (cS [0] 1)
   have h:=ah g12 hb12;refine Y ?_;obtain rfl:=aq h;exact ae sA (cS [0] 1)
  refine Y ?_;obtain rfl:=aq h;exact aL J J (cS [] 1) ⟨J,J⟩
 replace h:=ah g8 h;refine Y ?_;refine au J (fun g15=> ?_) (fun g15=> ?_)
 ·replace h:=ag g15 h;refine Y ?_;refine gR (aU 0 J av J t0) ?_;refine Y ?_;obtain ⟨b16,hb16,h⟩:=aa h;refine aO 4 46 b16 ?_ ?_
  ·clear h;refine aN 42 J (fun g16=> ?_) (fun g16=> ?_)
   ·have h:=ag g16 hb16;refine Y ?_;refine cL (aU 0 J av J t0) J (bU g16 J) J ?_;refine Y ?_;obtain rfl:=aq h;exact ae sA (cS [0] 1)
   have h:=ah g16 hb16;refine Y ?_;obtain rfl:=aq h;exact ae sA (cS [0] 1)
  refine Y ?_;obtain ⟨b17,hb17,h⟩:=aa h;refine aO 5 52 b17 ?_ ?_
  ·clear h;refine aN 47 J (fun g17=> ?_) (fun g17=> ?_)
   ·have h:=ag g17 hb17;refine Y ?_;obtain ⟨x18,hx18,h⟩:=aa h;obtain ⟨lx18,ux18,hx18⟩:=aA hx18;refine cL (aX 0 J av J J t0 aS lx18 ux18) J (bU g17 J) J ?_;refine cL (bG (us:=[iV x18.Kind,iV x18.N,.string x18.S]) 0 J av J hx18 bV (fun _ _ _ h=>by rw [show _=_ from h];rfl)) J (bU g17 J) J ?_;obtain ⟨y19,hy19,h⟩:=aa h;refine dn (ai (jo hy19) wE J (ac) gQ) J (bU g17 J) J ?_;rintro _ _ ⟨_,⟨rfl,rfl⟩,rfl⟩;refine Y ?_;obtain rfl:=aq h;exact ae sA (cS [0] 1)
   have h:=ah g17 hb17;refine Y ?_;obtain rfl:=aq h;exact ae sA (cS [0] 1)
  refine Y ?_;obtain rfl:=aq h;exact aL J J (cS [] 1) ⟨J,J⟩
 replace h:=ah g15 h;refine Y ?_;refine au J (fun g20=> ?_) (fun g20=> ?_)
 ·replace h:=ag g20 h;refine Y ?_;refine gR (aU 0 J av J t0) ?_;refine Y ?_;obtain ⟨b21,hb21,h⟩:=aa h;refine aO 5 63 b21 ?_ ?_
  ·clear h;refine aN 58 J (fun g21=> ?_) (fun g21=> ?_)
   ·have h:=ag g21 hb21;refine Y ?_;obtain ⟨x22,hx22,h⟩:=aa h;obtain ⟨lx22,ux22,hx22⟩:=aA hx22;refine cL (aX 0 J av J J t0 aS lx22 ux22) J (bU g21 J) J ?_;refine cL (bG (us:=[iV x22.Kind,iV x22.N,.string x22.S]) 0 J av J hx22 bV (fun _ _ _ h=>by rw [show _=_ from h];rfl)) J (bU g21 J) J ?_;obtain ⟨y23,hy23,h⟩:=aa h;refine dn (ai (jp hy23) wD J (ac) gS) J (bU g21 J) J ?_;rintro _ _ ⟨_,⟨rfl,rfl⟩,rfl⟩;refine Y ?_;obtain rfl:=aq h;exact ae sA (cS [0] 1)
   have h:=ah g21 hb21;refine Y ?_;obtain rfl:=aq h;exact ae sA (cS [0] 1)
  refine Y ?_;obtain ⟨b24,hb24,h⟩:=aa h;refine aO 5 69 b24 ?_ ?_
  ·clear h;refine aN 64 J (fun g24=> ?_) (fun g24=> ?_)
   ·have h:=ag g24 hb24;refine Y ?_;obtain ⟨x25,hx25,h⟩:=aa h;obtain ⟨lx25,ux25,hx25⟩:=aA hx25;refine cL (aX 0 J av J J t0 aS lx25 ux25) J (bU g24 J) J ?_;refine cL (bG (us:=[iV x25.Kind,iV x25.N,.string x25.S]) 0 J av J hx25 bV (fun _ _ _ h=>by rw [show _=_ from h];rfl)) J (bU g24 J) J ?_;obtain ⟨y26,hy26,h⟩:=aa h;refine dn (ai (jo hy26) wE J (ac) gQ) J (bU g24 J) J ?_;rintro _ _ ⟨_,⟨rfl,rfl⟩,rfl⟩;refine Y ?_;obtain rfl:=aq h;exact ae sA (cS [0] 1)
   have h:=ah g24 hb24;refine Y ?_;obtain rfl:=aq h;exact ae sA (cS [0] 1)
  refine Y ?_;obtain rfl:=aq h;exact aL J J (cS [] 1) ⟨J,J⟩
 replace h:=ah g20 h;refine Y ?_;refine au J (fun g27=> ?_) (fun g27=> ?_)
 ·replace h:=ag g27 h;refine Y ?_;refine gR (aU 0 J av J t0) ?_;refine Y ?_;obtain ⟨b28,hb28,h⟩:=aa h;refine aO 5 80 b28 ?_ ?_
  ·clear h;refine aN 75 J (fun g28=> ?_) (fun g28=> ?_)
   ·have h:=ag g28 hb28;refine Y ?_;obtain ⟨x29,hx29,h⟩:=aa h;obtain ⟨lx29,ux29,hx29⟩:=aA hx29;refine cL (aX 0 J av J J t0 aS lx29 ux29) J (bU g28 J) J ?_;refine cL (bG (us:=[iV x29.Kind,iV x29.N,.string x29.S]) 0 J av J hx29 bV (fun _ _ _ h=>by rw [show _=_ from h];rfl)) J (bU g28 J) J ?_;obtain ⟨y30,hy30,h⟩:=aa h;refine dn (ai (jp hy30) wD J (ac) gS) J (bU g28 J) J ?_;rintro _ _ ⟨_,⟨rfl,rfl⟩,rfl⟩;refine Y ?_;obtain rfl:=aq h;exact ae sA (cS [0] 1)
   have h:=ah g28 hb28;refine Y ?_;obtain rfl:=aq h;exact ae sA (cS [0] 1)
  refine Y ?_;obtain ⟨b31,hb31,h⟩:=aa h;refine aO 5 86 b31 ?_ ?_
  ·clear h;refine aN 81 J (fun g31=> ?_) (fun g31=> ?_)
   ·have h:=ag g31 hb31;refine Y ?_;obtain ⟨x32,hx32,h⟩:=aa h;obtain ⟨lx32,ux32,hx32⟩:=aA hx32;refine cL (aX 0 J av J J t0 aS lx32 ux32) J (bU g31 J) J ?_;refine cL (bG (us:=[iV x32.Kind,iV x32.N,.string x32.S]) 0 J av J hx32 bV (fun _ _ _ h=>by rw [show _=_ from h];rfl)) J (bU g31 J) J ?_;obtain ⟨y33,hy33,h⟩:=aa h;refine dn (ai (jp hy33) wD J (ac) gS) J (bU g31 J) J ?_;rintro _ _ ⟨_,⟨rfl,rfl⟩,rfl⟩;refine Y ?_;obtain rfl:=aq h;exact ae sA (cS [0] 1)
   have h:=ah g31 hb31;refine Y ?_;obtain rfl:=aq h;exact ae sA (cS [0] 1)
  refine Y ?_;obtain rfl:=aq h;exact aL J J (cS [] 1) ⟨J,J⟩
 replace h:=ah g27 h;refine Y ?_;refine au J (fun g34=> ?_) (fun g34=> ?_)
 ·replace h:=ag g34 h;refine Y ?_;obtain ⟨y35,hy35,h⟩:=aa h;refine gD (ai (o6 hy35) JE J (hJ (ab (i:=0) J J) ac) nD) ?_;rintro _ _ ⟨_,⟨rfl,rfl⟩,rfl⟩;refine Y ?_;obtain rfl:=aq h;exact aL J J (cS [] 1) ⟨J,J⟩
 replace h:=ah g34 h;refine Y ?_;refine au J (fun g36=> ?_) (fun g36=> ?_)
 ·replace h:=ag g36 h;refine Y ?_;refine gR (aU 0 J av J t0) ?_;refine Y ?_;obtain ⟨b37,hb37,h⟩:=aa h;refine aO 6 102 b37 ?_ ?_
  ·clear h;refine aN 96 J (fun g37=> ?_) (fun g37=> ?_)
   ·have h:=ag g37 hb37;refine Y ?_;obtain ⟨x38,hx38,h⟩:=aa h;obtain ⟨lx38,ux38,hx38⟩:=aA hx38;refine cL (aX 0 J av J J t0 aS lx38 ux38) J (bU g37 J) J ?_;refine cL (CI 0 J av J (fE lx38 ux38) oJ) J (bU g37 J) J ?_;refine cL (bH (u:=iV x38.Kind) 0 J av J hx38 dy (fun _ _ _ h=>by rw [show _=_ from h];rfl)) J (bU g37 J) J ?_;refine Y ?_;obtain rfl:=aq h;exact ae sA (cS [0] 1)
   have h:=ah g37 hb37;refine Y ?_;obtain rfl:=aq h;exact ae sA (cS [0] 1)
  refine Y ?_;obtain ⟨b39,hb39,h⟩:=aa h;refine aO 4 107 b39 ?_ ?_
  ·clear h;refine aN 103 J (fun g39=> ?_) (fun g39=> ?_)
   ·have h:=ag g39 hb39;refine Y ?_;obtain ⟨q40,h⟩:=ap h;refine Rm 0 J (l:=(1:Int).toNat) (h:=a1.length) q40.2.1 q40.2.2 ?_;rintro A41 n41 c41 e41;refine cL (yI 1 J e41 J t0 aS J (by rw [Int.toNat_of_nonneg q40.1];rfl) q40.2.1) J (bU g39 J) J ?_;obtain ⟨y42,hy42,h⟩:=aa h;refine dn (ai (o6 hy42) JE J (hJ (ab (i:=0) J J) ac) nD) J (bU g39 J) J ?_;rintro _ _ ⟨_,⟨rfl,rfl⟩,rfl⟩;refine Y ?_;obtain rfl:=aq h;exact ae sA (cS [1] 2)
   have h:=ah g39 hb39;refine Y ?_;obtain rfl:=aq h;exact ae sA (cS [0] 1)
  refine Y ?_;obtain rfl:=aq h;exact aL J J (cS [] 1) ⟨J,J⟩
 replace h:=ah g36 h;refine Y ?_;refine au J (fun g43=> ?_) (fun g43=> ?_)
 ·replace h:=ag g43 h;refine Y ?_;refine gR (aU 0 J av J t0) ?_;refine Y ?_;obtain ⟨b44,hb44,h⟩:=aa h;refine aO 5 118 b44 ?_ ?_
  ·clear h;refine aN 113 J (fun g44=> ?_) (fun g44=> ?_)
   ·have h:=ag g44 hb44;refine Y ?_;obtain ⟨x45,hx45,h⟩:=aa h;obtain ⟨lx45,ux45,hx45⟩:=aA hx45;refine cL (aX 0 J av J J t0 aS lx45 ux45) J (bU g44 J) J ?_;refine cL (bG (us:=[iV x45.Kind,iV x45.N,.string x45.S]) 0 J av J hx45 bV (fun _ _ _ h=>by rw [show _=_ from h];rfl)) J (bU g44 J) J ?_;obtain ⟨y46,hy46,h⟩:=aa h;refine dn (ai (jp hy46) wD J (ac) gS) J (bU g44 J) J ?_;rintro _ _ ⟨_,⟨rfl,rfl⟩,rfl⟩;refine Y ?_;obtain rfl:=aq h;exact ae sA (cS [0] 1)
   have h:=ah g44 hb44;refine Y ?_;obtain rfl:=aq h;exact ae sA (cS [0] 1)
  refine Y ?_;obtain rfl:=aq h;exact aL J J (cS [] 1) ⟨J,J⟩
 replace h:=ah g43 h;refine Y ?_;obtain rfl:=aq h;exact aL J J (cS [] 1) ⟨J,J⟩
theorem wZ {r:Bool}: ∀v post,((fun (u:Value) (post:List Chunk)=>u=.bool r∧post=[])) v post→ ∀c∈post,ce c:=by
 rintro _ _ ⟨rfl,rfl⟩;exact ac
end Go.Proofs.YtdcccmadhipinaaGreat