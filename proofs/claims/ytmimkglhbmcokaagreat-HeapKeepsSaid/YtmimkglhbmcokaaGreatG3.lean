/- Merged texts: part 3. No conditions of their own. -/
import Derived.Test.YtmimkglhbmcokaaGreatG2
import Derived.Test.YtmimkglhbmcokaaGreatChecked
import Derived.ProofKit
namespace Go.Proofs.YtmimkglhbmcokaaGreat
theorem QT:type_of% Tryz.underlying4:=Tryz.underlying4
theorem EM:type_of% Tryz.underlying77:=Tryz.underlying77
theorem Ex:type_of% Tryz.underlying47:=Tryz.underlying47
theorem z9:type_of% Tryz.underlying52:=Tryz.underlying52
theorem t9:type_of% Tryz.underlying9:=Tryz.underlying9
theorem t5:type_of% Tryz.underlying66:=Tryz.underlying66
theorem t0:type_of% Tryz.underlying24:=Tryz.underlying24
theorem hU:type_of% Tryz.underlying38:=Tryz.underlying38
theorem hP:type_of% Tryz.underlying71:=Tryz.underlying71
variable {A1 A2 A3 A4 A5:Option Addr} {B1 B3 B6 M7 c1 c2 c3 c4 c5 n1 n2 n3 n4 n5:Nat}
open Go.RowKit Asn
set_option maxRecDepth 20000
structure Rh where
 at_:(List (Int×Bool))
 deriving DecidableEq,Inhabited
structure Q5 where
 Kind:Int
 N:Int
 S:ByteArray
 deriving DecidableEq,Inhabited
def aS:Rep Q5:=.flat 3 (fun x=> [iV x.Kind,iV x.N,.string x.S]) (fun _=>rfl) (fun _=>rfl)
structure Ra where
 Kind:Int
 Shape:Int
 Flags:Int
 Age:Int
 Slots:(List Q5)
 More:(List Q5)
 deriving DecidableEq,Inhabited
def di:Rep Ra where
 sz:=6
 rel S w vs x:= ∃A4 n4 c4 A5 n5 c5,vs=[iV x.Kind,iV x.Shape,iV x.Flags,iV x.Age,O A4 n4 c4,O A5 n5 c5]∧SlR aS S w (O A4 n4 c4) x.Slots∧SlR aS S w (O A5 n5 c5) x.More
 loc:=fun h ⟨_,_,_,_,_,_,e,h4,h5⟩=>⟨_,_,_,_,_,_,e,h4.loc h,h5.loc h⟩
 mono:=fun h ⟨_,_,_,_,_,_,e,h4,h5⟩=>⟨_,_,_,_,_,_,e,h4.mono h,h5.mono h⟩
 len:=fun ⟨_,_,_,_,_,_,e,_⟩=>by rw [e];rfl
 one:=fun ⟨_,_,_,_,_,_,e,_⟩=>by rw [e];rfl
theorem dK (x:Ra):GW di x fun vs cs=> ∃A4 n4 c4 A5 n5 c5,vs=[iV x.Kind,iV x.Shape,iV x.Flags,iV x.Age,O A4 n4 c4,O A5 n5 c5]∧cs=[rx aS (O A4 n4 c4) x.Slots,rx aS (O A5 n5 c5) x.More]:=fun S w vs ⟨_,_,_,_,_,_,e,h4,h5⟩=>⟨_,⟨_,_,_,_,_,_,e,rfl⟩,hE h4 (hE h5 (ab))⟩
structure Rg where
 Young:(List Ra)
 Old:(List Ra)
 deriving DecidableEq,Inhabited
def Pz:Rep Rg where
 sz:=2
 rel S w vs x:= ∃A0 n0 c0 A1 n1 c1,vs=[O A0 n0 c0,O A1 n1 c1]∧SlR di S w (O A0 n0 c0) x.Young∧SlR di S w (O A1 n1 c1) x.Old
 loc:=fun h ⟨_,_,_,_,_,_,e,h0,h1⟩=>⟨_,_,_,_,_,_,e,h0.loc h,h1.loc h⟩
 mono:=fun h ⟨_,_,_,_,_,_,e,h0,h1⟩=>⟨_,_,_,_,_,_,e,h0.mono h,h1.mono h⟩
 len:=fun ⟨_,_,_,_,_,_,e,_⟩=>by rw [e];rfl
 one:=fun ⟨_,_,_,_,_,_,e,_⟩=>by rw [e];rfl
structure Re where
 m_:Rg
 roots_:(List Q5)
 pending_:(List Q5)
 set_:Rh
 deriving DecidableEq,Inhabited
structure Rf where
 Kind:Int
 N:Int
 C:Ra
 V:Q5
 deriving DecidableEq,Inhabited
def Hg:Rep Rf where
 sz:=11
 rel S w vs x:= ∃A6 n6 c6 A7 n7 c7,vs=[iV x.Kind,iV x.N,iV x.C.Kind,iV x.C.Shape,iV x.C.Flags,iV x.C.Age,O A6 n6 c6,O A7 n7 c7,iV x.V.Kind,iV x.V.N,.string x.V.S]∧SlR aS S w (O A6 n6 c6) x.C.Slots∧SlR aS S w (O A7 n7 c7) x.C.More
 loc:=fun h ⟨_,_,_,_,_,_,e,h6,h7⟩=>⟨_,_,_,_,_,_,e,h6.loc h,h7.loc h⟩
 mono:=fun h ⟨_,_,_,_,_,_,e,h6,h7⟩=>⟨_,_,_,_,_,_,e,h6.mono h,h7.mono h⟩
 len:=fun ⟨_,_,_,_,_,_,e,_⟩=>by rw [e];rfl
 one:=fun ⟨_,_,_,_,_,_,e,_⟩=>by rw [e];rfl
theorem Co (x:Rf):GW Hg x fun vs cs=> ∃A6 n6 c6 A7 n7 c7,vs=[iV x.Kind,iV x.N,iV x.C.Kind,iV x.C.Shape,iV x.C.Flags,iV x.C.Age,O A6 n6 c6,O A7 n7 c7,iV x.V.Kind,iV x.V.N,.string x.V.S]∧cs=[rx aS (O A6 n6 c6) x.C.Slots,rx aS (O A7 n7 c7) x.C.More]:=fun S w vs ⟨_,_,_,_,_,_,e,h6,h7⟩=>⟨_,⟨_,_,_,_,_,_,e,rfl⟩,hE h6 (hE h7 (ab))⟩
structure Q6 where
 m_:Rg
 kept_:(List Int)
 met_:(List Int)
 seen_:(List (Int×Bool))
 next_:Int
 deriving DecidableEq,Inhabited
structure Q4 where
 m_:Rg
 all_:(List Int)
 met_:(List (Int×Unit))
 done_:Int
 deriving DecidableEq,Inhabited
structure Rc where
 N:Int
 E:Int
 Ok:Bool
 C:Ra
 V:Q5
 L:(List Q5)
 deriving DecidableEq,Inhabited
def P1:Rep Rc where
 sz:=13
 rel S w vs x:= ∃A7 n7 c7 A8 n8 c8 A12 n12 c12,vs=[iV x.N,iV x.E,.bool x.Ok,iV x.C.Kind,iV x.C.Shape,iV x.C.Flags,iV x.C.Age,O A7 n7 c7,O A8 n8 c8,iV x.V.Kind,iV x.V.N,.string x.V.S,O A12 n12 c12]∧SlR aS S w (O A7 n7 c7) x.C.Slots∧SlR aS S w (O A8 n8 c8) x.C.More∧SlR aS S w (O A12 n12 c12) x.L
 loc:=fun h ⟨_,_,_,_,_,_,_,_,_,e,h7,h8,h12⟩=>⟨_,_,_,_,_,_,_,_,_,e,h7.loc h,h8.loc h,h12.loc h⟩
 mono:=fun h ⟨_,_,_,_,_,_,_,_,_,e,h7,h8,h12⟩=>⟨_,_,_,_,_,_,_,_,_,e,h7.mono h,h8.mono h,h12.mono h⟩
 len:=fun ⟨_,_,_,_,_,_,_,_,_,e,_⟩=>by rw [e];rfl
 one:=fun ⟨_,_,_,_,_,_,_,_,_,e,_⟩=>by rw [e];rfl
structure Q9 where
 M:Rg
 Order:(List Int)
 deriving DecidableEq,Inhabited
def P2:Rep Q9 where
 sz:=3
 rel S w vs x:= ∃A0 n0 c0 A1 n1 c1 A2 n2 c2,vs=[O A0 n0 c0,O A1 n1 c1,O A2 n2 c2]∧SlR di S w (O A0 n0 c0) x.M.Young∧SlR di S w (O A1 n1 c1) x.M.Old∧SlR (fP .i64) S w (O A2 n2 c2) x.Order
 loc:=fun h ⟨_,_,_,_,_,_,_,_,_,e,h0,h1,h2⟩=>⟨_,_,_,_,_,_,_,_,_,e,h0.loc h,h1.loc h,h2.loc h⟩
 mono:=fun h ⟨_,_,_,_,_,_,_,_,_,e,h0,h1,h2⟩=>⟨_,_,_,_,_,_,_,_,_,e,h0.mono h,h1.mono h,h2.mono h⟩
 len:=fun ⟨_,_,_,_,_,_,_,_,_,e,_⟩=>by rw [e];rfl
 one:=fun ⟨_,_,_,_,_,_,_,_,_,e,_⟩=>by rw [e];rfl
structure Rb where
 Kind:Int
 I:Int
 J:Int
 deriving DecidableEq,Inhabited
def P3:Rep Rb:=.flat 3 (fun x=> [iV x.Kind,iV x.I,iV x.J]) (fun _=>rfl) (fun _=>rfl)
abbrev bm (A:Option Addr)(n c:Nat):=rx aS (.slice A n c)
abbrev bz (A:Option Addr)(n c:Nat):=rx di (.slice A n c)
abbrev bG (A:Option Addr)(n c:Nat):=fi aS 52 (.slice A n c)
abbrev cA (A:Option Addr)(n c:Nat):=fi di 47 (.slice A n c)
abbrev db (A:Option Addr)(n c:Nat):=fi (fP .i64) 3 (.slice A n c)
abbrev dv (A:Option Addr)(n c:Nat):=rx (fP .i64) (.slice A n c)
theorem LT:aw Tryz.prog 14:=⟨Tryz.f14,Tryz.func14,rfl,rfl⟩
theorem HP:aw Tryz.prog 18:=⟨Tryz.f18,Tryz.func18,rfl,rfl⟩
theorem Pi:aw Tryz.prog 19:=⟨Tryz.f19,Tryz.func19,rfl,rfl⟩
theorem LS:aw Tryz.prog 20:=⟨Tryz.f20,Tryz.func20,rfl,rfl⟩
theorem LR:aw Tryz.prog 21:=⟨Tryz.f21,Tryz.func21,rfl,rfl⟩
theorem HO:aw Tryz.prog 22:=⟨Tryz.f22,Tryz.func22,rfl,rfl⟩
theorem LQ:aw Tryz.prog 23:=⟨Tryz.f23,Tryz.func23,rfl,rfl⟩
theorem xf:aw Tryz.prog 27:=⟨Tryz.f27,Tryz.func27,rfl,rfl⟩
theorem C3:aw Tryz.prog 28:=⟨Tryz.f28,Tryz.func28,rfl,rfl⟩
theorem HN:aw Tryz.prog 30:=⟨Tryz.f30,Tryz.func30,rfl,rfl⟩
theorem Fw:aw Tryz.prog 31:=⟨Tryz.f31,Tryz.func31,rfl,rfl⟩
theorem Ph:aw Tryz.prog 37:=⟨Tryz.f37,Tryz.func37,rfl,rfl⟩
theorem Pg:aw Tryz.prog 39:=⟨Tryz.f39,Tryz.func39,rfl,rfl⟩
theorem Pf:aw Tryz.prog 40:=⟨Tryz.f40,Tryz.func40,rfl,rfl⟩
theorem LP:aw Tryz.prog 44:=⟨Tryz.f44,Tryz.func44,rfl,rfl⟩
theorem LO:aw Tryz.prog 55:=⟨Tryz.f55,Tryz.func55,rfl,rfl⟩
theorem Pe:aw Tryz.prog 56:=⟨Tryz.f56,Tryz.func56,rfl,rfl⟩
theorem LN:aw Tryz.prog 57:=⟨Tryz.f57,Tryz.func57,rfl,rfl⟩
theorem LM:aw Tryz.prog 58:=⟨Tryz.f58,Tryz.func58,rfl,rfl⟩
theorem LL:aw Tryz.prog 59:=⟨Tryz.f59,Tryz.func59,rfl,rfl⟩
theorem Pd:aw Tryz.prog 60:=⟨Tryz.f60,Tryz.func60,rfl,rfl⟩
theorem Fv:aw Tryz.prog 61:=⟨Tryz.f61,Tryz.func61,rfl,rfl⟩
theorem Pc:aw Tryz.prog 62:=⟨Tryz.f62,Tryz.func62,rfl,rfl⟩
theorem Fu:aw Tryz.prog 66:=⟨Tryz.f66,Tryz.func66,rfl,rfl⟩
theorem Pb:aw Tryz.prog 67:=⟨Tryz.f67,Tryz.func67,rfl,rfl⟩
theorem LK:aw Tryz.prog 69:=⟨Tryz.f69,Tryz.func69,rfl,rfl⟩
theorem Pa:aw Tryz.prog 70:=⟨Tryz.f70,Tryz.func70,rfl,rfl⟩
theorem HM:aw Tryz.prog 71:=⟨Tryz.f71,Tryz.func71,rfl,rfl⟩
theorem LJ:aw Tryz.prog 72:=⟨Tryz.f72,Tryz.func72,rfl,rfl⟩
theorem nw:aw Tryz.prog 73:=⟨Tryz.f73,Tryz.func73,rfl,rfl⟩
theorem LI:aw Tryz.prog 74:=⟨Tryz.f74,Tryz.func74,rfl,rfl⟩
theorem qx:aw Tryz.prog 75:=⟨Tryz.f75,Tryz.func75,rfl,rfl⟩
theorem O9:aw Tryz.prog 76:=⟨Tryz.f76,Tryz.func76,rfl,rfl⟩
theorem O8:aw Tryz.prog 77:=⟨Tryz.f77,Tryz.func77,rfl,rfl⟩
theorem LH:aw Tryz.prog 78:=⟨Tryz.f78,Tryz.func78,rfl,rfl⟩
theorem O7:aw Tryz.prog 79:=⟨Tryz.f79,Tryz.func79,rfl,rfl⟩
theorem O6:aw Tryz.prog 80:=⟨Tryz.f80,Tryz.func80,rfl,rfl⟩
theorem LG:aw Tryz.prog 81:=⟨Tryz.f81,Tryz.func81,rfl,rfl⟩
theorem HL:aw Tryz.prog 82:=⟨Tryz.f82,Tryz.func82,rfl,rfl⟩
theorem LF:aw Tryz.prog 83:=⟨Tryz.f83,Tryz.func83,rfl,rfl⟩
theorem LE:aw Tryz.prog 84:=⟨Tryz.f84,Tryz.func84,rfl,rfl⟩
theorem uY:aw Tryz.prog 85:=⟨Tryz.f85,Tryz.func85,rfl,rfl⟩
theorem LD:aw Tryz.prog 86:=⟨Tryz.f86,Tryz.func86,rfl,rfl⟩
theorem uX:aw Tryz.prog 87:=⟨Tryz.f87,Tryz.func87,rfl,rfl⟩
theorem LC:aw Tryz.prog 90:=⟨Tryz.f90,Tryz.func90,rfl,rfl⟩
theorem tj:aw Tryz.prog 91:=⟨Tryz.f91,Tryz.func91,rfl,rfl⟩
theorem O5:aw Tryz.prog 92:=⟨Tryz.f92,Tryz.func92,rfl,rfl⟩
theorem zL:aw Tryz.prog 94:=⟨Tryz.f94,Tryz.func94,rfl,rfl⟩
theorem zK:aw Tryz.prog 95:=⟨Tryz.f95,Tryz.func95,rfl,rfl⟩
theorem xe:aw Tryz.prog 96:=⟨Tryz.f96,Tryz.func96,rfl,rfl⟩
theorem Ft:aw Tryz.prog 97:=⟨Tryz.f97,Tryz.func97,rfl,rfl⟩
theorem Oj:aw Tryz.prog 100:=⟨Tryz.f100,Tryz.func100,rfl,rfl⟩
theorem Oi:aw Tryz.prog 101:=⟨Tryz.f101,Tryz.func101,rfl,rfl⟩
theorem Oh:aw Tryz.prog 103:=⟨Tryz.f103,Tryz.func103,rfl,rfl⟩
theorem I3:aw Tryz.prog 105:=⟨Tryz.f105,Tryz.func105,rfl,rfl⟩
theorem FF:aw Tryz.prog 106:=⟨Tryz.f106,Tryz.func106,rfl,rfl⟩
theorem Og:aw Tryz.prog 107:=⟨Tryz.f107,Tryz.func107,rfl,rfl⟩
theorem Of:aw Tryz.prog 108:=⟨Tryz.f108,Tryz.func108,rfl,rfl⟩
theorem I2:aw Tryz.prog 109:=⟨Tryz.f109,Tryz.func109,rfl,rfl⟩
theorem Oe:aw Tryz.prog 110:=⟨Tryz.f110,Tryz.func110,rfl,rfl⟩
theorem Od:aw Tryz.prog 116:=⟨Tryz.f116,Tryz.func116,rfl,rfl⟩
theorem I1:aw Tryz.prog 117:=⟨Tryz.f117,Tryz.func117,rfl,rfl⟩
theorem I0:aw Tryz.prog 118:=⟨Tryz.f118,Tryz.func118,rfl,rfl⟩
theorem IZ:aw Tryz.prog 119:=⟨Tryz.f119,Tryz.func119,rfl,rfl⟩
theorem Bi:aw Tryz.prog 120:=⟨Tryz.f120,Tryz.func120,rfl,rfl⟩
theorem Oc:aw Tryz.prog 122:=⟨Tryz.f122,Tryz.func122,rfl,rfl⟩
theorem FE:aw Tryz.prog 130:=⟨Tryz.f130,Tryz.func130,rfl,rfl⟩
theorem Ob:aw Tryz.prog 131:=⟨Tryz.f131,Tryz.func131,rfl,rfl⟩
theorem Oa:aw Tryz.prog 133:=⟨Tryz.f133,Tryz.func133,rfl,rfl⟩
theorem N9:aw Tryz.prog 134:=⟨Tryz.f134,Tryz.func134,rfl,rfl⟩
theorem N8:aw Tryz.prog 135:=⟨Tryz.f135,Tryz.func135,rfl,rfl⟩
theorem FD:aw Tryz.prog 136:=⟨Tryz.f136,Tryz.func136,rfl,rfl⟩
theorem N7:aw Tryz.prog 137:=⟨Tryz.f137,Tryz.func137,rfl,rfl⟩
theorem IY:aw Tryz.prog 138:=⟨Tryz.f138,Tryz.func138,rfl,rfl⟩
theorem Bh:aw Tryz.prog 139:=⟨Tryz.f139,Tryz.func139,rfl,rfl⟩
theorem IX:aw Tryz.prog 140:=⟨Tryz.f140,Tryz.func140,rfl,rfl⟩
theorem FC:aw Tryz.prog 141:=⟨Tryz.f141,Tryz.func141,rfl,rfl⟩
theorem yL:aw Tryz.prog 142:=⟨Tryz.f142,Tryz.func142,rfl,rfl⟩
theorem yK:aw Tryz.prog 143:=⟨Tryz.f143,Tryz.func143,rfl,rfl⟩
theorem IW:aw Tryz.prog 144:=⟨Tryz.f144,Tryz.func144,rfl,rfl⟩
theorem N6:aw Tryz.prog 145:=⟨Tryz.f145,Tryz.func145,rfl,rfl⟩
theorem IV:aw Tryz.prog 146:=⟨Tryz.f146,Tryz.func146,rfl,rfl⟩
theorem FB:aw Tryz.prog 147:=⟨Tryz.f147,Tryz.func147,rfl,rfl⟩
theorem FA:aw Tryz.prog 148:=⟨Tryz.f148,Tryz.func148,rfl,rfl⟩
theorem IU:aw Tryz.prog 149:=⟨Tryz.f149,Tryz.func149,rfl,rfl⟩
theorem N5:aw Tryz.prog 150:=⟨Tryz.f150,Tryz.func150,rfl,rfl⟩
theorem rn:aw Tryz.prog 154:=⟨Tryz.f154,Tryz.func154,rfl,rfl⟩
theorem Bg:aw Tryz.prog 155:=⟨Tryz.f155,Tryz.func155,rfl,rfl⟩
theorem Bf:aw Tryz.prog 156:=⟨Tryz.f156,Tryz.func156,rfl,rfl⟩
theorem N4:aw Tryz.prog 157:=⟨Tryz.f157,Tryz.func157,rfl,rfl⟩
theorem N3:aw Tryz.prog 158:=⟨Tryz.f158,Tryz.func158,rfl,rfl⟩
theorem N2:aw Tryz.prog 159:=⟨Tryz.f159,Tryz.func159,rfl,rfl⟩
theorem N1:aw Tryz.prog 160:=⟨Tryz.f160,Tryz.func160,rfl,rfl⟩
theorem IT:aw Tryz.prog 161:=⟨Tryz.f161,Tryz.func161,rfl,rfl⟩
theorem N0:aw Tryz.prog 162:=⟨Tryz.f162,Tryz.func162,rfl,rfl⟩
theorem IS:aw Tryz.prog 163:=⟨Tryz.f163,Tryz.func163,rfl,rfl⟩
theorem NZ:aw Tryz.prog 164:=⟨Tryz.f164,Tryz.func164,rfl,rfl⟩
theorem IR:aw Tryz.prog 165:=⟨Tryz.f165,Tryz.func165,rfl,rfl⟩
theorem IQ:aw Tryz.prog 166:=⟨Tryz.f166,Tryz.func166,rfl,rfl⟩
theorem IP:aw Tryz.prog 167:=⟨Tryz.f167,Tryz.func167,rfl,rfl⟩
theorem IN:aw Tryz.prog 168:=⟨Tryz.f168,Tryz.func168,rfl,rfl⟩
theorem NY:aw Tryz.prog 169:=⟨Tryz.f169,Tryz.func169,rfl,rfl⟩
theorem NX:aw Tryz.prog 170:=⟨Tryz.f170,Tryz.func170,rfl,rfl⟩
theorem NW:aw Tryz.prog 171:=⟨Tryz.f171,Tryz.func171,rfl,rfl⟩
theorem NV:aw Tryz.prog 172:=⟨Tryz.f172,Tryz.func172,rfl,rfl⟩
theorem IM:aw Tryz.prog 173:=⟨Tryz.f173,Tryz.func173,rfl,rfl⟩
theorem NU:aw Tryz.prog 176:=⟨Tryz.f176,Tryz.func176,rfl,rfl⟩
theorem Fz:aw Tryz.prog 177:=⟨Tryz.f177,Tryz.func177,rfl,rfl⟩
theorem NT:aw Tryz.prog 178:=⟨Tryz.f178,Tryz.func178,rfl,rfl⟩
theorem IL:aw Tryz.prog 181:=⟨Tryz.f181,Tryz.func181,rfl,rfl⟩
theorem IK:aw Tryz.prog 182:=⟨Tryz.f182,Tryz.func182,rfl,rfl⟩
theorem NS:aw Tryz.prog 187:=⟨Tryz.f187,Tryz.func187,rfl,rfl⟩
theorem IJ:aw Tryz.prog 188:=⟨Tryz.f188,Tryz.func188,rfl,rfl⟩
theorem II:aw Tryz.prog 189:=⟨Tryz.f189,Tryz.func189,rfl,rfl⟩
theorem NR:aw Tryz.prog 190:=⟨Tryz.f190,Tryz.func190,rfl,rfl⟩
theorem NQ:aw Tryz.prog 191:=⟨Tryz.f191,Tryz.func191,rfl,rfl⟩
theorem NP:aw Tryz.prog 192:=⟨Tryz.f192,Tryz.func192,rfl,rfl⟩
theorem NO:aw Tryz.prog 193:=⟨Tryz.f193,Tryz.func193,rfl,rfl⟩
theorem NN:aw Tryz.prog 194:=⟨Tryz.f194,Tryz.func194,rfl,rfl⟩
theorem NM:aw Tryz.prog 195:=⟨Tryz.f195,Tryz.func195,rfl,rfl⟩
theorem IH:aw Tryz.prog 201:=⟨Tryz.f201,Tryz.func201,rfl,rfl⟩
theorem NL:aw Tryz.prog 202:=⟨Tryz.f202,Tryz.func202,rfl,rfl⟩
theorem NK:aw Tryz.prog 203:=⟨Tryz.f203,Tryz.func203,rfl,rfl⟩
theorem IG:aw Tryz.prog 204:=⟨Tryz.f204,Tryz.func204,rfl,rfl⟩
theorem NJ:aw Tryz.prog 205:=⟨Tryz.f205,Tryz.func205,rfl,rfl⟩
theorem NI:aw Tryz.prog 206:=⟨Tryz.f206,Tryz.func206,rfl,rfl⟩
theorem IF:aw Tryz.prog 207:=⟨Tryz.f207,Tryz.func207,rfl,rfl⟩
theorem NH:aw Tryz.prog 208:=⟨Tryz.f208,Tryz.func208,rfl,rfl⟩
theorem IE:aw Tryz.prog 209:=⟨Tryz.f209,Tryz.func209,rfl,rfl⟩
theorem Be:aw Tryz.prog 210:=⟨Tryz.f210,Tryz.func210,rfl,rfl⟩
theorem ID:aw Tryz.prog 211:=⟨Tryz.f211,Tryz.func211,rfl,rfl⟩
theorem NG:aw Tryz.prog 212:=⟨Tryz.f212,Tryz.func212,rfl,rfl⟩
theorem NF:aw Tryz.prog 213:=⟨Tryz.f213,Tryz.func213,rfl,rfl⟩
theorem Fy:aw Tryz.prog 214:=⟨Tryz.f214,Tryz.func214,rfl,rfl⟩
theorem NE:aw Tryz.prog 219:=⟨Tryz.f219,Tryz.func219,rfl,rfl⟩
theorem ND:aw Tryz.prog 220:=⟨Tryz.f220,Tryz.func220,rfl,rfl⟩
theorem IC:aw Tryz.prog 221:=⟨Tryz.f221,Tryz.func221,rfl,rfl⟩
theorem IB:aw Tryz.prog 222:=⟨Tryz.f222,Tryz.func222,rfl,rfl⟩
theorem IA:aw Tryz.prog 223:=⟨Tryz.f223,Tryz.func223,rfl,rfl⟩
theorem NC:aw Tryz.prog 224:=⟨Tryz.f224,Tryz.func224,rfl,rfl⟩
theorem vP:aw Tryz.prog 225:=⟨Tryz.f225,Tryz.func225,rfl,rfl⟩
theorem vO:aw Tryz.prog 226:=⟨Tryz.f226,Tryz.func226,rfl,rfl⟩
theorem Iz:aw Tryz.prog 227:=⟨Tryz.f227,Tryz.func227,rfl,rfl⟩
theorem Iy:aw Tryz.prog 239:=⟨Tryz.f239,Tryz.func239,rfl,rfl⟩
theorem NB:aw Tryz.prog 240:=⟨Tryz.f240,Tryz.func240,rfl,rfl⟩
theorem NA:aw Tryz.prog 241:=⟨Tryz.f241,Tryz.func241,rfl,rfl⟩
theorem Nz:aw Tryz.prog 242:=⟨Tryz.f242,Tryz.func242,rfl,rfl⟩
theorem vN:aw Tryz.prog 243:=⟨Tryz.f243,Tryz.func243,rfl,rfl⟩
theorem vM:aw Tryz.prog 244:=⟨Tryz.f244,Tryz.func244,rfl,rfl⟩
theorem Ix:aw Tryz.prog 245:=⟨Tryz.f245,Tryz.func245,rfl,rfl⟩
theorem Ny:aw Tryz.prog 246:=⟨Tryz.f246,Tryz.func246,rfl,rfl⟩
theorem Iw:aw Tryz.prog 254:=⟨Tryz.f254,Tryz.func254,rfl,rfl⟩
theorem Nx:aw Tryz.prog 255:=⟨Tryz.f255,Tryz.func255,rfl,rfl⟩
theorem Iv:aw Tryz.prog 261:=⟨Tryz.f261,Tryz.func261,rfl,rfl⟩
theorem Nw:aw Tryz.prog 265:=⟨Tryz.f265,Tryz.func265,rfl,rfl⟩
theorem tc (b o:Nat)(w:World):(Instr.fieldAt 36 (pV b o) 0).run Tryz.prog w=.ok (pV b o) w:=by kernel_rfl
theorem rj (b o:Nat)(w:World):(Instr.fieldAt 36 (pV b o) 1).run Tryz.prog w=.ok (.pointer (some ⟨b,o+1,none⟩)) w:=by kernel_rfl
theorem Ns (b o:Nat)(w:World):(Instr.fieldAt 47 (pV b o) 0).run Tryz.prog w=.ok (pV b o) w:=by kernel_rfl
theorem Nr (b o:Nat)(w:World):(Instr.fieldAt 47 (pV b o) 1).run Tryz.prog w=.ok (.pointer (some ⟨b,o+1,none⟩)) w:=by kernel_rfl
theorem Nq (b o:Nat)(w:World):(Instr.fieldAt 47 (pV b o) 2).run Tryz.prog w=.ok (.pointer (some ⟨b,o+2,none⟩)) w:=by kernel_rfl
theorem yx (b o:Nat)(w:World):(Instr.fieldAt 47 (pV b o) 3).run Tryz.prog w=.ok (.pointer (some ⟨b,o+3,none⟩)) w:=by kernel_rfl
theorem vK (b o:Nat)(w:World):(Instr.fieldAt 47 (pV b o) 4).run Tryz.prog w=.ok (.pointer (some ⟨b,o+4,none⟩)) w:=by kernel_rfl
theorem iE (b o:Nat)(w:World):(Instr.fieldAt 47 (pV b o) 5).run Tryz.prog w=.ok (.pointer (some ⟨b,o+5,none⟩)) w:=by kernel_rfl
theorem fw (b o:Nat)(w:World):(Instr.fieldAt 52 (pV b o) 0).run Tryz.prog w=.ok (pV b o) w:=by kernel_rfl
theorem i4 (b o:Nat)(w:World):(Instr.fieldAt 52 (pV b o) 1).run Tryz.prog w=.ok (.pointer (some ⟨b,o+1,none⟩)) w:=by kernel_rfl
theorem Fn (b o:Nat)(w:World):(Instr.fieldAt 52 (pV b o) 2).run Tryz.prog w=.ok (.pointer (some ⟨b,o+2,none⟩)) w:=by kernel_rfl
theorem Np (b o:Nat)(w:World):(Instr.fieldAt 74 (pV b o) 0).run Tryz.prog w=.ok (pV b o) w:=by kernel_rfl
theorem Nn (b o:Nat)(w:World):(Instr.fieldAt 74 (pV b o) 1).run Tryz.prog w=.ok (.pointer (some ⟨b,o+1,none⟩)) w:=by kernel_rfl
theorem Nm (b o:Nat)(w:World):(Instr.fieldAt 74 (pV b o) 2).run Tryz.prog w=.ok (.pointer (some ⟨b,o+2,none⟩)) w:=by kernel_rfl
theorem Nl (b o:Nat)(w:World):(Instr.fieldAt 74 (pV b o) 3).run Tryz.prog w=.ok (.pointer (some ⟨b,o+3,none⟩)) w:=by kernel_rfl
theorem Nk (b o:Nat)(w:World):(Instr.fieldAt 74 (pV b o) 4).run Tryz.prog w=.ok (.pointer (some ⟨b,o+9,none⟩)) w:=by kernel_rfl
theorem Nj (b o:Nat)(w:World):(Instr.fieldAt 74 (pV b o) 5).run Tryz.prog w=.ok (.pointer (some ⟨b,o+12,none⟩)) w:=by kernel_rfl
theorem Ni (b o:Nat)(w:World):(Instr.fieldAt 77 (pV b o) 0).run Tryz.prog w=.ok (pV b o) w:=by kernel_rfl
theorem Nh (b o:Nat)(w:World):(Instr.fieldAt 77 (pV b o) 1).run Tryz.prog w=.ok (.pointer (some ⟨b,o+1,none⟩)) w:=by kernel_rfl
theorem Fm (b o:Nat)(w:World):(Instr.fieldAt 77 (pV b o) 2).run Tryz.prog w=.ok (.pointer (some ⟨b,o+2,none⟩)) w:=by kernel_rfl
theorem Ng (b o:Nat)(w:World):(Instr.fieldAt 77 (pV b o) 3).run Tryz.prog w=.ok (.pointer (some ⟨b,o+8,none⟩)) w:=by kernel_rfl
theorem iD (b o:Nat)(w:World):(Instr.fieldAt 86 (pV b o) 0).run Tryz.prog w=.ok (pV b o) w:=by kernel_rfl
theorem nl (b o:Nat)(w:World):(Instr.fieldAt 86 (pV b o) 1).run Tryz.prog w=.ok (.pointer (some ⟨b,o+2,none⟩)) w:=by kernel_rfl
theorem ri (b o:Nat)(w:World):(Instr.fieldAt 86 (pV b o) 2).run Tryz.prog w=.ok (.pointer (some ⟨b,o+3,none⟩)) w:=by kernel_rfl
theorem tb (b o:Nat)(w:World):(Instr.fieldAt 86 (pV b o) 3).run Tryz.prog w=.ok (.pointer (some ⟨b,o+4,none⟩)) w:=by kernel_rfl
theorem sy (b o:Nat)(w:World):(Instr.fieldAt 103 (pV b o) 0).run Tryz.prog w=.ok (pV b o) w:=by kernel_rfl
theorem qm (b o:Nat)(w:World):(Instr.fieldAt 103 (pV b o) 1).run Tryz.prog w=.ok (.pointer (some ⟨b,o+2,none⟩)) w:=by kernel_rfl
theorem Gz (b o:Nat)(w:World):(Instr.fieldAt 128 (pV b o) 0).run Tryz.prog w=.ok (pV b o) w:=by kernel_rfl
theorem yy (b o:Nat)(w:World):(Instr.fieldAt 128 (pV b o) 1).run Tryz.prog w=.ok (.pointer (some ⟨b,o+2,none⟩)) w:=by kernel_rfl
theorem Lo (b o:Nat)(w:World):(Instr.fieldAt 128 (pV b o) 2).run Tryz.prog w=.ok (.pointer (some ⟨b,o+3,none⟩)) w:=by kernel_rfl
theorem CR (b o:Nat)(w:World):(Instr.fieldAt 128 (pV b o) 3).run Tryz.prog w=.ok (.pointer (some ⟨b,o+4,none⟩)) w:=by kernel_rfl
theorem Gy (b o:Nat)(w:World):(Instr.fieldAt 153 (pV b o) 0).run Tryz.prog w=.ok (pV b o) w:=by kernel_rfl
theorem Gx (b o:Nat)(w:World):(Instr.fieldAt 153 (pV b o) 1).run Tryz.prog w=.ok (.pointer (some ⟨b,o+2,none⟩)) w:=by kernel_rfl
theorem oI (b o:Nat)(w:World):(Instr.fieldAt 153 (pV b o) 2).run Tryz.prog w=.ok (.pointer (some ⟨b,o+3,none⟩)) w:=by kernel_rfl
theorem Ln (b o:Nat)(w:World):(Instr.fieldAt 153 (pV b o) 3).run Tryz.prog w=.ok (.pointer (some ⟨b,o+4,none⟩)) w:=by kernel_rfl
theorem CQ (b o:Nat)(w:World):(Instr.fieldAt 153 (pV b o) 4).run Tryz.prog w=.ok (.pointer (some ⟨b,o+5,none⟩)) w:=by kernel_rfl
theorem Lm (b o:Nat)(w:World):(Instr.fieldAt 157 (pV b o) 0).run Tryz.prog w=.ok (pV b o) w:=by kernel_rfl
theorem cZ:kl Tryz.prog 3=true:=by kernel_rfl
theorem Gc:kl Tryz.prog 4=true:=by kernel_rfl
theorem ON:kl Tryz.prog 9=true:=by kernel_rfl
theorem iR:kl Tryz.prog 23=true:=by kernel_rfl
theorem Gd:kl Tryz.prog 24=true:=by kernel_rfl
theorem kQ:kl Tryz.prog 34=true:=by kernel_rfl
theorem dE:kl Tryz.prog 38=true:=by kernel_rfl
theorem Ae:kl Tryz.prog 66=true:=by kernel_rfl
theorem PB:kl Tryz.prog 97=true:=by kernel_rfl
theorem OP:kl Tryz.prog 126=true:=by kernel_rfl
theorem OO:kl Tryz.prog 129=true:=by kernel_rfl
theorem zo:kl Tryz.prog 137=true:=by kernel_rfl
theorem Hs:kl Tryz.prog 151=true:=by kernel_rfl
theorem cJ:wj Tryz.prog 36 2=true:=by kernel_rfl
theorem be:wj Tryz.prog 47 6=true:=by kernel_rfl
theorem bW:wj Tryz.prog 52 3=true:=by kernel_rfl
theorem OD:wj Tryz.prog 74 13=true:=by kernel_rfl
theorem PT:wj Tryz.prog 77 11=true:=by kernel_rfl
theorem xg:wj Tryz.prog 103 3=true:=by kernel_rfl
theorem dh:eI Tryz.prog 3 1=true:=by kernel_rfl
theorem wo:eI Tryz.prog 4 1=true:=by kernel_rfl
theorem rz:eI Tryz.prog 23 1=true:=by kernel_rfl
theorem EO:eI Tryz.prog 30 1=true:=by kernel_rfl
theorem ry:eI Tryz.prog 34 1=true:=by kernel_rfl
theorem ea:eI Tryz.prog 36 2=true:=by kernel_rfl
theorem du:eI Tryz.prog 38 1=true:=by kernel_rfl
theorem bx:eI Tryz.prog 47 6=true:=by kernel_rfl
theorem aP:eI Tryz.prog 52 3=true:=by kernel_rfl
theorem OJ:eI Tryz.prog 74 13=true:=by kernel_rfl
theorem G8:eI Tryz.prog 77 11=true:=by kernel_rfl
theorem EP:eI Tryz.prog 103 3=true:=by kernel_rfl
theorem MC:eI Tryz.prog 129 1=true:=by kernel_rfl
theorem MB:eI Tryz.prog 137 1=true:=by kernel_rfl
theorem MA:eI Tryz.prog 151 1=true:=by kernel_rfl
theorem H6:eI Tryz.prog 210 0=true:=by kernel_rfl
theorem HW (w:World):(zeroValue 3).run Tryz.prog w=.ok (iV 0) w:=by kernel_rfl
theorem FM (w:World):(zeroValue 4).run Tryz.prog w=.ok (.bool false) w:=by kernel_rfl
theorem GY (w:World):(zeroValue 23).run Tryz.prog w=.ok (O none 0 0) w:=by kernel_rfl
theorem lD (w:World):(zeroValue 36).run Tryz.prog w=.ok (.agg #[O none 0 0,O none 0 0]) w:=by kernel_rfl
theorem Kt (w:World):(zeroValue 38).run Tryz.prog w=.ok (O none 0 0) w:=by kernel_rfl
theorem dy (w:World):(zeroValue 47).run Tryz.prog w=.ok (.agg #[iV 0,iV 0,iV 0,iV 0,O none 0 0,O none 0 0]) w:=by kernel_rfl
theorem ki (w:World):(zeroValue 52).run Tryz.prog w=.ok (.agg #[iV 0,iV 0,.string ⟨#[]⟩]) w:=by kernel_rfl
theorem Ks (w:World):(zeroValue 74).run Tryz.prog w=.ok (.agg #[iV 0,iV 0,.bool false,iV 0,iV 0,iV 0,iV 0,O none 0 0,O none 0 0,iV 0,iV 0,.string ⟨#[]⟩,O none 0 0]) w:=by kernel_rfl
theorem ED (w:World):(zeroValue 103).run Tryz.prog w=.ok (.agg #[O none 0 0,O none 0 0,O none 0 0]) w:=by kernel_rfl
theorem Ms (w:World):(zeroValue 129).run Tryz.prog w=.ok (.pointer none) w:=by kernel_rfl
theorem Mr (w:World):(zeroValue 137).run Tryz.prog w=.ok (.map none) w:=by kernel_rfl
theorem Mq (w:World):(zeroValue 151).run Tryz.prog w=.ok (.map none) w:=by kernel_rfl
theorem AV (w:World):(zeroValue 210).run Tryz.prog w=.ok (.agg #[]) w:=by kernel_rfl
theorem Lk (x0_:Int)(x1_:Int)(x2_:Int)(x3_:Int)(x4_a:Option Addr)(x4_n x4_c:Nat)(x5_a:Option Addr)(x5_n x5_c:Nat)(w:World):(Instr.field 47 (.agg #[iV x0_,iV x1_,iV x2_,iV x3_,.slice x4_a x4_n x4_c,.slice x5_a x5_n x5_c]) 3).run Tryz.prog w=.ok (iV x3_) w:=by kernel_rfl
theorem Lj (x0_:Int)(x1_:Int)(x2_:Int)(x3_:Int)(x4_a:Option Addr)(x4_n x4_c:Nat)(x5_a:Option Addr)(x5_n x5_c:Nat)(w:World):(Instr.field 47 (.agg #[iV x0_,iV x1_,iV x2_,iV x3_,.slice x4_a x4_n x4_c,.slice x5_a x5_n x5_c]) 5).run Tryz.prog w=.ok (.slice x5_a x5_n x5_c) w:=by kernel_rfl
theorem Gt (x0_:Int)(x1_:Int)(x2_:ByteArray)(w:World):(Instr.field 52 (.agg #[iV x0_,iV x1_,.string x2_]) 1).run Tryz.prog w=.ok (iV x1_) w:=by kernel_rfl
theorem FH  (w:World):(Instr.build 36 #[]).run Tryz.prog w=.ok (.agg #[O none 0 0,O none 0 0]) w:=by kernel_rfl
theorem C5 (x0_a:Option Addr)(x0_n x0_c:Nat)(x1_a:Option Addr)(x1_n x1_c:Nat)(w:World):(Instr.build 36 #[(0,.slice x0_a x0_n x0_c),(1,.slice x1_a x1_n x1_c)]).run Tryz.prog w=.ok (.agg #[.slice x0_a x0_n x0_c,.slice x1_a x1_n x1_c]) w:=by kernel_rfl
theorem vQ  (w:World):(Instr.build 47 #[]).run Tryz.prog w=.ok (.agg #[iV 0,iV 0,iV 0,iV 0,O none 0 0,O none 0 0]) w:=by kernel_rfl
theorem C4 (x0_:Int)(x1_:Int)(x2_:Int)(x3_:Int)(w:World):(Instr.build 47 #[(0,iV x0_),(1,iV x1_),(2,iV x2_),(3,iV x3_)]).run Tryz.prog w=.ok (.agg #[iV x0_,iV x1_,iV x2_,iV x3_,O none 0 0,O none 0 0]) w:=by kernel_rfl
theorem HR (x0_:Int)(x5_a:Option Addr)(x5_n x5_c:Nat)(w:World):(Instr.build 47 #[(0,iV x0_),(5,.slice x5_a x5_n x5_c)]).run Tryz.prog w=.ok (.agg #[iV x0_,iV 0,iV 0,iV 0,O none 0 0,.slice x5_a x5_n x5_c]) w:=by kernel_rfl
theorem Mc (x5_a:Option Addr)(x5_n x5_c:Nat)(w:World):(Instr.build 47 #[(5,.slice x5_a x5_n x5_c)]).run Tryz.prog w=.ok (.agg #[iV 0,iV 0,iV 0,iV 0,O none 0 0,.slice x5_a x5_n x5_c]) w:=by kernel_rfl
theorem I5  (w:World):(Instr.build 52 #[]).run Tryz.prog w=.ok (.agg #[iV 0,iV 0,.string ⟨#[]⟩]) w:=by kernel_rfl
theorem HQ (x0_:Int)(x1_:Int)(w:World):(Instr.build 52 #[(0,iV x0_),(1,iV x1_)]).run Tryz.prog w=.ok (.agg #[iV x0_,iV x1_,.string ⟨#[]⟩]) w:=by kernel_rfl
theorem Mb (x3_:Option Addr)(w:World):(Instr.build 86 #[(3,.pointer x3_)]).run Tryz.prog w=.ok (.agg #[O none 0 0,O none 0 0,O none 0 0,O none 0 0,.pointer x3_]) w:=by kernel_rfl
theorem GQ (x0_0_a:Option Addr)(x0_0_n x0_0_c:Nat)(x0_1_a:Option Addr)(x0_1_n x0_1_c:Nat)(x1_a:Option Addr)(x1_n x1_c:Nat)(w:World):(Instr.build 103 #[(0,.agg #[.slice x0_0_a x0_0_n x0_0_c,.slice x0_1_a x0_1_n x0_1_c]),(1,.slice x1_a x1_n x1_c)]).run Tryz.prog w=.ok (.agg #[.slice x0_0_a x0_0_n x0_0_c,.slice x0_1_a x0_1_n x0_1_c,.slice x1_a x1_n x1_c]) w:=by kernel_rfl
theorem GP (x0_0_a:Option Addr)(x0_0_n x0_0_c:Nat)(x0_1_a:Option Addr)(x0_1_n x0_1_c:Nat)(x2_:Option Nat)(w:World):(Instr.build 128 #[(0,.agg #[.slice x0_0_a x0_0_n x0_0_c,.slice x0_1_a x0_1_n x0_1_c]),(2,.map x2_)]).run Tryz.prog w=.ok (.agg #[.slice x0_0_a x0_0_n x0_0_c,.slice x0_1_a x0_1_n x0_1_c,O none 0 0,.map x2_,iV 0]) w:=by kernel_rfl
theorem Dx (x0_0_a:Option Addr)(x0_0_n x0_0_c:Nat)(x0_1_a:Option Addr)(x0_1_n x0_1_c:Nat)(x1_a:Option Addr)(x1_n x1_c:Nat)(x3_:Option Nat)(w:World):(Instr.build 153 #[(0,.agg #[.slice x0_0_a x0_0_n x0_0_c,.slice x0_1_a x0_1_n x0_1_c]),(1,.slice x1_a x1_n x1_c),(3,.map x3_)]).run Tryz.prog w=.ok (.agg #[.slice x0_0_a x0_0_n x0_0_c,.slice x0_1_a x0_1_n x0_1_c,.slice x1_a x1_n x1_c,O none 0 0,.map x3_,iV 0]) w:=by kernel_rfl
theorem Kd (x0_:Option Nat)(w:World):(Instr.build 157 #[(0,.map x0_)]).run Tryz.prog w=.ok (.agg #[.map x0_]) w:=by kernel_rfl
theorem GO  (w:World):(Instr.build 210 #[]).run Tryz.prog w=.ok (.agg #[]) w:=by kernel_rfl
theorem Ma  (w:World):(Instr.buildSlice 23 0 #[]).run Tryz.prog w=.ok (.slice (some ⟨w.heap.size,0,none⟩) 0 0) (w.alloc (.cells #[] 3)):=by kernel_rfl
theorem gS (x0_:Int)(w:World):(Instr.buildSlice 23 1 #[(0,iV x0_)]).run Tryz.prog w=.ok (.slice (some ⟨w.heap.size,0,none⟩) 1 1) (w.alloc (.cells #[iV x0_] 3)):=by kernel_rfl
theorem LZ (x0_:Int)(x1_:Int)(w:World):(Instr.buildSlice 23 2 #[(0,iV x0_),(1,iV x1_)]).run Tryz.prog w=.ok (.slice (some ⟨w.heap.size,0,none⟩) 2 2) (w.alloc (.cells #[iV x0_,iV x1_] 3)):=by kernel_rfl
theorem LY  (w:World):(Instr.buildSlice 34 0 #[]).run Tryz.prog w=.ok (.slice (some ⟨w.heap.size,0,none⟩) 0 0) (w.alloc (.cells #[] 47)):=by kernel_rfl
theorem qy (x0_0_:Int)(x0_1_:Int)(x0_2_:Int)(x0_3_:Int)(x0_4_a:Option Addr)(x0_4_n x0_4_c:Nat)(x0_5_a:Option Addr)(x0_5_n x0_5_c:Nat)(w:World):(Instr.buildSlice 34 1 #[(0,.agg #[iV x0_0_,iV x0_1_,iV x0_2_,iV x0_3_,.slice x0_4_a x0_4_n x0_4_c,.slice x0_5_a x0_5_n x0_5_c])]).run Tryz.prog w=.ok (.slice (some ⟨w.heap.size,0,none⟩) 1 1) (w.alloc (.cells #[iV x0_0_,iV x0_1_,iV x0_2_,iV x0_3_,.slice x0_4_a x0_4_n x0_4_c,.slice x0_5_a x0_5_n x0_5_c] 47)):=by kernel_rfl
theorem LX  (w:World):(Instr.buildSlice 38 0 #[]).run Tryz.prog w=.ok (.slice (some ⟨w.heap.size,0,none⟩) 0 0) (w.alloc (.cells #[] 52)):=by kernel_rfl
theorem yM (x0_0_:Int)(x0_1_:Int)(x0_2_:ByteArray)(w:World):(Instr.buildSlice 38 1 #[(0,.agg #[iV x0_0_,iV x0_1_,.string x0_2_])]).run Tryz.prog w=.ok (.slice (some ⟨w.heap.size,0,none⟩) 1 1) (w.alloc (.cells #[iV x0_0_,iV x0_1_,.string x0_2_] 52)):=by kernel_rfl
theorem GN (x0_0_:Int)(x0_1_:Int)(x0_2_:ByteArray)(x1_0_:Int)(x1_1_:Int)(x1_2_:ByteArray)(w:World):(Instr.buildSlice 38 2 #[(0,.agg #[iV x0_0_,iV x0_1_,.string x0_2_]),(1,.agg #[iV x1_0_,iV x1_1_,.string x1_2_])]).run Tryz.prog w=.ok (.slice (some ⟨w.heap.size,0,none⟩) 2 2) (w.alloc (.cells #[iV x0_0_,iV x0_1_,.string x0_2_,iV x1_0_,iV x1_1_,.string x1_2_] 52)):=by kernel_rfl
theorem LW (x0_0_:Int)(x0_1_:Int)(x0_2_:ByteArray)(x1_0_:Int)(x1_1_:Int)(x1_2_:ByteArray)(x2_0_:Int)(x2_1_:Int)(x2_2_:ByteArray)(w:World):(Instr.buildSlice 38 3 #[(0,.agg #[iV x0_0_,iV x0_1_,.string x0_2_]),(1,.agg #[iV x1_0_,iV x1_1_,.string x1_2_]),(2,.agg #[iV x2_0_,iV x2_1_,.string x2_2_])]).run Tryz.prog w=.ok (.slice (some ⟨w.heap.size,0,none⟩) 3 3) (w.alloc (.cells #[iV x0_0_,iV x0_1_,.string x0_2_,iV x1_0_,iV x1_1_,.string x1_2_,iV x2_0_,iV x2_1_,.string x2_2_] 52)):=by kernel_rfl
theorem LV (x0_0_:Int)(x0_1_:Int)(x0_2_:ByteArray)(x1_0_:Int)(x1_1_:Int)(x1_2_:ByteArray)(x2_0_:Int)(x2_1_:Int)(x2_2_:ByteArray)(x3_0_:Int)(x3_1_:Int)(x3_2_:ByteArray)(w:World):(Instr.buildSlice 38 4 #[(0,.agg #[iV x0_0_,iV x0_1_,.string x0_2_]),(1,.agg #[iV x1_0_,iV x1_1_,.string x1_2_]),(2,.agg #[iV x2_0_,iV x2_1_,.string x2_2_]),(3,.agg #[iV x3_0_,iV x3_1_,.string x3_2_])]).run Tryz.prog w=.ok (.slice (some ⟨w.heap.size,0,none⟩) 4 4) (w.alloc (.cells #[iV x0_0_,iV x0_1_,.string x0_2_,iV x1_0_,iV x1_1_,.string x1_2_,iV x2_0_,iV x2_1_,.string x2_2_,iV x3_0_,iV x3_1_,.string x3_2_] 52)):=by kernel_rfl
theorem zM (x0_a:Option Addr)(x0_n x0_c:Nat)(x1_a:Option Addr)(x1_n x1_c:Nat)(w:World):(Instr.buildSlice 117 2 #[(0,.slice x0_a x0_n x0_c),(1,.slice x1_a x1_n x1_c)]).run Tryz.prog w=.ok (.slice (some ⟨w.heap.size,0,none⟩) 2 2) (w.alloc (.cells #[.slice x0_a x0_n x0_c,.slice x1_a x1_n x1_c] 34)):=by kernel_rfl
theorem kh (x0_a:Option Addr)(x0_n x0_c:Nat)(x1_a:Option Addr)(x1_n x1_c:Nat)(w:World):(Instr.buildSlice 171 2 #[(0,.slice x0_a x0_n x0_c),(1,.slice x1_a x1_n x1_c)]).run Tryz.prog w=.ok (.slice (some ⟨w.heap.size,0,none⟩) 2 2) (w.alloc (.cells #[.slice x0_a x0_n x0_c,.slice x1_a x1_n x1_c] 38)):=by kernel_rfl
theorem Kc (x0_:Bool)(w:World):(Instr.buildSlice 195 1 #[(0,.bool x0_)]).run Tryz.prog w=.ok (.slice (some ⟨w.heap.size,0,none⟩) 1 1) (w.alloc (.cells #[.bool x0_] 4)):=by kernel_rfl
theorem Eu (x0_a:Option Addr)(x0_n x0_c:Nat)(x1_a:Option Addr)(x1_n x1_c:Nat)(w:World):(Instr.buildSlice 203 2 #[(0,.slice x0_a x0_n x0_c),(1,.slice x1_a x1_n x1_c)]).run Tryz.prog w=.ok (.slice (some ⟨w.heap.size,0,none⟩) 2 2) (w.alloc (.cells #[.slice x0_a x0_n x0_c,.slice x1_a x1_n x1_c] 23)):=by kernel_rfl
theorem De:tX Tryz.prog 3 1 8=true:=by kernel_rfl
theorem Qu:tX Tryz.prog 4 1 1=true:=by kernel_rfl
theorem Dd:tX Tryz.prog 47 6 80=true:=by kernel_rfl
theorem xi:tX Tryz.prog 52 3 32=true:=by kernel_rfl
instance:Fc (kl Tryz.prog 3=true):=⟨cZ⟩
instance:Fc (kl Tryz.prog 4=true):=⟨Gc⟩
instance:Fc (kl Tryz.prog 9=true):=⟨ON⟩
instance:Fc (kl Tryz.prog 23=true):=⟨iR⟩
instance:Fc (kl Tryz.prog 24=true):=⟨Gd⟩
instance:Fc (kl Tryz.prog 34=true):=⟨kQ⟩
instance:Fc (kl Tryz.prog 38=true):=⟨dE⟩
instance:Fc (kl Tryz.prog 66=true):=⟨Ae⟩
instance:Fc (kl Tryz.prog 97=true):=⟨PB⟩
instance:Fc (kl Tryz.prog 126=true):=⟨OP⟩
instance:Fc (kl Tryz.prog 129=true):=⟨OO⟩
instance:Fc (kl Tryz.prog 137=true):=⟨zo⟩
instance:Fc (kl Tryz.prog 151=true):=⟨Hs⟩
instance:FcA0 Tryz.prog 36 0:=⟨tc⟩
instance:FcA Tryz.prog 36 1 1:=⟨rj⟩
instance:FcA0 Tryz.prog 47 0:=⟨Ns⟩
instance:FcA Tryz.prog 47 1 1:=⟨Nr⟩
instance:FcA Tryz.prog 47 2 2:=⟨Nq⟩
instance:FcA Tryz.prog 47 3 3:=⟨yx⟩
instance:FcA Tryz.prog 47 4 4:=⟨vK⟩
instance:FcA Tryz.prog 47 5 5:=⟨iE⟩
instance:FcA0 Tryz.prog 52 0:=⟨fw⟩
instance:FcA Tryz.prog 52 1 1:=⟨i4⟩
instance:FcA Tryz.prog 52 2 2:=⟨Fn⟩
instance:FcA0 Tryz.prog 74 0:=⟨Np⟩
instance:FcA Tryz.prog 74 1 1:=⟨Nn⟩
instance:FcA Tryz.prog 74 2 2:=⟨Nm⟩
instance:FcA Tryz.prog 74 3 3:=⟨Nl⟩
instance:FcA Tryz.prog 74 4 9:=⟨Nk⟩
instance:FcA Tryz.prog 74 5 12:=⟨Nj⟩
instance:FcA0 Tryz.prog 77 0:=⟨Ni⟩
instance:FcA Tryz.prog 77 1 1:=⟨Nh⟩
instance:FcA Tryz.prog 77 2 2:=⟨Fm⟩
instance:FcA Tryz.prog 77 3 8:=⟨Ng⟩
instance:FcA0 Tryz.prog 86 0:=⟨iD⟩
instance:FcA Tryz.prog 86 1 2:=⟨nl⟩
instance:FcA Tryz.prog 86 2 3:=⟨ri⟩
instance:FcA Tryz.prog 86 3 4:=⟨tb⟩
instance:FcA0 Tryz.prog 103 0:=⟨sy⟩
instance:FcA Tryz.prog 103 1 2:=⟨qm⟩
instance:FcA0 Tryz.prog 128 0:=⟨Gz⟩
instance:FcA Tryz.prog 128 1 2:=⟨yy⟩
instance:FcA Tryz.prog 128 2 3:=⟨Lo⟩
instance:FcA Tryz.prog 128 3 4:=⟨CR⟩
instance:FcA0 Tryz.prog 153 0:=⟨Gy⟩
instance:FcA Tryz.prog 153 1 2:=⟨Gx⟩
instance:FcA Tryz.prog 153 2 3:=⟨oI⟩
instance:FcA Tryz.prog 153 3 4:=⟨Ln⟩
instance:FcA Tryz.prog 153 4 5:=⟨CQ⟩
instance:FcA0 Tryz.prog 157 0:=⟨Lm⟩
theorem JZ:Tryz.prog.eqGuardType Tryz.prog.depth 52=false:=by kernel_rfl
theorem Nu (x y:Q5)(w:World):(Op.equalIn 10000 52 (.agg #[iV x.Kind,iV x.N,.string x.S]) (.agg #[iV y.Kind,iV y.N,.string y.S])).run Tryz.prog w=.ok (decide (x=y)) w:=by
 obtain ⟨xKind,xN,xS⟩:=x;obtain ⟨yKind,yN,yS⟩:=y;show (Op.equalIn 10000 52 (.agg #[iV xKind,iV xN,.string xS]) (.agg #[iV yKind,iV yN,.string yS])).run Tryz.prog w=_
 go_simp
 simp only [LU];by_cases h0:xKind=yKind<;>by_cases h1:xN=yN<;>by_cases h2:xS=yS<;>simp [h0,h1,h2]
theorem D9 {s:cx}{C:World→Prop}{d:Option Nat}{ty u:TypeId}{pos:String}{af:Array Edge}{gd:Option (Nat×Bool)}{a b:Operand}{x y:Q5}(hx:cw s a=some (.agg #[iV x.Kind,iV x.N,.string x.S]))(hy:cw s b=some (.agg #[iV y.Kind,iV y.N,.string y.S])):Ev Tryz.prog s C ⟨d,.binOp .neq 52 a b u,ty,pos,af,gd⟩ (.bool (!decide (x=y))):=
 jh hx hy fun w=>by
  rw [Sem.run_bind,run_eqGuard_agg w _ _ _ _ _ _ JZ];simp only [Result.andThen_ok];rw [run_neq_struct,Nu];rfl
def sJ (N:Nat):Option Rh:=
 some (⟨([]:(List (Int×Bool)))⟩:Rh)
theorem Dg {N:Nat}{r:Rh}(h:sJ N=some r):Okc Tryz.prog 56 [] ([]) (fun u post=> ∃B0 M1,u=pV B0 0∧post=[ay B0 157 [.map (some M1)],bq cB d8 M1 r.at_]):=by
 refine bw Tryz.func56 U U ?_;simp only [aQ];refine D ?_;refine gD (sR (ek:=cB) (ev:=d8)) ?_;rintro _ _ ⟨M1,rfl,rfl⟩;refine gE (dr U (Kd _)) ?_;refine gD (bd U U) ?_;rintro _ _ ⟨B2,rfl,rfl⟩;refine D ?_;obtain rfl:=ao h;exact aC U U (cS [0,1] 2) ⟨_,_,U,U⟩
def sY (N:Nat):Option Re:=
 (sJ N).bind fun y1=>some (⟨(⟨[],[]⟩:Rg),[],[],y1⟩:Re)
theorem Ak {N:Nat}{r:Re}(h:sY N=some r):Okc Tryz.prog 14 [] ([]) (fun u post=> ∃B0 A1 n1 c1 A2 n2 c2 A3 n3 c3 A4 n4 c4 B5 M6,u=pV B0 0∧post=[ay B0 86 [O A1 n1 c1,O A2 n2 c2,O A3 n3 c3,O A4 n4 c4,pV B5 0],cA A1 n1 c1 r.m_.Young,cA A2 n2 c2 r.m_.Old,bG A3 n3 c3 r.roots_,bG A4 n4 c4 r.pending_,ay B5 157 [.map (some M6)],bq cB d8 M6 r.set_.at_]):=by
 refine bw Tryz.func14 U U ?_;simp only [aQ];refine D ?_;obtain ⟨y1,hy1,h⟩:=aa h;refine gD (aZ (Dg hy1) Pe U (aJ [] [] [] 0 U)) ?_;rintro _ _ ⟨_,⟨B2,M3,rfl,rfl⟩,rfl⟩;refine gE (dr U (Mb _)) ?_;refine gD (bd U U) ?_;rintro _ _ ⟨B4,rfl,rfl⟩;refine D ?_;obtain rfl:=ao h;exact aC U U ((bj di 47 _).trans ((bj di 47 _).trans ((bj aS 52 _).trans ((bj aS 52 _).trans (cS [4,3,2,1,0,5,6] 7))))) ⟨_,_,_,_,_,_,_,_,_,_,_,_,_,_,_,U,U⟩
def xn (N:Nat):Option Bool:=
 some true
def lh (N:Nat)(a0:(List Rf)):Nat→Int→Option Bool
 |0,_=>none
 |m4+1,p5=>bif decide (p5<(a0.length:Int)) then ((aM a0 p5).bind fun x7=>(bif decide (20<(x7.C.Slots.length:Int)) then (some true) else ((aM a0 p5).bind fun x12=>some (decide (20<(x12.C.More.length:Int))))).bind fun b11=>bif b11 then (some false) else (bD (in64 (p5+1)) ((lh N a0 m4) (p5+1)))) else (xn N)
def qJ (N:Nat)(a0:(List Rf)):Option Bool:=
 bif decide (40<(a0.length:Int)) then (some false) else (lh N a0 N 0)
theorem EI {N:Nat}{a0:(List Rf)}{r:Bool}(h:qJ N a0=some r):Okc Tryz.prog 60 [O A1 n1 c1] ([rx Hg (O A1 n1 c1) a0]) (fun u post=>u=.bool r∧post=[]):=by
 refine bw Tryz.func60 U U ?_;simp only [aQ];refine D ?_;refine az ?_;refine D ?_;refine gR (aK 0 U aj U hP) ?_;refine D ?_;refine av U (fun g2=> ?_) (fun g2=> ?_)
 ·replace h:=ag g2 h;refine D ?_;obtain rfl:=ao h;exact aC U U (cS [] 1) ⟨U,U⟩
 replace h:=ah g2 h;refine D ?_;refine aO (fun s L=>xn N=some r∧s=[(2,.bool false)]∧L=[]) ?_ ?_
 ·refine D ?_;refine bn (fun m s L=> ∃p5,lh N a0 m p5=some r∧s=[(0,O A1 n1 c1),(2,.bool false),(3,iV p5)]∧L=[rx Hg (O A1 n1 c1) a0]) N _ _ ⟨0,h,U,U⟩ sA (cS [0] 1) ?_;rintro (_|m4) _ _ ⟨p5,h,rfl,rfl⟩
  ·exact aB h
  rw [lh.eq_2] at h;refine az ?_;refine D ?_;refine gR (aK 0 U aj U hP) ?_;refine D ?_;refine av U (fun g6=> ?_) (fun g6=> ?_)
  ·replace h:=ag g6 h;refine D ?_;refine az ?_;refine D ?_;obtain ⟨x7,hx7,h⟩:=aa h;obtain ⟨lx7,ux7,hx7⟩:=au hx7;refine gR (aH 0 U aj U U hP G8 lx7 ux7) ?_;refine gR (kM 0 U aj U (bo lx7 ux7) Fm) ?_;refine gR (kM 0 U aj U (bo lx7 ux7) vK) ?_;refine oN 0 U hx7 (Co x7) ?_;rintro _ _ ⟨A8,n8,c8,A9,n9,c9,rfl,rfl⟩;refine gR (H9 0 U U dE U) ?_;refine gR (aK 1 U aj U hU) ?_;refine D ?_;obtain ⟨b11,hb11,h⟩:=aa h;refine aE 9 30 b11 ?_ ?_
   ·clear h;refine aD 21 U (fun g11=> ?_) (fun g11=> ?_)
    ·have h:=ag g11 hb11;refine D ?_;obtain rfl:=ao h;exact ac sA (cS [0,1,2,3] 4)
    have h:=ah g11 hb11;refine D ?_;obtain ⟨x12,hx12,h⟩:=aa h;obtain ⟨lx12,ux12,hx12⟩:=au hx12;refine bI (aH 3 U aj U U hP G8 lx12 ux12) U (bV g11 U) U ?_;refine bI (kM 3 U aj U (bo lx12 ux12) Fm) U (bV g11 U) U ?_;refine bI (kM 3 U aj U (bo lx12 ux12) iE) U (bV g11 U) U ?_;refine oN 3 U hx12 (Co x12) ?_;rintro _ _ ⟨A13,n13,c13,A14,n14,c14,rfl,rfl⟩;refine bI (H9 0 U U dE U) U (bV g11 U) U ?_;refine bI (aK 2 U aj U hU) U (bV g11 U) U ?_;refine D ?_;obtain rfl:=ao h;exact ac sA (cS [3,4,5,6] 7)
   refine D ?_;refine av U (fun g16=> ?_) (fun g16=> ?_)
   ·replace h:=ag g16 h;refine D ?_;obtain rfl:=ao h;exact aC U U (cS [] 4) ⟨U,U⟩
   replace h:=ah g16 h;refine D ?_;obtain ⟨q17,h⟩:=ap h;refine gE (aW U U q17.1 q17.2) ?_;refine D ?_;exact ⟨m4,_,_,Rm _,⟨p5+1,h,U,U⟩,sA,cS [3] 4⟩
  replace h:=ah g6 h;refine D ?_;exact ⟨_,_,⟨h,U,U⟩,sA,cS [] 1⟩
 rintro _ _ ⟨h,rfl,rfl⟩;refine D ?_;obtain rfl:=ao h;exact aC U U (cS [] 0) ⟨U,U⟩
theorem Br {r:Bool}: ∀v post,((fun (u:Value) (post:List Chunk)=>u=.bool r∧post=[])) v post→ ∀c∈post,cg c:=by
 rintro _ _ ⟨rfl,rfl⟩;exact ab
def yY (N:Nat)(a0:(List Q5)):Option Ra:=
 some (⟨11,0,0,0,[],a0⟩:Ra)
theorem Bt {N:Nat}{a0:(List Q5)}{r:Ra}(h:yY N a0=some r):Okc Tryz.prog 146 [O A1 n1 c1] ([bm A1 n1 c1 a0]) (fun u post=> ∃A0 n0 c0 A1 n1 c1,u=.agg #[iV r.Kind,iV r.Shape,iV r.Flags,iV r.Age,O A0 n0 c0,O A1 n1 c1]∧post=[bm A0 n0 c0 r.Slots,bm A1 n1 c1 r.More]):=by
 refine bw Tryz.func146 U U ?_;simp only [aQ];refine D ?_;refine gD (aN dy U) ?_;rintro _ _ ⟨B2,rfl,rfl⟩;refine D ?_;refine gE (dr U (HR _ _ _ _)) ?_;refine gO (aq (us:=[iV 11,iV 0,iV 0,iV 0,O none 0 0,O A1 n1 c1]) (cs':=[iV 11,iV 0,iV 0,iV 0,O none 0 0,O A1 n1 c1]) 0 U U U U bx U U U) ?_;rintro _ _ rfl;refine D ?_;obtain rfl:=ao h;exact dt (rs:=[.cell 2 47]) (vs:=[.agg #[iV 11,iV 0,iV 0,iV 0,O none 0 0,O A1 n1 c1]]) U (.cons (bZ 0 U U be) .nil) U ((Bc aS _).trans (cS [0,2] 3)) ⟨_,_,_,_,_,_,U,U⟩
def aT (N:Nat)(a0:Re):Option Bool:=
 some false
theorem bQ {N:Nat}{a0:Re}{r:Bool}(h:aT N a0=some r):Okc Tryz.prog 73 [pV B1 0] ([bE B1 86 [O A2 n2 c2,O A3 n3 c3,O A4 n4 c4,O A5 n5 c5,pV B6 0],bz A2 n2 c2 a0.m_.Young,bz A3 n3 c3 a0.m_.Old,bm A4 n4 c4 a0.roots_,bm A5 n5 c5 a0.pending_,bE B6 157 [.map (some M7)],nD cB d8 M7 a0.set_.at_]) (fun u post=>u=.bool r∧post=[]):=by
 refine bw Tryz.func73 U U ?_;simp only [aQ];refine D ?_;refine gE (nU U t0) ?_;refine D ?_;refine gR (bC 0 U U Ae U) ?_;refine gE (nU U t5) ?_;refine D ?_;obtain rfl:=ao h;exact aC U U (cS [] 7) ⟨U,U⟩
theorem bF {r:Bool}: ∀v post,((fun (u:Value) (post:List Chunk)=>u=.bool r∧post=[])) v post→ ∀c∈post,cg c:=by
 rintro _ _ ⟨rfl,rfl⟩;exact ab
def jV (N:Nat){σ:Type}(fy:(Bool×Q5)→σ→Option (Bool×σ))(a1:Ra):Nat→Int→σ→Option σ
 |0,_,_=>none
 |m15+1,p16,p17=>bif decide (p16<(a1.More.length:Int)) then ((aM a1.More p16).bind fun x19=>(bif !decide (a1.Kind=8) then ((bif !decide (a1.Kind=10) then (some true) else (some (decide (p16.tmod 2=0)))).bind fun b22=>some b22) else (some false)).bind fun b21=>(fy (b21,x19) p17).bind fun y23=>bif !y23.1 then (some y23.2) else (bD (in64 (p16+1)) ((jV N fy a1 m15) (p16+1) y23.2))) else (some p17)
def qq (N:Nat){σ:Type}(fy:(Bool×Q5)→σ→Option (Bool×σ))(a1:Ra)(p5:σ):Option σ:=
 jV N fy a1 N 0 p5
def jl (N:Nat){σ:Type}(fy:(Bool×Q5)→σ→Option (Bool×σ))(a1:Ra):Nat→Int→σ→Option σ
 |0,_,_=>none
 |m6+1,p7,p8=>bif decide (p7<(a1.Slots.length:Int)) then ((aM a1.Slots p7).bind fun x10=>(fy (true,x10) p8).bind fun y12=>bif !y12.1 then (some y12.2) else (bD (in64 (p7+1)) ((jl N fy a1 m6) (p7+1) y12.2))) else (qq N fy a1 p8)
def lY (N:Nat){σ:Type}(a1:Ra)(fy:(Bool×Q5)→σ→Option (Bool×σ))(s0:σ):Option σ:=
 jl N fy a1 N 0 s0
theorem uW {N:Nat}{σ:Type}{a1:Ra}{fy:(Bool×Q5)→σ→Option (Bool×σ)}{s0:σ}{r:σ}(h:lY N a1 fy s0=some r){l:Nat}{G:σ→List Chunk}(hY:rp Tryz.prog l G (fun x=> [.bool x.1,.agg #[iV x.2.Kind,iV x.2.N,.string x.2.S]]) fy):Okc Tryz.prog 223 [.func (.yield l) #[] #[],pV B1 0] (bE B1 47 [iV a1.Kind,iV a1.Shape,iV a1.Flags,iV a1.Age,O A2 n2 c2,O A3 n3 c3]::bm A2 n2 c2 a1.Slots::bm A3 n3 c3 a1.More::(G s0)) (fun u post=>u=.tuple #[]∧post=G r):=by
 refine bw Tryz.func223 U U ?_;simp only [aQ];refine aO (fun s L=> ∃p5,qq N fy a1 p5=some r∧s=[(0,.func (.yield l) #[] #[]),(1,pV B1 0)]∧L=bm A2 n2 c2 a1.Slots::bm A3 n3 c3 a1.More::bE B1 47 [iV a1.Kind,iV a1.Shape,iV a1.Flags,iV a1.Age,O A2 n2 c2,O A3 n3 c3]::(G p5)) ?_ ?_
 ·refine D ?_;refine gR (bC 0 U U dE U) ?_;refine gR (aK 1 U aj U hU) ?_;refine D ?_;refine bn (fun m s L=> ∃p7 p8,jl N fy a1 m p7 p8=some r∧s=[(0,.func (.yield l) #[] #[]),(1,pV B1 0),(9,O A2 n2 c2),(10,iV (a1.Slots.length:Int)),(11,iV p7)]∧L=bm A2 n2 c2 a1.Slots::bm A3 n3 c3 a1.More::bE B1 47 [iV a1.Kind,iV a1.Shape,iV a1.Flags,iV a1.Age,O A2 n2 c2,O A3 n3 c3]::(G p8)) N _ _ ⟨0,s0,h,U,U⟩ sA (cS [1,2,0] 3) ?_;rintro (_|m6) _ _ ⟨p7,p8,h,rfl,rfl⟩
  ·exact aB h
  rw [jl.eq_2] at h;refine D ?_;refine az ?_;refine av U (fun g9=> ?_) (fun g9=> ?_)
  ·replace h:=ag g9 h;refine D ?_;refine az ?_;refine D ?_;obtain ⟨x10,hx10,h⟩:=aa h;obtain ⟨lx10,ux10,hx10⟩:=au hx10;refine gR (aH 0 U aj U U hU aP lx10 ux10) ?_;refine gR (bp (us:=[iV x10.Kind,iV x10.N,.string x10.S]) 0 U aj U hx10 bW (fun _ _ _ h=>by rw [show _=_ from h];rfl)) ?_;refine gD (aN ki U) ?_;rintro _ _ ⟨B11,rfl,rfl⟩;refine gO (aq (us:=[iV x10.Kind,iV x10.N,.string x10.S]) (cs':=[iV x10.Kind,iV x10.N,.string x10.S]) 0 U U U U aP U U U) ?_;rintro _ _ rfl;refine D ?_;refine gR (aA (us:=[iV x10.Kind,iV x10.N,.string x10.S]) 0 U U bW U) ?_;obtain ⟨y12,hy12,h⟩:=aa h;refine gD (vz (a:=(true,x10)) [ay B11 52 [iV x10.Kind,iV x10.N,.string x10.S],bm A2 n2 c2 a1.Slots,bm A3 n3 c3 a1.More,bE B1 47 [iV a1.Kind,iV a1.Shape,iV a1.Flags,iV a1.Age,O A2 n2 c2,O A3 n3 c3]] hY hy12 U U) ?_;rintro _ _ ⟨rfl,rfl⟩;refine D ?_;refine av U (fun g13=> ?_) (fun g13=> ?_)
   ·replace h:=ag g13 h;refine D ?_;obtain rfl:=ao h;exact El U (cS [] 4) ⟨U,U⟩
   replace h:=ah g13 h;refine D ?_;obtain ⟨q14,h⟩:=ap h;refine gE (aW U U q14.1 q14.2) ?_;refine D ?_;exact ⟨m6,_,_,Rm _,⟨p7+1,y12.2,h,U,U⟩,sA,cS [1,2,3] 4⟩
  replace h:=ah g9 h;refine D ?_;exact ⟨_,_,⟨p8,h,U,U⟩,sA,cS [0,1,2] 3⟩
 rintro _ _ ⟨p5,h,rfl,rfl⟩;refine D ?_;refine gR (bC 2 U U dE U) ?_;refine gR (aK 1 U aj U hU) ?_;refine D ?_;refine bn (fun m s L=> ∃p16 p17,jV N fy a1 m p16 p17=some r∧s=[(0,.func (.yield l) #[] #[]),(1,pV B1 0),(21,O A3 n3 c3),(22,iV (a1.More.length:Int)),(23,iV p16)]∧L=bm A3 n3 c3 a1.More::bm A2 n2 c2 a1.Slots::bE B1 47 [iV a1.Kind,iV a1.Shape,iV a1.Flags,iV a1.Age,O A2 n2 c2,O A3 n3 c3]::(G p17)) N _ _ ⟨0,p5,h,U,U⟩ sA (cS [1,0,2] 3) ?_;rintro (_|m15) _ _ ⟨p16,p17,h,rfl,rfl⟩
 ·exact aB h
 rw [jV.eq_2] at h;refine D ?_;refine az ?_;refine av U (fun g18=> ?_) (fun g18=> ?_)
 ·replace h:=ag g18 h;refine D ?_;refine az ?_;refine D ?_;obtain ⟨x19,hx19,h⟩:=aa h;obtain ⟨lx19,ux19,hx19⟩:=au hx19;refine gR (aH 0 U aj U U hU aP lx19 ux19) ?_;refine gR (bp (us:=[iV x19.Kind,iV x19.N,.string x19.S]) 0 U aj U hx19 bW (fun _ _ _ h=>by rw [show _=_ from h];rfl)) ?_;refine gD (aN ki U) ?_;rintro _ _ ⟨B20,rfl,rfl⟩;refine D ?_;refine gO (aq (us:=[iV x19.Kind,iV x19.N,.string x19.S]) (cs':=[iV x19.Kind,iV x19.N,.string x19.S]) 0 U U U U aP U U U) ?_;rintro _ _ rfl;refine cq ?_;refine D ?_;refine gR (bC 3 U U cZ U) ?_;refine D ?_;obtain ⟨b21,hb21,h⟩:=aa h;refine aE 9 40 b21 ?_ ?_
  ·clear h;refine aD 31 U (fun g21=> ?_) (fun g21=> ?_)
   ·have h:=ag g21 hb21;refine D ?_;refine bI (bC 3 U U cZ U) U (aU g21 U) U ?_;refine D ?_;obtain ⟨b22,hb22,h⟩:=aa h;refine aE 4 39 b22 ?_ ?_
    ·clear h;refine aD 35 U (fun g22=> ?_) (fun g22=> ?_)
     ·have h:=ag g22 hb22;refine D ?_;obtain rfl:=ao h;exact ac sA (cS [0,1,2,3] 4)
     have h:=ah g22 hb22;refine D ?_;refine pn (mx U U (by decide)) U (bV g22 U) U ?_;refine D ?_;obtain rfl:=ao h;exact ac sA (cS [0,1,2,3] 4)
    refine D ?_;obtain rfl:=ao h;exact ac sA (cS [0,1,2,3] 4)
   have h:=ah g21 hb21;refine D ?_;obtain rfl:=ao h;exact ac sA (cS [0,1,2,3] 4)
  refine D ?_;refine gR (aA (us:=[iV x19.Kind,iV x19.N,.string x19.S]) 0 U U bW U) ?_;obtain ⟨y23,hy23,h⟩:=aa h;refine gD (vz (a:=(b21,x19)) [ay B20 52 [iV x19.Kind,iV x19.N,.string x19.S],bm A3 n3 c3 a1.More,bm A2 n2 c2 a1.Slots,bE B1 47 [iV a1.Kind,iV a1.Shape,iV a1.Flags,iV a1.Age,O A2 n2 c2,O A3 n3 c3]] hY hy23 U U) ?_;rintro _ _ ⟨rfl,rfl⟩;refine D ?_;refine av U (fun g24=> ?_) (fun g24=> ?_)
  ·replace h:=ag g24 h;refine D ?_;obtain rfl:=ao h;exact El U (cS [] 4) ⟨U,U⟩
  replace h:=ah g24 h;refine D ?_;obtain ⟨q25,h⟩:=ap h;refine gE (aW U U q25.1 q25.2) ?_;refine D ?_;exact ⟨m15,_,_,Rm _,⟨p16+1,y23.2,h,U,U⟩,sA,cS [1,2,3] 4⟩
 replace h:=ah g18 h;refine D ?_;obtain rfl:=ao h;exact ld U (cS [] 3) ⟨U,U⟩
def qr (N:Nat)(a0:Ra):Option Unit:=
 some ()
theorem AA {N:Nat}{a0:Ra}{r:Unit}(h:qr N a0=some r):Okc Tryz.prog 168 [.agg #[iV a0.Kind,iV a0.Shape,iV a0.Flags,iV a0.Age,O A1 n1 c1,O A2 n2 c2]] ([bm A1 n1 c1 a0.Slots,bm A2 n2 c2 a0.More]) (fun u post=> ∃B900,u=.func (.func 223) #[] #[pV B900 0]∧post=[ay B900 47 [iV a0.Kind,iV a0.Shape,iV a0.Flags,iV a0.Age,O A1 n1 c1,O A2 n2 c2]]):=by
 refine bw Tryz.func168 U U ?_;simp only [aQ];refine D ?_;refine gD (bd U U) ?_;rintro _ _ ⟨B3,rfl,rfl⟩;refine D ?_;refine gE (ey U) ?_;refine D ?_;obtain rfl:=ao h;exact aC U U (cS [0] 3) ⟨_,U,U⟩
theorem wH {a0:Ra}{A1:Option Addr}{n1:Nat}{c1:Nat}{A2:Option Addr}{n2:Nat}{c2:Nat}: ∀v post,((fun (u:Value) (post:List Chunk)=> ∃B900,u=.func (.func 223) #[] #[pV B900 0]∧post=[ay B900 47 [iV a0.Kind,iV a0.Shape,iV a0.Flags,iV a0.Age,O A1 n1 c1,O A2 n2 c2]])) v post→ ∀c∈post,cg c:=by
 rintro _ _ ⟨_,rfl,rfl⟩;exact hE oH (ab)
def oK (N:Nat)(a0:Q5)(p10:Bool):Option Bool:=
 bif p10 then (some (decide (1≤a0.N))) else ((bif decide (a0.N=0) then (some (decide (0≤a0.Kind))) else (some false)).bind fun b14=>(bif b14 then (some (decide (a0.Kind≤9))) else (some false)).bind fun b15=>some b15)
def th (N:Nat)(a0:Q5):Option Bool:=
 bif decide (a0.Kind=5) then ((bif decide (a0.N=0) then (some (decide ((a0.S.size:Int)≤65536))) else (some false)).bind fun b3=>some b3) else (bif !(a0.S.toList==(⟨#[]⟩:ByteArray).toList) then (some false) else (bif decide (a0.Kind=2) then ((bif decide (a0.N=0) then (some true) else (some (decide (a0.N=1)))).bind fun b6=>some b6) else (bif decide (a0.Kind=3) then ((bif decide ((-9007199254740992)≤a0.N) then (some (decide (a0.N≤9007199254740992))) else (some false)).bind fun b8=>some b8) else (bif decide (a0.Kind=6) then (oK N a0 (decide (a0.Kind=6))) else (bif decide (a0.Kind=7) then (oK N a0 (decide (a0.Kind=7))) else (oK N a0 (decide (a0.Kind=9))))))))
theorem GK {N:Nat}{a0:Q5}{r:Bool}(h:th N a0=some r):Okc Tryz.prog 169 [.agg #[iV a0.Kind,iV a0.N,.string a0.S]] ([]) (fun u post=>u=.bool r∧post=[]):=by
 refine bw Tryz.func169 U U ?_;simp only [aQ];refine D ?_;refine gD (bd U U) ?_;rintro _ _ ⟨B1,rfl,rfl⟩;refine D ?_;refine az ?_;refine D ?_;refine av U (fun g2=> ?_) (fun g2=> ?_)
 ·replace h:=ag g2 h;refine D ?_;obtain ⟨b3,hb3,h⟩:=aa h;refine aE 5 14 b3 ?_ ?_
  ·clear h;refine aD 9 U (fun g3=> ?_) (fun g3=> ?_)
   ·have h:=ag g3 hb3;refine D ?_;refine pn (Iq U t9) U (aU g3 U) U ?_;refine D ?_;obtain rfl:=ao h;exact ac sA (cS [0] 1)
   have h:=ah g3 hb3;refine D ?_;obtain rfl:=ao h;exact ac sA (cS [0] 1)
  refine D ?_;obtain rfl:=ao h;exact aC U U (cS [] 1) ⟨U,U⟩
 replace h:=ah g2 h;refine D ?_;refine az ?_;refine D ?_;refine gE (CS U U) ?_;refine D ?_;refine av U (fun g4=> ?_) (fun g4=> ?_)
 ·replace h:=ag g4 h;refine D ?_;obtain rfl:=ao h;exact aC U U (cS [] 1) ⟨U,U⟩
 replace h:=ah g4 h;refine D ?_;refine az ?_;refine D ?_;refine av U (fun g5=> ?_) (fun g5=> ?_)
 ·replace h:=ag g5 h;refine D ?_;obtain ⟨b6,hb6,h⟩:=aa h;refine aE 4 29 b6 ?_ ?_
  ·clear h;refine aD 25 U (fun g6=> ?_) (fun g6=> ?_)
   ·have h:=ag g6 hb6;refine D ?_;obtain rfl:=ao h;exact ac sA (cS [0] 1)
   have h:=ah g6 hb6;refine D ?_;obtain rfl:=ao h;exact ac sA (cS [0] 1)
  refine D ?_;obtain rfl:=ao h;exact aC U U (cS [] 1) ⟨U,U⟩
 replace h:=ah g5 h;refine D ?_;refine av U (fun g7=> ?_) (fun g7=> ?_)
 ·replace h:=ag g7 h;refine D ?_;obtain ⟨b8,hb8,h⟩:=aa h;refine aE 4 39 b8 ?_ ?_
  ·clear h;refine aD 35 U (fun g8=> ?_) (fun g8=> ?_)
   ·have h:=ag g8 hb8;refine D ?_;obtain rfl:=ao h;exact ac sA (cS [0] 1)
   have h:=ah g8 hb8;refine D ?_;obtain rfl:=ao h;exact ac sA (cS [0] 1)
  refine D ?_;obtain rfl:=ao h;exact aC U U (cS [] 1) ⟨U,U⟩
 replace h:=ah g7 h;refine aO (fun s L=> ∃p10,oK N a0 p10=some r∧s=[(1,pV B1 0),(2,.bool false),(40,.bool p10)]∧L=[ay B1 52 [iV a0.Kind,iV a0.N,.string a0.S]]) ?_ ?_
 ·refine D ?_;refine av U (fun g11=> ?_) (fun g11=> ?_)
  ·replace h:=ag g11 h;refine D ?_;exact ⟨_,_,⟨decide (a0.Kind=6),h,U,U⟩,sA,cS [0] 1⟩
  replace h:=ah g11 h;refine D ?_;refine av U (fun g12=> ?_) (fun g12=> ?_)
  ·replace h:=ag g12 h;refine D ?_;exact ⟨_,_,⟨decide (a0.Kind=7),h,U,U⟩,sA,cS [0] 1⟩
  replace h:=ah g12 h;refine D ?_;exact ⟨_,_,⟨decide (a0.Kind=9),h,U,U⟩,sA,cS [0] 1⟩
 rintro _ _ ⟨p10,h,rfl,rfl⟩;refine av U (fun g13=> ?_) (fun g13=> ?_)
 ·replace h:=ag g13 h;refine D ?_;obtain rfl:=ao h;exact aC U U (cS [] 1) ⟨U,U⟩
 replace h:=ah g13 h;refine D ?_;obtain ⟨b14,hb14,h⟩:=aa h;refine aE 4 54 b14 ?_ ?_
 ·clear h;refine aD 50 U (fun g14=> ?_) (fun g14=> ?_)
  ·have h:=ag g14 hb14;refine D ?_;obtain rfl:=ao h;exact ac sA (cS [0] 1)
  have h:=ah g14 hb14;refine D ?_;obtain rfl:=ao h;exact ac sA (cS [0] 1)
 refine D ?_;obtain ⟨b15,hb15,h⟩:=aa h;refine aE 4 59 b15 ?_ ?_
 ·clear h;refine aD 55 U (fun g15=> ?_) (fun g15=> ?_)
  ·have h:=ag g15 hb15;refine D ?_;obtain rfl:=ao h;exact ac sA (cS [0] 1)
  have h:=ah g15 hb15;refine D ?_;obtain rfl:=ao h;exact ac sA (cS [0] 1)
 refine D ?_;obtain rfl:=ao h;exact aC U U (cS [] 1) ⟨U,U⟩
theorem Dv {r:Bool}: ∀v post,((fun (u:Value) (post:List Chunk)=>u=.bool r∧post=[])) v post→ ∀c∈post,cg c:=by
 rintro _ _ ⟨rfl,rfl⟩;exact ab
def iG (N:Nat)(p2:Bool):Option Bool:=
 bif p2 then (some true) else (some false)
def ti (N:Nat)(a0:Int):Option Bool:=
 bif decide (a0=1) then (iG N (decide (a0=1))) else (bif decide (a0=2) then (iG N (decide (a0=2))) else (bif decide (a0=3) then (iG N (decide (a0=3))) else (bif decide (a0=6) then (iG N (decide (a0=6))) else (bif decide (a0=8) then (iG N (decide (a0=8))) else (bif decide (a0=9) then (iG N (decide (a0=9))) else (iG N (decide (a0=10))))))))
theorem GL {N:Nat}{a0:Int}{r:Bool}(h:ti N a0=some r):Okc Tryz.prog 224 [iV a0] ([]) (fun u post=>u=.bool r∧post=[]):=by
 refine bw Tryz.func224 U U ?_;simp only [aQ];refine D ?_;refine az ?_;refine D ?_;refine aO (fun s L=> ∃p2,iG N p2=some r∧s=[(2,.bool false),(4,.bool p2)]∧L=[]) ?_ ?_
 ·refine D ?_;refine av U (fun g3=> ?_) (fun g3=> ?_)
  ·replace h:=ag g3 h;refine D ?_;exact ⟨_,_,⟨decide (a0=1),h,U,U⟩,sA,cS [] 0⟩
  replace h:=ah g3 h;refine D ?_;refine av U (fun g4=> ?_) (fun g4=> ?_)
  ·replace h:=ag g4 h;refine D ?_;exact ⟨_,_,⟨decide (a0=2),h,U,U⟩,sA,cS [] 0⟩
  replace h:=ah g4 h;refine D ?_;refine av U (fun g5=> ?_) (fun g5=> ?_)
  ·replace h:=ag g5 h;refine D ?_;exact ⟨_,_,⟨decide (a0=3),h,U,U⟩,sA,cS [] 0⟩
  replace h:=ah g5 h;refine D ?_;refine av U (fun g6=> ?_) (fun g6=> ?_)
  ·replace h:=ag g6 h;refine D ?_;exact ⟨_,_,⟨decide (a0=6),h,U,U⟩,sA,cS [] 0⟩
  replace h:=ah g6 h;refine D ?_;refine av U (fun g7=> ?_) (fun g7=> ?_)
  ·replace h:=ag g7 h;refine D ?_;exact ⟨_,_,⟨decide (a0=8),h,U,U⟩,sA,cS [] 0⟩
  replace h:=ah g7 h;refine D ?_;refine av U (fun g8=> ?_) (fun g8=> ?_)
  ·replace h:=ag g8 h;refine D ?_;exact ⟨_,_,⟨decide (a0=9),h,U,U⟩,sA,cS [] 0⟩
  replace h:=ah g8 h;refine D ?_;exact ⟨_,_,⟨decide (a0=10),h,U,U⟩,sA,cS [] 0⟩
 rintro _ _ ⟨p2,h,rfl,rfl⟩;refine av U (fun g9=> ?_) (fun g9=> ?_)
 ·replace h:=ag g9 h;refine D ?_;obtain rfl:=ao h;exact aC U U (cS [] 0) ⟨U,U⟩
 replace h:=ah g9 h;refine D ?_;obtain rfl:=ao h;exact aC U U (cS [] 0) ⟨U,U⟩
theorem Dw {r:Bool}: ∀v post,((fun (u:Value) (post:List Chunk)=>u=.bool r∧post=[])) v post→ ∀c∈post,cg c:=by
 rintro _ _ ⟨rfl,rfl⟩;exact ab
def gr (N:Nat)(a0:Q5)(a1:Int):Option Bool:=
 (bif decide (a0.Kind=0) then (some true) else (some (decide (a0.Kind=a1)))).bind fun b2=>some b2
theorem ji {N:Nat}{a0:Q5}{a1:Int}{r:Bool}(h:gr N a0 a1=some r):Okc Tryz.prog 225 [.agg #[iV a0.Kind,iV a0.N,.string a0.S],iV a1] ([]) (fun u post=>u=.bool r∧post=[]):=by
 refine bw Tryz.func225 U U ?_;simp only [aQ];refine D ?_;refine gD (bd U U) ?_;rintro _ _ ⟨B1,rfl,rfl⟩;refine D ?_;obtain ⟨b2,hb2,h⟩:=aa h;refine aE 5 13 b2 ?_ ?_
 ·clear h;refine aD 8 U (fun g2=> ?_) (fun g2=> ?_)
  ·have h:=ag g2 hb2;refine D ?_;obtain rfl:=ao h;exact ac sA (cS [0] 1)
  have h:=ah g2 hb2;refine D ?_;obtain rfl:=ao h;exact ac sA (cS [0] 1)
 refine D ?_;obtain rfl:=ao h;exact aC U U (cS [] 1) ⟨U,U⟩
theorem gH {r:Bool}: ∀v post,((fun (u:Value) (post:List Chunk)=>u=.bool r∧post=[])) v post→ ∀c∈post,cg c:=by
 rintro _ _ ⟨rfl,rfl⟩;exact ab
def iF (N:Nat)(a0:Ra):Option Bool:=
 (ti N a0.Kind).bind fun y4=>(bif y4 then (some true) else ((bif decide (a0.Kind=7) then (some (decide (0<(a0.Slots.length:Int)))) else (some false)).bind fun b6=>some b6)).bind fun b5=>bif b5 then ((bif decide (1≤(a0.Slots.length:Int)) then (some (decide ((a0.Slots.length:Int)≤1025))) else (some false)).bind fun b8=>(bif b8 then ((aM a0.Slots 0).bind fun x10=>(bif decide (x10.Kind=1) then (some true) else ((aM a0.Slots 0).bind fun x12=>some (decide (x12.Kind=7)))).bind fun b11=>some b11) else (some false)).bind fun b9=>some b9) else (bif decide (a0.Kind=7) then (some (decide (a0.Shape=0))) else ((bif !decide (a0.Shape=0) then (some true) else (some (!decide (a0.Flags=0)))).bind fun b14=>bif b14 then (some false) else (bif decide (a0.Kind=5) then ((bif decide ((a0.Slots.length:Int)=2) then ((aM a0.Slots 0).bind fun x18=>(gr N x18 7).bind fun y19=>some y19) else (some false)).bind fun b17=>(bif b17 then ((aM a0.Slots 1).bind fun x21=>(gr N x21 7).bind fun y22=>some y22) else (some false)).bind fun b20=>some b20) else (some (decide ((a0.Slots.length:Int)=0))))))
theorem xd {N:Nat}{a0:Ra}{r:Bool}(h:iF N a0=some r):Okc Tryz.prog 170 [.agg #[iV a0.Kind,iV a0.Shape,iV a0.Flags,iV a0.Age,O A1 n1 c1,O A2 n2 c2]] ([bm A1 n1 c1 a0.Slots,bm A2 n2 c2 a0.More]) (fun u post=>u=.bool r∧post=[]):=by
 refine bw Tryz.func170 U U ?_;simp only [aQ];refine D ?_;refine gD (bd U U) ?_;rintro _ _ ⟨B3,rfl,rfl⟩;refine D ?_;refine az ?_;refine D ?_;obtain ⟨y4,hy4,h⟩:=aa h;refine gD (ak (GL hy4) NC U (ab) Dw) ?_;rintro _ _ ⟨_,⟨rfl,rfl⟩,rfl⟩;refine D ?_;obtain ⟨b5,hb5,h⟩:=aa h;refine aE 10 16 b5 ?_ ?_
 ·clear h;refine aD 6 U (fun g5=> ?_) (fun g5=> ?_)
  ·have h:=ag g5 hb5;refine D ?_;obtain rfl:=ao h;exact ac sA (cS [0,1,2] 3)
  have h:=ah g5 hb5;refine D ?_;obtain ⟨b6,hb6,h⟩:=aa h;refine aE 5 15 b6 ?_ ?_
  ·clear h;refine aD 10 U (fun g6=> ?_) (fun g6=> ?_)
   ·have h:=ag g6 hb6;refine D ?_;refine bI (aK 1 U aj U hU) U (aU g6 U) U ?_;refine D ?_;obtain rfl:=ao h;exact ac sA (cS [0,1,2] 3)
   have h:=ah g6 hb6;refine D ?_;obtain rfl:=ao h;exact ac sA (cS [0,1,2] 3)
  refine D ?_;obtain rfl:=ao h;exact ac sA (cS [0,1,2] 3)
 refine D ?_;refine av U (fun g7=> ?_) (fun g7=> ?_)
 ·replace h:=ag g7 h;refine D ?_;refine gR (aK 1 U aj U hU) ?_;refine D ?_;obtain ⟨b8,hb8,h⟩:=aa h;refine aE 5 26 b8 ?_ ?_
  ·clear h;refine aD 21 U (fun g8=> ?_) (fun g8=> ?_)
   ·have h:=ag g8 hb8;refine D ?_;refine bI (aK 1 U aj U hU) U (aU g8 U) U ?_;refine D ?_;obtain rfl:=ao h;exact ac sA (cS [0,1,2] 3)
   have h:=ah g8 hb8;refine D ?_;obtain rfl:=ao h;exact ac sA (cS [0,1,2] 3)
  refine D ?_;obtain ⟨b9,hb9,h⟩:=aa h;refine aE 15 42 b9 ?_ ?_
  ·clear h;refine aD 27 U (fun g9=> ?_) (fun g9=> ?_)
   ·have h:=ag g9 hb9;refine D ?_;obtain ⟨x10,hx10,h⟩:=aa h;obtain ⟨lx10,ux10,hx10⟩:=au hx10;refine bI (aH 1 U aj U U hU aP lx10 ux10) U (aU g9 U) U ?_;refine bI (lE 1 U aj U (bo lx10 ux10) fw) U (aU g9 U) U ?_;refine bI (aY (u:=iV x10.Kind) 1 U aj U hx10 cZ (fun _ _ _ h=>by rw [show _=_ from h];rfl)) U (aU g9 U) U ?_;refine D ?_;obtain ⟨b11,hb11,h⟩:=aa h;refine aE 7 41 b11 ?_ ?_
    ·clear h;refine aD 34 U (fun g11=> ?_) (fun g11=> ?_)
     ·have h:=ag g11 hb11;refine D ?_;obtain rfl:=ao h;exact ac sA (cS [0,1,2] 3)
     have h:=ah g11 hb11;refine D ?_;obtain ⟨x12,hx12,h⟩:=aa h;obtain ⟨lx12,ux12,hx12⟩:=au hx12;refine bI (aH 1 U aj U U hU aP lx12 ux12) U (bV g11 U) U ?_;refine bI (lE 1 U aj U (bo lx12 ux12) fw) U (bV g11 U) U ?_;refine bI (aY (u:=iV x12.Kind) 1 U aj U hx12 cZ (fun _ _ _ h=>by rw [show _=_ from h];rfl)) U (bV g11 U) U ?_;refine D ?_;obtain rfl:=ao h;exact ac sA (cS [0,1,2] 3)
    refine D ?_;obtain rfl:=ao h;exact ac sA (cS [0,1,2] 3)
   have h:=ah g9 hb9;refine D ?_;obtain rfl:=ao h;exact ac sA (cS [0,1,2] 3)
  refine D ?_;obtain rfl:=ao h;exact aC U U (cS [] 3) ⟨U,U⟩
 replace h:=ah g7 h;refine D ?_;refine az ?_;refine D ?_;refine av U (fun g13=> ?_) (fun g13=> ?_)
 ·replace h:=ag g13 h;refine D ?_;obtain rfl:=ao h;exact aC U U (cS [] 3) ⟨U,U⟩
 replace h:=ah g13 h;refine D ?_;refine az ?_;refine D ?_;obtain ⟨b14,hb14,h⟩:=aa h;refine aE 4 56 b14 ?_ ?_
 ·clear h;refine aD 52 U (fun g14=> ?_) (fun g14=> ?_)
  ·have h:=ag g14 hb14;refine D ?_;obtain rfl:=ao h;exact ac sA (cS [0,1,2] 3)
  have h:=ah g14 hb14;refine D ?_;obtain rfl:=ao h;exact ac sA (cS [0,1,2] 3)
 refine D ?_;refine av U (fun g15=> ?_) (fun g15=> ?_)
 ·replace h:=ag g15 h;refine D ?_;obtain rfl:=ao h;exact aC U U (cS [] 3) ⟨U,U⟩
 replace h:=ah g15 h;refine D ?_;refine az ?_;refine D ?_;refine av U (fun g16=> ?_) (fun g16=> ?_)
 ·replace h:=ag g16 h;refine D ?_;refine gR (aK 1 U aj U hU) ?_;refine D ?_;obtain ⟨b17,hb17,h⟩:=aa h;refine aE 6 70 b17 ?_ ?_
  ·clear h;refine aD 64 U (fun g17=> ?_) (fun g17=> ?_)
   ·have h:=ag g17 hb17;refine D ?_;obtain ⟨x18,hx18,h⟩:=aa h;obtain ⟨lx18,ux18,hx18⟩:=au hx18;refine bI (aH 1 U aj U U hU aP lx18 ux18) U (aU g17 U) U ?_;refine bI (bp (us:=[iV x18.Kind,iV x18.N,.string x18.S]) 1 U aj U hx18 bW (fun _ _ _ h=>by rw [show _=_ from h];rfl)) U (aU g17 U) U ?_;obtain ⟨y19,hy19,h⟩:=aa h;refine cv (ak (ji hy19) vP U (ab) gH) U (aU g17 U) U ?_;rintro _ _ ⟨_,⟨rfl,rfl⟩,rfl⟩;refine D ?_;obtain rfl:=ao h;exact ac sA (cS [0,1,2] 3)
   have h:=ah g17 hb17;refine D ?_;obtain rfl:=ao h;exact ac sA (cS [0,1,2] 3)
  refine D ?_;obtain ⟨b20,hb20,h⟩:=aa h;refine aE 6 77 b20 ?_ ?_
  ·clear h;refine aD 71 U (fun g20=> ?_) (fun g20=> ?_)
   ·have h:=ag g20 hb20;refine D ?_;obtain ⟨x21,hx21,h⟩:=aa h;obtain ⟨lx21,ux21,hx21⟩:=au hx21;refine bI (aH 1 U aj U U hU aP lx21 ux21) U (aU g20 U) U ?_;refine bI (bp (us:=[iV x21.Kind,iV x21.N,.string x21.S]) 1 U aj U hx21 bW (fun _ _ _ h=>by rw [show _=_ from h];rfl)) U (aU g20 U) U ?_;obtain ⟨y22,hy22,h⟩:=aa h;refine cv (ak (ji hy22) vP U (ab) gH) U (aU g20 U) U ?_;rintro _ _ ⟨_,⟨rfl,rfl⟩,rfl⟩;refine D ?_;obtain rfl:=ao h;exact ac sA (cS [0,1,2] 3)
   have h:=ah g20 hb20;refine D ?_;obtain rfl:=ao h;exact ac sA (cS [0,1,2] 3)
  refine D ?_;obtain rfl:=ao h;exact aC U U (cS [] 3) ⟨U,U⟩
 replace h:=ah g16 h;refine D ?_;refine gR (aK 1 U aj U hU) ?_;refine D ?_;obtain rfl:=ao h;exact aC U U (cS [] 3) ⟨U,U⟩
theorem uV {r:Bool}: ∀v post,((fun (u:Value) (post:List Chunk)=>u=.bool r∧post=[])) v post→ ∀c∈post,cg c:=by
 rintro _ _ ⟨rfl,rfl⟩;exact ab
def gt (N:Nat)(a0:Q5)(a1:Int)(a2:Int):Option Bool:=
 (bif decide (a0.Kind=3) then (some (decide (a1≤a0.N))) else (some false)).bind fun b2=>(bif b2 then (some (decide (a0.N≤a2))) else (some false)).bind fun b3=>some b3
theorem jj {N:Nat}{a0:Q5}{a1:Int}{a2:Int}{r:Bool}(h:gt N a0 a1 a2=some r):Okc Tryz.prog 226 [.agg #[iV a0.Kind,iV a0.N,.string a0.S],iV a1,iV a2] ([]) (fun u post=>u=.bool r∧post=[]):=by
 refine bw Tryz.func226 U U ?_;simp only [aQ];refine D ?_;refine gD (bd U U) ?_;rintro _ _ ⟨B1,rfl,rfl⟩;refine D ?_;obtain ⟨b2,hb2,h⟩:=aa h;refine aE 5 15 b2 ?_ ?_
 ·clear h;refine aD 10 U (fun g2=> ?_) (fun g2=> ?_)
  ·have h:=ag g2 hb2;refine D ?_;obtain rfl:=ao h;exact ac sA (cS [0] 1)
  have h:=ah g2 hb2;refine D ?_;obtain rfl:=ao h;exact ac sA (cS [0] 1)
 refine D ?_;obtain ⟨b3,hb3,h⟩:=aa h;refine aE 5 21 b3 ?_ ?_
 ·clear h;refine aD 16 U (fun g3=> ?_) (fun g3=> ?_)
  ·have h:=ag g3 hb3;refine D ?_;obtain rfl:=ao h;exact ac sA (cS [0] 1)
  have h:=ah g3 hb3;refine D ?_;obtain rfl:=ao h;exact ac sA (cS [0] 1)
 refine D ?_;obtain rfl:=ao h;exact aC U U (cS [] 1) ⟨U,U⟩
theorem gI {r:Bool}: ∀v post,((fun (u:Value) (post:List Chunk)=>u=.bool r∧post=[])) v post→ ∀c∈post,cg c:=by
 rintro _ _ ⟨rfl,rfl⟩;exact ab
def ia (N:Nat){σ:Type}(fy:(List Q5)→σ→Option (Bool×σ))(a1:(List Q5))(a2:Int):Nat→Int→σ→Option σ
 |0,_,_=>none
 |m4+1,p5,p6=>bif decide (p5<(a1.length:Int)) then (bD ((0:Int)≤p5∧p5.toNat≤a1.length∧a1.length≤a1.length) (bD (in64 (p5+(min a2 (((a1.drop p5.toNat).take (a1.length - p5.toNat)).length:Int)))) (bD (in64 (p5+(min a2 (((a1.drop p5.toNat).take (a1.length - p5.toNat)).length:Int)))) (bD ((0:Int)≤p5∧(0:Int)≤p5+(min a2 (((a1.drop p5.toNat).take (a1.length - p5.toNat)).length:Int))∧p5.toNat≤(p5+(min a2 (((a1.drop p5.toNat).take (a1.length - p5.toNat)).length:Int))).toNat∧(p5+(min a2 (((a1.drop p5.toNat).take (a1.length - p5.toNat)).length:Int))).toNat≤a1.length) ((fy ((a1.drop p5.toNat).take ((p5+(min a2 (((a1.drop p5.toNat).take (a1.length - p5.toNat)).length:Int))).toNat - p5.toNat)) p6).bind fun y14=>bif !y14.1 then (some y14.2) else (bD (in64 (p5+a2)) ((ia N fy a1 a2 m4) (p5+a2) y14.2))))))) else (some p6)
def pH (N:Nat){σ:Type}(a1:(List Q5))(a2:Int)(fy:(List Q5)→σ→Option (Bool×σ))(s0:σ):Option σ:=
 ia N fy a1 a2 N 0 s0
theorem AG {N:Nat}{σ:Type}{a1:(List Q5)}{a2:Int}{fy:(List Q5)→σ→Option (Bool×σ)}{s0:σ}{r:σ}(h:pH N a1 a2 fy s0=some r){l:Nat}{G:σ→List Chunk}(hY:sD Tryz.prog l G (fun (x:(List Q5)) vs cs=> ∃A0 n0 c0,vs=[O A0 n0 c0]∧cs=[bm A0 n0 c0 x]) fy):Okc Tryz.prog 265 [.func (.yield l) #[] #[],pV B1 0,pV B3 0] (bE B1 38 [O A2 n2 c2]::bm A2 n2 c2 a1::bE B3 3 [iV a2]::(G s0)) (fun u post=>u=.tuple #[]∧post=G r):=by
 refine bw Tryz.func265 U U ?_;simp only [aQ];refine D ?_;refine bn (fun m s L=> ∃p5 p6,ia N fy a1 a2 m p5 p6=some r∧s=[(0,.func (.yield l) #[] #[]),(1,pV B1 0),(2,pV B3 0),(4,iV p5)]∧L=bm A2 n2 c2 a1::bE B1 38 [O A2 n2 c2]::bE B3 3 [iV a2]::(G p6)) N _ _ ⟨0,s0,h,U,U⟩ sA (cS [1,0,2] 3) ?_;rintro (_|m4) _ _ ⟨p5,p6,h,rfl,rfl⟩
 ·exact aB h
 rw [ia.eq_2] at h;refine az ?_;refine D ?_;refine gR (bC 1 U U dE U) ?_;refine gR (aK 0 U aj U hU) ?_;refine D ?_;refine av U (fun g7=> ?_) (fun g7=> ?_)
 ·replace h:=ag g7 h;refine D ?_;refine az ?_;refine gY ?_;refine az ?_;refine cn W _ (ai _) ?_;refine zR 0 U (bC 2 U U cZ U) ?_;refine zR 1 U (bC 1 U U dE U) ?_;refine zE 2 U (ax U) ?_;obtain ⟨q8,h⟩:=ap h;refine C9 0 U (l:=p5.toNat) (h:=a1.length) q8.2.1 q8.2.2 ?_;rintro A9 n9 c9 e9;refine zR 3 U (xG 1 U e9 U hU aP U (by rw [Int.toNat_of_nonneg q8.1];rfl) q8.2.1) ?_;refine zR 4 U (aK 0 U aj U hU) ?_;refine zE 5 U (OZ U U hJ hJ) ?_;refine zE 6 U (aI U) ?_;refine bB W ?_;refine D ?_;refine gR (bC 2 U U dE U) ?_;refine D ?_;obtain ⟨q10,h⟩:=ap h;refine gE (aW U U q10.1 q10.2) ?_;refine D ?_;obtain ⟨q11,h⟩:=ap h;refine gE (aW U U q11.1 q11.2) ?_;obtain ⟨q12,h⟩:=ap h;refine Ml 1 U (l:=p5.toNat) (h:=(p5+(min a2 (((a1.drop p5.toNat).take (a1.length - p5.toNat)).length:Int))).toNat) q12.2.2.1 q12.2.2.2 ?_;rintro A13 n13 c13 e13;refine gR (Ia 2 U e13 U hU aP U (by rw [Int.toNat_of_nonneg q12.1];rfl) (by rw [Int.toNat_of_nonneg q12.2.1];rfl) (by rw [Int.toNat_of_nonneg q12.2.1];rfl) q12.2.2.1 q12.2.2.2) ?_;obtain ⟨y14,hy14,h⟩:=aa h
  refine gD (DX (a:=(a1.drop p5.toNat).take ((p5+(min a2 (((a1.drop p5.toNat).take (a1.length - p5.toNat)).length:Int))).toNat - p5.toNat)) [bm A13 n13 c13 ((a1.drop p5.toNat).take ((p5+(min a2 (((a1.drop p5.toNat).take (a1.length - p5.toNat)).length:Int))).toNat - p5.toNat)),bm A9 n9 c9 ((a1.drop p5.toNat).take (a1.length - p5.toNat)),bm A2 n2 c2 a1,bE B1 38 [O A2 n2 c2],bE B3 3 [iV a2]] hY hy14 U U ⟨_,_,_,U,U⟩ (HI 0 U U)) ?_;rintro _ _ ⟨rfl,rfl⟩;refine D ?_;refine av U (fun g15=> ?_) (fun g15=> ?_)
  ·replace h:=ag g15 h;refine D ?_;obtain rfl:=ao h;exact El U (cS [] 5) ⟨U,U⟩
  replace h:=ah g15 h;refine D ?_;refine gR (bC 4 U U cZ U) ?_;obtain ⟨q16,h⟩:=ap h;refine gE (aW U U q16.1 q16.2) ?_;refine D ?_;exact ⟨m4,_,_,Rm _,⟨p5+a2,y14.2,h,U,U⟩,sA,cS [2,3,4] 5⟩
 replace h:=ah g7 h;refine D ?_;obtain rfl:=ao h;exact ld U (cS [] 3) ⟨U,U⟩
def jy (N:Nat)(a0:(List Q5))(a1:Int):Option Unit:=
 bif decide (a1<1) then none else (some ())
theorem vY {N:Nat}{a0:(List Q5)}{a1:Int}{r:Unit}(h:jy N a0 a1=some r):Okc Tryz.prog 255 [O A1 n1 c1,iV a1] ([bm A1 n1 c1 a0]) (fun u post=> ∃B900 B901,u=.func (.func 265) #[] #[pV B900 0,pV B901 0]∧post=[ay B900 38 [O A1 n1 c1],ay B901 3 [iV a1]]):=by
 refine bw Tryz.func255 U U ?_;simp only [aQ];refine D ?_;refine gD (bd U U) ?_;rintro _ _ ⟨B2,rfl,rfl⟩;refine gD (bd U U) ?_;rintro _ _ ⟨B3,rfl,rfl⟩;refine D ?_;refine az ?_;refine D ?_;refine av U (fun g4=> ?_) (fun g4=> ?_)
 ·replace h:=ag g4 h;exact aB h
 replace h:=ah g4 h;refine D ?_;refine gE (ey U) ?_;refine D ?_;obtain rfl:=ao h;exact aC U U (cS [1,0] 3) ⟨_,_,U,U⟩
theorem tT {a1:Int}{A1:Option Addr}{n1:Nat}{c1:Nat}: ∀v post,((fun (u:Value) (post:List Chunk)=> ∃B900 B901,u=.func (.func 265) #[] #[pV B900 0,pV B901 0]∧post=[ay B900 38 [O A1 n1 c1],ay B901 3 [iV a1]])) v post→ ∀c∈post,cg c:=by
 rintro _ _ ⟨_,_,rfl,rfl⟩;exact hE oH (hE oH (ab))
def cr (N:Nat)(a1:Int)(x9:(List Q5)):(Unit)→Option (Option Exit×Unit)
 |()=>(aM x9 0).bind fun x12=>(bif !decide (x12.Kind=7) then (some true) else ((aM x9 1).bind fun x14=>some (decide (x14.Kind=8)))).bind fun b13=>bif b13 then (some (some .ret,())) else ((bif decide (a1=4) then ((aM x9 2).bind fun x17=>(gr N x17 7).bind fun y18=>(bif !y18 then (some true) else ((aM x9 3).bind fun x20=>(gt N x20 0 9007199254740992).bind fun y21=>some (!y21))).bind fun b19=>some b19) else (some false)).bind fun b16=>bif b16 then (some (some .ret,())) else (some (none,())))
def dN (N:Nat)(a0:(List Q5))(a1:Int):Option Bool:=
 bD (a1≠0) (bif !decide ((a0.length:Int).tmod a1=0) then (some false) else ((jy N a0 a1).bind fun y6=>(pH N a0 a1 (da (fun x st=>cr N a1 x st)) (none,())).bind fun y11=>nH y11.1 (some true) (some false) (fun _=>none)))
theorem oL {N:Nat}{a0:(List Q5)}{a1:Int}{r:Bool}(h:dN N a0 a1=some r):Okc Tryz.prog 227 [O A1 n1 c1,iV a1] ([bm A1 n1 c1 a0]) (fun u post=>u=.bool r∧post=[]):=by
 refine bw Tryz.func227 U U ?_;simp only [aQ];refine D ?_;refine gD (bd U U) ?_;rintro _ _ ⟨B2,rfl,rfl⟩;refine gD (aN FM U) ?_;rintro _ _ ⟨B3,rfl,rfl⟩;refine D ?_;refine az ?_;refine D ?_;refine gR (aK 2 U aj U hU) ?_;refine D ?_;obtain ⟨q4,h⟩:=ap h;refine gE (mx U U q4) ?_;refine D ?_;refine av U (fun g5=> ?_) (fun g5=> ?_)
 ·replace h:=ag g5 h;refine D ?_;refine gO (aq (us:=[.bool false]) (cs':=[.bool false]) 0 U U U U wo U U U) ?_;rintro _ _ rfl;refine D ?_;obtain rfl:=ao h;exact dt (rs:=[.cell 4 4]) (vs:=[.bool false]) U (.cons (qM 0 U U Gc) .nil) U (cS [] 3) ⟨U,U⟩
 replace h:=ah g5 h;refine D ?_;refine az ?_;refine D ?_;obtain ⟨y6,hy6,h⟩:=aa h;refine gD (ak (vY hy6) Nx U (hE (ad (i:=2) U U) ab) tT) ?_;rintro _ _ ⟨_,⟨B7,B8,rfl,rfl⟩,rfl⟩;refine rq ?_;refine gM ?_;refine gT ?_ bv (gG 0 U);refine gT ?_ bv (gG 1 U);refine Dy ?_;obtain ⟨y11,hy11,h⟩:=aa h;refine EC (R:=(fun (x:(List Q5)) vs cs=> ∃A0 n0 c0,vs=[O A0 n0 c0]∧cs=[bm A0 n0 c0 x])) (fun x st=>cr N a1 x st) (fun (st:Unit) (mz:Unit)=> [ay B2 3 [iV a1],ay B3 4 [.bool false]]) [bE B7 38 [O A1 n1 c1],bm A1 n1 c1 a0,bE B8 3 [iV a1]] (()) (()) U U Nw U (by rintro _ _ _ ⟨_,_,_,rfl,rfl⟩;rfl) (fun l G hY=>(AG hy11 hY).mono fun _ _ hh=>hh.2) (aJ [0,4,1] [] [3,2] 5 U) h ?_ ?_ ?_ ?_
 ·rintro l x9 _ je sr9 _ h _ _ ⟨A10,n10,c10,rfl,rfl⟩;replace h:cr N a1 x9 ()=some (je,sr9):=h;simp only [yE,List.zip_cons_cons,List.zip_nil_left,List.zip_nil_right,List.reverse_cons,List.reverse_nil,List.nil_append,List.cons_append];refine D ?_;refine az ?_;refine D ?_;obtain ⟨x12,hx12,h⟩:=aa h;obtain ⟨lx12,ux12,hx12⟩:=au hx12;refine gR (aH 0 U aj U U hU aP lx12 ux12) ?_;refine gR (lE 0 U aj U (bo lx12 ux12) fw) ?_;refine gR (aY (u:=iV x12.Kind) 0 U aj U hx12 cZ (fun _ _ _ h=>by rw [show _=_ from h];rfl)) ?_;refine D ?_;obtain ⟨b13,hb13,h⟩:=aa h;refine aE 6 26 b13 ?_ ?_
  ·clear h;refine aD 20 U (fun g13=> ?_) (fun g13=> ?_)
   ·have h:=ag g13 hb13;refine D ?_;obtain rfl:=ao h;exact ac sA (cS [0,1,2] 3)
   have h:=ah g13 hb13;refine D ?_;obtain ⟨x14,hx14,h⟩:=aa h;obtain ⟨lx14,ux14,hx14⟩:=au hx14;refine bI (aH 0 U aj U U hU aP lx14 ux14) U (bV g13 U) U ?_;refine bI (lE 0 U aj U (bo lx14 ux14) fw) U (bV g13 U) U ?_;refine bI (aY (u:=iV x14.Kind) 0 U aj U hx14 cZ (fun _ _ _ h=>by rw [show _=_ from h];rfl)) U (bV g13 U) U ?_;refine D ?_;obtain rfl:=ao h;exact ac sA (cS [0,1,2] 3)
  refine D ?_;refine av U (fun g15=> ?_) (fun g15=> ?_)
  ·replace h:=ag g15 h;refine D ?_;refine gO (aq (us:=[.bool false]) (cs':=[.bool false]) 2 U U U U wo U U U) ?_;rintro _ _ rfl;refine D ?_;obtain ⟨rfl,rfl⟩:=Prod.mk.inj (Option.some.inj h);exact HT ((cS [1,2] 3).trans (fL () U))
  replace h:=ah g15 h;refine D ?_;obtain ⟨b16,hb16,h⟩:=aa h;refine aE 13 42 b16 ?_ ?_
  ·clear h;refine aD 29 U (fun g16=> ?_) (fun g16=> ?_)
   ·have h:=ag g16 hb16;refine D ?_;obtain ⟨x17,hx17,h⟩:=aa h;obtain ⟨lx17,ux17,hx17⟩:=au hx17;refine bI (aH 0 U aj U U hU aP lx17 ux17) U (aU g16 U) U ?_;refine bI (bp (us:=[iV x17.Kind,iV x17.N,.string x17.S]) 0 U aj U hx17 bW (fun _ _ _ h=>by rw [show _=_ from h];rfl)) U (aU g16 U) U ?_;obtain ⟨y18,hy18,h⟩:=aa h;refine cv (ak (ji hy18) vP U (ab) gH) U (aU g16 U) U ?_;rintro _ _ ⟨_,⟨rfl,rfl⟩,rfl⟩;refine D ?_;obtain ⟨b19,hb19,h⟩:=aa h;refine aE 6 41 b19 ?_ ?_
    ·clear h;refine aD 35 U (fun g19=> ?_) (fun g19=> ?_)
     ·have h:=ag g19 hb19;refine D ?_;obtain rfl:=ao h;exact ac sA (cS [0,1,2] 3)
     have h:=ah g19 hb19;refine D ?_;obtain ⟨x20,hx20,h⟩:=aa h;obtain ⟨lx20,ux20,hx20⟩:=au hx20;refine bI (aH 0 U aj U U hU aP lx20 ux20) U (bV g19 U) U ?_;refine bI (bp (us:=[iV x20.Kind,iV x20.N,.string x20.S]) 0 U aj U hx20 bW (fun _ _ _ h=>by rw [show _=_ from h];rfl)) U (bV g19 U) U ?_;obtain ⟨y21,hy21,h⟩:=aa h;refine cv (ak (jj hy21) vO U (ab) gI) U (bV g19 U) U ?_;rintro _ _ ⟨_,⟨rfl,rfl⟩,rfl⟩;refine D ?_;obtain rfl:=ao h;exact ac sA (cS [0,1,2] 3)
    refine D ?_;obtain rfl:=ao h;exact ac sA (cS [0,1,2] 3)
   have h:=ah g16 hb16;refine D ?_;obtain rfl:=ao h;exact ac sA (cS [0,1,2] 3)
  refine D ?_;refine av U (fun g22=> ?_) (fun g22=> ?_)
  ·replace h:=ag g22 h;refine D ?_;refine gO (aq (us:=[.bool false]) (cs':=[.bool false]) 2 U U U U wo U U U) ?_;rintro _ _ rfl;refine D ?_;obtain ⟨rfl,rfl⟩:=Prod.mk.inj (Option.some.inj h);exact HT ((cS [1,2] 3).trans (fL () U))
  replace h:=ah g22 h;refine D ?_;obtain ⟨rfl,rfl⟩:=Prod.mk.inj (Option.some.inj h);exact AS ((cS [1,2] 3).trans (fL () U))
 ·rintro _ h;refine oq ([ay B2 3 [iV a1],ay B3 4 [.bool false]]) U ?_;refine D ?_;refine gO (aq (us:=[.bool true]) (cs':=[.bool true]) 1 U U U U wo U U U) ?_;rintro _ _ rfl;refine cq ?_;refine D ?_;obtain rfl:=ao h;exact dt (rs:=[.cell 4 4]) (vs:=[.bool true]) U (.cons (qM 1 U U Gc) .nil) U (cS [] 2) ⟨U,U⟩
 ·rintro _ h;refine oq ([ay B2 3 [iV a1],ay B3 4 [.bool false]]) U ?_;refine D ?_;obtain rfl:=ao h;exact dt (rs:=[.cell 4 4]) (vs:=[.bool false]) U (.cons (qM 1 U U Gc) .nil) U (cS [] 2) ⟨U,U⟩
 rintro i _ h;exact aB h
theorem nq {r:Bool}: ∀v post,((fun (u:Value) (post:List Chunk)=>u=.bool r∧post=[])) v post→ ∀c∈post,cg c:=by
 rintro _ _ ⟨rfl,rfl⟩;exact ab
def kE (N:Nat)(a0:Int)(a1:(List Q5))(p5:Bool):Option Bool:=
 bif p5 then (some (decide ((a1.length:Int)=0))) else (bif decide (a0=3) then ((bif decide ((a1.length:Int)=3) then ((aM a1 0).bind fun x10=>(gt N x10 0 9007199254740992).bind fun y11=>some y11) else (some false)).bind fun b9=>(bif b9 then ((aM a1 1).bind fun x13=>(gr N x13 9).bind fun y14=>some y14) else (some false)).bind fun b12=>some b12) else (bif decide (a0=4) then ((bif decide (1≤(a1.length:Int)) then (some (decide ((a1.length:Int)≤4097))) else (some false)).bind fun b16=>(bif b16 then ((aM a1 0).bind fun x18=>(gr N x18 9).bind fun y19=>some y19) else (some false)).bind fun b17=>some b17) else (bif decide (a0=6) then ((bif decide ((a1.length:Int)=2) then ((aM a1 0).bind fun x22=>(gt N x22 0 3).bind fun y23=>some y23) else (some false)).bind fun b21=>(bif b21 then ((aM a1 1).bind fun x25=>(gr N x25 9).bind fun y26=>some y26) else (some false)).bind fun b24=>some b24) else (bif decide (a0=7) then ((bif decide (4≤(a1.length:Int)) then ((aM a1 2).bind fun x29=>(gt N x29 0 1).bind fun y30=>some y30) else (some false)).bind fun b28=>(bif b28 then ((aM a1 3).bind fun x32=>(gt N x32 0 9007199254740992).bind fun y33=>some y33) else (some false)).bind fun b31=>some b31) else (bif decide (a0=8) then ((dN N a1 2).bind fun y35=>some y35) else (bif decide (a0=10) then ((bif decide (1≤(a1.length:Int)) then ((aM a1 0).bind fun x38=>some (decide (x38.Kind=7))) else (some false)).bind fun b37=>(bif b37 then (bD ((0:Int)≤1∧(1:Int).toNat≤a1.length∧a1.length≤a1.length) ((dN N ((a1.drop ((1:Int).toNat)).take (a1.length - (1:Int).toNat)) 4).bind fun y42=>some y42)) else (some false)).bind fun b39=>some b39) else (bif decide (a0=9) then ((bif decide (2≤(a1.length:Int)) then ((aM a1 0).bind fun x45=>(gt N x45 0 2).bind fun y46=>some y46) else (some false)).bind fun b44=>some b44) else (some true))))))))
def jk (N:Nat)(a0:Int)(a1:(List Q5)):Option Bool:=
 bif decide (1048576<(a1.length:Int)) then (some false) else (bif decide (a0=2) then (some (decide ((a1.length:Int)≤4096))) else (bif decide (a0=1) then (kE N a0 a1 (decide (a0=1))) else (kE N a0 a1 (decide (a0=5)))))
set_option maxHeartbeats 4000000 in
theorem yJ {N:Nat}{a0:Int}{a1:(List Q5)}{r:Bool}(h:jk N a0 a1=some r):Okc Tryz.prog 171 [iV a0,O A1 n1 c1] ([bm A1 n1 c1 a1]) (fun u post=>u=.bool r∧post=[]):=by
 refine bw Tryz.func171 U U ?_;simp only [aQ];refine D ?_;refine az ?_;refine D ?_;refine gR (aK 0 U aj U hU) ?_;refine D ?_;refine av U (fun g2=> ?_) (fun g2=> ?_)
 ·replace h:=ag g2 h;refine D ?_;obtain rfl:=ao h;exact aC U U (cS [] 1) ⟨U,U⟩
 replace h:=ah g2 h;refine D ?_;refine az ?_;refine D ?_;refine av U (fun g3=> ?_) (fun g3=> ?_)
 ·replace h:=ag g3 h;refine D ?_;refine gR (aK 0 U aj U hU) ?_;refine D ?_;obtain rfl:=ao h;exact aC U U (cS [] 1) ⟨U,U⟩
 replace h:=ah g3 h;refine aO (fun s L=> ∃p5,kE N a0 a1 p5=some r∧s=[(1,O A1 n1 c1),(4,.bool false),(8,iV a0),(14,.bool p5)]∧L=[bm A1 n1 c1 a1]) ?_ ?_
 ·refine D ?_;refine av U (fun g6=> ?_) (fun g6=> ?_)
  ·replace h:=ag g6 h;refine D ?_;exact ⟨_,_,⟨decide (a0=1),h,U,U⟩,sA,cS [0] 1⟩
  replace h:=ah g6 h;refine D ?_;exact ⟨_,_,⟨decide (a0=5),h,U,U⟩,sA,cS [0] 1⟩
 rintro _ _ ⟨p5,h,rfl,rfl⟩;refine av U (fun g7=> ?_) (fun g7=> ?_)
 ·replace h:=ag g7 h;refine D ?_;refine gR (aK 0 U aj U hU) ?_;refine D ?_;obtain rfl:=ao h;exact aC U U (cS [] 1) ⟨U,U⟩
 replace h:=ah g7 h;refine D ?_;refine av U (fun g8=> ?_) (fun g8=> ?_)
 ·replace h:=ag g8 h;refine D ?_;refine gR (aK 0 U aj U hU) ?_;refine D ?_;obtain ⟨b9,hb9,h⟩:=aa h;refine aE 5 30 b9 ?_ ?_
  ·clear h;refine aD 25 U (fun g9=> ?_) (fun g9=> ?_)
   ·have h:=ag g9 hb9;refine D ?_;obtain ⟨x10,hx10,h⟩:=aa h;obtain ⟨lx10,ux10,hx10⟩:=au hx10;refine bI (aH 0 U aj U U hU aP lx10 ux10) U (aU g9 U) U ?_;refine bI (bp (us:=[iV x10.Kind,iV x10.N,.string x10.S]) 0 U aj U hx10 bW (fun _ _ _ h=>by rw [show _=_ from h];rfl)) U (aU g9 U) U ?_;obtain ⟨y11,hy11,h⟩:=aa h;refine cv (ak (jj hy11) vO U (ab) gI) U (aU g9 U) U ?_;rintro _ _ ⟨_,⟨rfl,rfl⟩,rfl⟩;refine D ?_;obtain rfl:=ao h;exact ac sA (cS [0] 1)
   have h:=ah g9 hb9;refine D ?_;obtain rfl:=ao h;exact ac sA (cS [0] 1)
  refine D ?_;obtain ⟨b12,hb12,h⟩:=aa h;refine aE 5 36 b12 ?_ ?_
  ·clear h;refine aD 31 U (fun g12=> ?_) (fun g12=> ?_)
   ·have h:=ag g12 hb12;refine D ?_;obtain ⟨x13,hx13,h⟩:=aa h;obtain ⟨lx13,ux13,hx13⟩:=au hx13;refine bI (aH 0 U aj U U hU aP lx13 ux13) U (aU g12 U) U ?_;refine bI (bp (us:=[iV x13.Kind,iV x13.N,.string x13.S]) 0 U aj U hx13 bW (fun _ _ _ h=>by rw [show _=_ from h];rfl)) U (aU g12 U) U ?_;obtain ⟨y14,hy14,h⟩:=aa h;refine cv (ak (ji hy14) vP U (ab) gH) U (aU g12 U) U ?_;rintro _ _ ⟨_,⟨rfl,rfl⟩,rfl⟩;refine D ?_;obtain rfl:=ao h;exact ac sA (cS [0] 1)
   have h:=ah g12 hb12;refine D ?_;obtain rfl:=ao h;exact ac sA (cS [0] 1)
  refine D ?_;obtain rfl:=ao h;exact aC U U (cS [] 1) ⟨U,U⟩
 replace h:=ah g8 h;refine D ?_;refine av U (fun g15=> ?_) (fun g15=> ?_)
 ·replace h:=ag g15 h;refine D ?_;refine gR (aK 0 U aj U hU) ?_;refine D ?_;obtain ⟨b16,hb16,h⟩:=aa h;refine aE 4 46 b16 ?_ ?_
  ·clear h;refine aD 42 U (fun g16=> ?_) (fun g16=> ?_)
   ·have h:=ag g16 hb16;refine D ?_;refine bI (aK 0 U aj U hU) U (aU g16 U) U ?_;refine D ?_;obtain rfl:=ao h;exact ac sA (cS [0] 1)
   have h:=ah g16 hb16;refine D ?_;obtain rfl:=ao h;exact ac sA (cS [0] 1)
  refine D ?_;obtain ⟨b17,hb17,h⟩:=aa h;refine aE 5 52 b17 ?_ ?_
  ·clear h;refine aD 47 U (fun g17=> ?_) (fun g17=> ?_)
   ·have h:=ag g17 hb17;refine D ?_;obtain ⟨x18,hx18,h⟩:=aa h;obtain ⟨lx18,ux18,hx18⟩:=au hx18;refine bI (aH 0 U aj U U hU aP lx18 ux18) U (aU g17 U) U ?_;refine bI (bp (us:=[iV x18.Kind,iV x18.N,.string x18.S]) 0 U aj U hx18 bW (fun _ _ _ h=>by rw [show _=_ from h];rfl)) U (aU g17 U) U ?_;obtain ⟨y19,hy19,h⟩:=aa h;refine cv (ak (ji hy19) vP U (ab) gH) U (aU g17 U) U ?_;rintro _ _ ⟨_,⟨rfl,rfl⟩,rfl⟩;refine D ?_;obtain rfl:=ao h;exact ac sA (cS [0] 1)
   have h:=ah g17 hb17;refine D ?_;obtain rfl:=ao h;exact ac sA (cS [0] 1)
  refine D ?_;obtain rfl:=ao h;exact aC U U (cS [] 1) ⟨U,U⟩
 replace h:=ah g15 h;refine D ?_;refine av U (fun g20=> ?_) (fun g20=> ?_)
 ·replace h:=ag g20 h;refine D ?_;refine gR (aK 0 U aj U hU) ?_;refine D ?_;obtain ⟨b21,hb21,h⟩:=aa h;refine aE 5 63 b21 ?_ ?_
  ·clear h;refine aD 58 U (fun g21=> ?_) (fun g21=> ?_)
   ·have h:=ag g21 hb21;refine D ?_;obtain ⟨x22,hx22,h⟩:=aa h;obtain ⟨lx22,ux22,hx22⟩:=au hx22;refine bI (aH 0 U aj U U hU aP lx22 ux22) U (aU g21 U) U ?_;refine bI (bp (us:=[iV x22.Kind,iV x22.N,.string x22.S]) 0 U aj U hx22 bW (fun _ _ _ h=>by rw [show _=_ from h];rfl)) U (aU g21 U) U ?_;obtain ⟨y23,hy23,h⟩:=aa h;refine cv (ak (jj hy23) vO U (ab) gI) U (aU g21 U) U ?_;rintro _ _ ⟨_,⟨rfl,rfl⟩,rfl⟩;refine D ?_;obtain rfl:=ao h;exact ac sA (cS [0] 1)
   have h:=ah g21 hb21;refine D ?_;obtain rfl:=ao h;exact ac sA (cS [0] 1)
  refine D ?_;obtain ⟨b24,hb24,h⟩:=aa h;refine aE 5 69 b24 ?_ ?_
  ·clear h;refine aD 64 U (fun g24=> ?_) (fun g24=> ?_)
   ·have h:=ag g24 hb24;refine D ?_;obtain ⟨x25,hx25,h⟩:=aa h;obtain ⟨lx25,ux25,hx25⟩:=au hx25;refine bI (aH 0 U aj U U hU aP lx25 ux25) U (aU g24 U) U ?_;refine bI (bp (us:=[iV x25.Kind,iV x25.N,.string x25.S]) 0 U aj U hx25 bW (fun _ _ _ h=>by rw [show _=_ from h];rfl)) U (aU g24 U) U ?_;obtain ⟨y26,hy26,h⟩:=aa h;refine cv (ak (ji hy26) vP U (ab) gH) U (aU g24 U) U ?_;rintro _ _ ⟨_,⟨rfl,rfl⟩,rfl⟩;refine D ?_;obtain rfl:=ao h;exact ac sA (cS [0] 1)
   have h:=ah g24 hb24;refine D ?_;obtain rfl:=ao h;exact ac sA (cS [0] 1)
  refine D ?_;obtain rfl:=ao h;exact aC U U (cS [] 1) ⟨U,U⟩
 replace h:=ah g20 h;refine D ?_;refine av U (fun g27=> ?_) (fun g27=> ?_)
 ·replace h:=ag g27 h;refine D ?_;refine gR (aK 0 U aj U hU) ?_;refine D ?_;obtain ⟨b28,hb28,h⟩:=aa h;refine aE 5 80 b28 ?_ ?_
  ·clear h;refine aD 75 U (fun g28=> ?_) (fun g28=> ?_)
   ·have h:=ag g28 hb28;refine D ?_;obtain ⟨x29,hx29,h⟩:=aa h;obtain ⟨lx29,ux29,hx29⟩:=au hx29;refine bI (aH 0 U aj U U hU aP lx29 ux29) U (aU g28 U) U ?_;refine bI (bp (us:=[iV x29.Kind,iV x29.N,.string x29.S]) 0 U aj U hx29 bW (fun _ _ _ h=>by rw [show _=_ from h];rfl)) U (aU g28 U) U ?_;obtain ⟨y30,hy30,h⟩:=aa h;refine cv (ak (jj hy30) vO U (ab) gI) U (aU g28 U) U ?_;rintro _ _ ⟨_,⟨rfl,rfl⟩,rfl⟩;refine D ?_;obtain rfl:=ao h;exact ac sA (cS [0] 1)
   have h:=ah g28 hb28;refine D ?_;obtain rfl:=ao h;exact ac sA (cS [0] 1)
  refine D ?_;obtain ⟨b31,hb31,h⟩:=aa h;refine aE 5 86 b31 ?_ ?_
  ·clear h;refine aD 81 U (fun g31=> ?_) (fun g31=> ?_)
   ·have h:=ag g31 hb31;refine D ?_;obtain ⟨x32,hx32,h⟩:=aa h;obtain ⟨lx32,ux32,hx32⟩:=au hx32;refine bI (aH 0 U aj U U hU aP lx32 ux32) U (aU g31 U) U ?_;refine bI (bp (us:=[iV x32.Kind,iV x32.N,.string x32.S]) 0 U aj U hx32 bW (fun _ _ _ h=>by rw [show _=_ from h];rfl)) U (aU g31 U) U ?_;obtain ⟨y33,hy33,h⟩:=aa h;refine cv (ak (jj hy33) vO U (ab) gI) U (aU g31 U) U ?_;rintro _ _ ⟨_,⟨rfl,rfl⟩,rfl⟩;refine D ?_;obtain rfl:=ao h;exact ac sA (cS [0] 1)
   have h:=ah g31 hb31;refine D ?_;obtain rfl:=ao h;exact ac sA (cS [0] 1)
  refine D ?_;obtain rfl:=ao h;exact aC U U (cS [] 1) ⟨U,U⟩
 replace h:=ah g27 h;refine D ?_;refine av U (fun g34=> ?_) (fun g34=> ?_)
 ·replace h:=ag g34 h;refine D ?_;obtain ⟨y35,hy35,h⟩:=aa h;refine gD (ak (oL hy35) Iz U (hE (ad (i:=0) U U) ab) nq) ?_;rintro _ _ ⟨_,⟨rfl,rfl⟩,rfl⟩;refine D ?_;obtain rfl:=ao h;exact aC U U (cS [] 1) ⟨U,U⟩
 replace h:=ah g34 h;refine D ?_;refine av U (fun g36=> ?_) (fun g36=> ?_)
 ·replace h:=ag g36 h;refine D ?_;refine gR (aK 0 U aj U hU) ?_;refine D ?_;obtain ⟨b37,hb37,h⟩:=aa h;refine aE 6 102 b37 ?_ ?_
  ·clear h;refine aD 96 U (fun g37=> ?_) (fun g37=> ?_)
   ·have h:=ag g37 hb37;refine D ?_;obtain ⟨x38,hx38,h⟩:=aa h;obtain ⟨lx38,ux38,hx38⟩:=au hx38;refine bI (aH 0 U aj U U hU aP lx38 ux38) U (aU g37 U) U ?_;refine bI (lE 0 U aj U (bo lx38 ux38) fw) U (aU g37 U) U ?_;refine bI (aY (u:=iV x38.Kind) 0 U aj U hx38 cZ (fun _ _ _ h=>by rw [show _=_ from h];rfl)) U (aU g37 U) U ?_;refine D ?_;obtain rfl:=ao h;exact ac sA (cS [0] 1)
   have h:=ah g37 hb37;refine D ?_;obtain rfl:=ao h;exact ac sA (cS [0] 1)
  refine D ?_;obtain ⟨b39,hb39,h⟩:=aa h;refine aE 4 107 b39 ?_ ?_
  ·clear h;refine aD 103 U (fun g39=> ?_) (fun g39=> ?_)
   ·have h:=ag g39 hb39;refine D ?_;obtain ⟨q40,h⟩:=ap h;refine Mm 0 U (l:=(1:Int).toNat) (h:=a1.length) q40.2.1 q40.2.2 ?_;rintro A41 n41 c41 e41;refine bI (xG 1 U e41 U hU aP U (by rw [Int.toNat_of_nonneg q40.1];rfl) q40.2.1) U (aU g39 U) U ?_;obtain ⟨y42,hy42,h⟩:=aa h;refine cv (ak (oL hy42) Iz U (hE (ad (i:=0) U U) ab) nq) U (aU g39 U) U ?_;rintro _ _ ⟨_,⟨rfl,rfl⟩,rfl⟩;refine D ?_;obtain rfl:=ao h;exact ac sA (cS [1] 2)
   have h:=ah g39 hb39;refine D ?_;obtain rfl:=ao h;exact ac sA (cS [0] 1)
  refine D ?_;obtain rfl:=ao h;exact aC U U (cS [] 1) ⟨U,U⟩
 replace h:=ah g36 h;refine D ?_;refine av U (fun g43=> ?_) (fun g43=> ?_)
 ·replace h:=ag g43 h;refine D ?_;refine gR (aK 0 U aj U hU) ?_;refine D ?_;obtain ⟨b44,hb44,h⟩:=aa h;refine aE 5 118 b44 ?_ ?_
  ·clear h;refine aD 113 U (fun g44=> ?_) (fun g44=> ?_)
   ·have h:=ag g44 hb44;refine D ?_;obtain ⟨x45,hx45,h⟩:=aa h;obtain ⟨lx45,ux45,hx45⟩:=au hx45;refine bI (aH 0 U aj U U hU aP lx45 ux45) U (aU g44 U) U ?_;refine bI (bp (us:=[iV x45.Kind,iV x45.N,.string x45.S]) 0 U aj U hx45 bW (fun _ _ _ h=>by rw [show _=_ from h];rfl)) U (aU g44 U) U ?_;obtain ⟨y46,hy46,h⟩:=aa h;refine cv (ak (jj hy46) vO U (ab) gI) U (aU g44 U) U ?_;rintro _ _ ⟨_,⟨rfl,rfl⟩,rfl⟩;refine D ?_;obtain rfl:=ao h;exact ac sA (cS [0] 1)
   have h:=ah g44 hb44;refine D ?_;obtain rfl:=ao h;exact ac sA (cS [0] 1)
  refine D ?_;obtain rfl:=ao h;exact aC U U (cS [] 1) ⟨U,U⟩
 replace h:=ah g43 h;refine D ?_;obtain rfl:=ao h;exact aC U U (cS [] 1) ⟨U,U⟩
theorem wi {r:Bool}: ∀v post,((fun (u:Value) (post:List Chunk)=>u=.bool r∧post=[])) v post→ ∀c∈post,cg c:=by
 rintro _ _ ⟨rfl,rfl⟩;exact ab
def fM (N:Nat)(a0:Ra)(x14:Bool×Q5):(Unit)→Option (Option Exit×Unit)
 |()=>(th N x14.2).bind fun y17=>bif !y17 then (some (some .ret,())) else (some (none,()))
def dH (N:Nat)(a0:Ra):Option Bool:=
 (bif decide (a0.Kind<1) then (some true) else (some (decide (11<a0.Kind)))).bind fun b5=>(bif b5 then (some true) else (some (decide (a0.Shape<0)))).bind fun b6=>(bif b6 then (some true) else (some (decide (a0.Flags<0)))).bind fun b7=>(bif b7 then (some true) else (some (decide (63<a0.Flags)))).bind fun b8=>(bif b8 then (some true) else ((bif !decide (a0.Age=0) then (some (!decide (a0.Age=1))) else (some false)).bind fun b10=>some b10)).bind fun b9=>bif b9 then (some false) else ((qr N a0).bind fun y12=>(lY N a0 (da (fun x st=>fM N a0 x st)) (none,())).bind fun y15=>nH y15.1 ((iF N a0).bind fun y19=>(bif y19 then ((jk N a0.Kind a0.More).bind fun y21=>some y21) else (some false)).bind fun b20=>some b20) (some false) (fun _=>none))
theorem kg {N:Nat}{a0:Ra}{r:Bool}(h:dH N a0=some r):Okc Tryz.prog 94 [.agg #[iV a0.Kind,iV a0.Shape,iV a0.Flags,iV a0.Age,O A1 n1 c1,O A2 n2 c2]] ([bm A1 n1 c1 a0.Slots,bm A2 n2 c2 a0.More]) (fun u post=>u=.bool r∧post=[]):=by
 refine bw Tryz.func94 U U ?_;simp only [aQ];refine D ?_;refine gD (bd U U) ?_;rintro _ _ ⟨B3,rfl,rfl⟩;refine gD (aN FM U) ?_;rintro _ _ ⟨B4,rfl,rfl⟩;refine D ?_;refine az ?_;refine D ?_;obtain ⟨b5,hb5,h⟩:=aa h;refine aE 4 12 b5 ?_ ?_
 ·clear h;refine aD 8 U (fun g5=> ?_) (fun g5=> ?_)
  ·have h:=ag g5 hb5;refine D ?_;obtain rfl:=ao h;exact ac sA (cS [0,1,2,3] 4)
  have h:=ah g5 hb5;refine D ?_;obtain rfl:=ao h;exact ac sA (cS [0,1,2,3] 4)
 refine D ?_;obtain ⟨b6,hb6,h⟩:=aa h;refine aE 4 17 b6 ?_ ?_
 ·clear h;refine aD 13 U (fun g6=> ?_) (fun g6=> ?_)
  ·have h:=ag g6 hb6;refine D ?_;obtain rfl:=ao h;exact ac sA (cS [0,1,2,3] 4)
  have h:=ah g6 hb6;refine D ?_;obtain rfl:=ao h;exact ac sA (cS [0,1,2,3] 4)
 refine D ?_;obtain ⟨b7,hb7,h⟩:=aa h;refine aE 4 22 b7 ?_ ?_
 ·clear h;refine aD 18 U (fun g7=> ?_) (fun g7=> ?_)
  ·have h:=ag g7 hb7;refine D ?_;obtain rfl:=ao h;exact ac sA (cS [0,1,2,3] 4)
  have h:=ah g7 hb7;refine D ?_;obtain rfl:=ao h;exact ac sA (cS [0,1,2,3] 4)
 refine D ?_;obtain ⟨b8,hb8,h⟩:=aa h;refine aE 4 27 b8 ?_ ?_
 ·clear h;refine aD 23 U (fun g8=> ?_) (fun g8=> ?_)
  ·have h:=ag g8 hb8;refine D ?_;obtain rfl:=ao h;exact ac sA (cS [0,1,2,3] 4)
  have h:=ah g8 hb8;refine D ?_;obtain rfl:=ao h;exact ac sA (cS [0,1,2,3] 4)
 refine D ?_;obtain ⟨b9,hb9,h⟩:=aa h;refine aE 9 37 b9 ?_ ?_
 ·clear h;refine aD 28 U (fun g9=> ?_) (fun g9=> ?_)
  ·have h:=ag g9 hb9;refine D ?_;obtain rfl:=ao h;exact ac sA (cS [0,1,2,3] 4)
  have h:=ah g9 hb9;refine D ?_;obtain ⟨b10,hb10,h⟩:=aa h;refine aE 4 36 b10 ?_ ?_
  ·clear h;refine aD 32 U (fun g10=> ?_) (fun g10=> ?_)
   ·have h:=ag g10 hb10;refine D ?_;obtain rfl:=ao h;exact ac sA (cS [0,1,2,3] 4)
   have h:=ah g10 hb10;refine D ?_;obtain rfl:=ao h;exact ac sA (cS [0,1,2,3] 4)
  refine D ?_;obtain rfl:=ao h;exact ac sA (cS [0,1,2,3] 4)
 refine D ?_;refine av U (fun g11=> ?_) (fun g11=> ?_)
 ·replace h:=ag g11 h;refine D ?_;refine gO (aq (us:=[.bool false]) (cs':=[.bool false]) 0 U U U U wo U U U) ?_;rintro _ _ rfl;refine D ?_;obtain rfl:=ao h;exact dt (rs:=[.cell 2 4]) (vs:=[.bool false]) U (.cons (qM 0 U U Gc) .nil) U (cS [] 4) ⟨U,U⟩
 replace h:=ah g11 h;refine D ?_;refine az ?_;refine D ?_;refine gR (aA (us:=[iV a0.Kind,iV a0.Shape,iV a0.Flags,iV a0.Age,O A1 n1 c1,O A2 n2 c2]) 1 U U be U) ?_;obtain ⟨y12,hy12,h⟩:=aa h;refine gD (ak (AA hy12) IN U (hE (ad (i:=2) U U) (hE (ad (i:=3) U U) ab)) wH) ?_;rintro _ _ ⟨_,⟨B13,rfl,rfl⟩,rfl⟩;refine rq ?_;refine gM ?_;refine gT ?_ bv (gG 0 U);obtain ⟨y15,hy15,h⟩:=aa h;refine sE (en:=(fun x=> [.bool x.1,.agg #[iV x.2.Kind,iV x.2.N,.string x.2.S]])) (fun x st=>fM N a0 x st) (fun (st:Unit) (mz:Unit)=> [bm A1 n1 c1 a0.Slots,bm A2 n2 c2 a0.More,ay B3 47 [iV a0.Kind,iV a0.Shape,iV a0.Flags,iV a0.Age,O A1 n1 c1,O A2 n2 c2],ay B4 4 [.bool false]]) [bE B13 47 [iV a0.Kind,iV a0.Shape,iV a0.Flags,iV a0.Age,O A1 n1 c1,O A2 n2 c2],bm A1 n1 c1 a0.Slots,bm A2 n2 c2 a0.More] (()) (()) U U IA U (fun _=>U) (fun l G hY=>(uW hy15 hY).mono fun _ _ hh=>hh.2) (aJ [0,3,4] [] [3,4,2,1] 5 U) h ?_ ?_ ?_ ?_
 ·rintro l x14 _ je sr14 _ h;replace h:fM N a0 x14 ()=some (je,sr14):=h;simp only [yE,List.zip_cons_cons,List.zip_nil_left,List.zip_nil_right,List.reverse_cons,List.reverse_nil,List.nil_append,List.cons_append];refine dj ?_;refine gD (aN ki U) ?_;rintro _ _ ⟨B16,rfl,rfl⟩;refine gO (aq (us:=[iV x14.2.Kind,iV x14.2.N,.string x14.2.S]) (cs':=[iV x14.2.Kind,iV x14.2.N,.string x14.2.S]) 0 U U U U aP U U U) ?_;rintro _ _ rfl;refine cq ?_;refine D ?_;refine gR (aA (us:=[iV x14.2.Kind,iV x14.2.N,.string x14.2.S]) 0 U U bW U) ?_;obtain ⟨y17,hy17,h⟩:=aa h;refine gD (ak (GK hy17) NY U (ab) Dv) ?_;rintro _ _ ⟨_,⟨rfl,rfl⟩,rfl⟩;refine D ?_;refine av U (fun g18=> ?_) (fun g18=> ?_)
  ·replace h:=ag g18 h;refine D ?_;refine gO (aq (us:=[.bool false]) (cs':=[.bool false]) 4 U U U U wo U U U) ?_;rintro _ _ rfl;refine D ?_;obtain ⟨rfl,rfl⟩:=Prod.mk.inj (Option.some.inj h);exact HT ((cS [1,2,3,4] 5).trans (fL () U))
  replace h:=ah g18 h;refine D ?_;obtain ⟨rfl,rfl⟩:=Prod.mk.inj (Option.some.inj h);exact AS ((cS [1,2,3,4] 5).trans (fL () U))
 ·rintro _ h;refine oq ([bm A1 n1 c1 a0.Slots,bm A2 n2 c2 a0.More,ay B3 47 [iV a0.Kind,iV a0.Shape,iV a0.Flags,iV a0.Age,O A1 n1 c1,O A2 n2 c2],ay B4 4 [.bool false]]) U ?_;refine D ?_;refine gR (aA (us:=[iV a0.Kind,iV a0.Shape,iV a0.Flags,iV a0.Age,O A1 n1 c1,O A2 n2 c2]) 2 U U be U) ?_;obtain ⟨y19,hy19,h⟩:=aa h;refine gD (ak (xd hy19) NX U (hE (ad (i:=0) U U) (hE (ad (i:=1) U U) ab)) uV) ?_;rintro _ _ ⟨_,⟨rfl,rfl⟩,rfl⟩;refine D ?_;obtain ⟨b20,hb20,h⟩:=aa h;refine aE 6 53 b20 ?_ ?_
  ·clear h;refine aD 47 U (fun g20=> ?_) (fun g20=> ?_)
   ·have h:=ag g20 hb20;refine D ?_;obtain ⟨y21,hy21,h⟩:=aa h;refine cv (ak (yJ hy21) NW U (hE (ad (i:=1) U U) ab) wi) U (aU g20 U) U ?_;rintro _ _ ⟨_,⟨rfl,rfl⟩,rfl⟩;refine D ?_;obtain rfl:=ao h;exact ac sA (cS [0,1,2,3] 4)
   have h:=ah g20 hb20;refine D ?_;obtain rfl:=ao h;exact ac sA (cS [0,1,2,3] 4)
  refine gO (aq (us:=[.bool b20]) (cs':=[.bool b20]) 3 U U U U wo U U U) ?_;rintro _ _ rfl;refine D ?_;obtain rfl:=ao h;exact dt (rs:=[.cell 2 4]) (vs:=[.bool b20]) U (.cons (qM 3 U U Gc) .nil) U (cS [] 4) ⟨U,U⟩
 ·rintro _ h;refine oq ([bm A1 n1 c1 a0.Slots,bm A2 n2 c2 a0.More,ay B3 47 [iV a0.Kind,iV a0.Shape,iV a0.Flags,iV a0.Age,O A1 n1 c1,O A2 n2 c2],ay B4 4 [.bool false]]) U ?_;refine D ?_;obtain rfl:=ao h;exact dt (rs:=[.cell 2 4]) (vs:=[.bool false]) U (.cons (qM 3 U U Gc) .nil) U (cS [] 4) ⟨U,U⟩
 rintro i _ h;exact aB h
theorem ic {r:Bool}: ∀v post,((fun (u:Value) (post:List Chunk)=>u=.bool r∧post=[])) v post→ ∀c∈post,cg c:=by
 rintro _ _ ⟨rfl,rfl⟩;exact ab
def cU (N:Nat)(a0:(List Q5)):Option (List Q5):=
 bD (cc (([]:List Q5).length+a0.length)) (some (([]:List Q5)++a0))
theorem fc {N:Nat}{a0:(List Q5)}{r:(List Q5)}(h:cU N a0=some r):Okc Tryz.prog 85 [O A1 n1 c1] ([bm A1 n1 c1 a0]) (fun u post=> ∃A0 n0 c0,u=O A0 n0 c0∧post=[bG A0 n0 c0 r]):=by
 refine bw Tryz.func85 U U ?_;simp only [aQ];refine D ?_;refine az ?_;refine D ?_;refine gE (GB U hU) ?_;refine D ?_;refine av U (fun g2=> ?_) (fun g2=> ?_)
 ·replace g2:(A1).isNone=true:=by simpa using g2
  refine Oq 0 U aj g2 (fun hx=> ?_);subst hx;replace h:bD (cc (([]:List Q5).length+([]:List Q5).length)) (some (([]:List Q5)++([]:List Q5)))=some r:=h
  replace h:some []=some r:=by simpa [bD] using h
  refine D ?_;obtain rfl:=ao h;exact aC U U ((bj aS 52 _).trans (cS [0] 2)) ⟨_,_,_,U,U⟩
 refine D ?_;refine gD (bN (R:=aS) (vss:=[]) (xs:=[]) U (LX) U U (fun _ _ hr=>All2.nil)) ?_;rintro _ _ ⟨A4,n4,c4,rfl,rfl⟩;refine D ?_;obtain ⟨q5,h⟩:=ap h;refine gD (bA 0 1 U U aj U U hU xi U U q5) ?_;rintro _ _ ⟨A6,n6,c6,rfl,rfl⟩;refine D ?_;obtain rfl:=ao h;exact aC U U (cS [0] 2) ⟨_,_,_,U,U⟩
theorem dQ {r:(List Q5)}: ∀v post,((fun (u:Value) (post:List Chunk)=> ∃A0 n0 c0,u=O A0 n0 c0∧post=[bG A0 n0 c0 r])) v post→ ∀c∈post,cg c:=by
 rintro _ _ ⟨_,_,_,rfl,rfl⟩;exact hE bH (ab)
def dZ (N:Nat)(a0:Ra):Option Ra:=
 (cU N a0.Slots).bind fun y5=>(cU N a0.More).bind fun y7=>some (⟨a0.Kind,a0.Shape,a0.Flags,a0.Age,y5,y7⟩:Ra)
theorem gj {N:Nat}{a0:Ra}{r:Ra}(h:dZ N a0=some r):Okc Tryz.prog 91 [.agg #[iV a0.Kind,iV a0.Shape,iV a0.Flags,iV a0.Age,O A1 n1 c1,O A2 n2 c2]] ([bm A1 n1 c1 a0.Slots,bm A2 n2 c2 a0.More]) (fun u post=> ∃A0 n0 c0 A1 n1 c1,u=.agg #[iV r.Kind,iV r.Shape,iV r.Flags,iV r.Age,O A0 n0 c0,O A1 n1 c1]∧post=[bG A0 n0 c0 r.Slots,bG A1 n1 c1 r.More]):=by
 refine bw Tryz.func91 U U ?_;simp only [aQ];refine D ?_;refine gD (bd U U) ?_;rintro _ _ ⟨B3,rfl,rfl⟩;refine gD (aN dy U) ?_;rintro _ _ ⟨B4,rfl,rfl⟩;refine D ?_;refine az ?_;refine cn W _ (ai _) ?_;refine zE 0 U (bX U vK) ?_;refine zR 1 U (bc 1 U U dE U) ?_;refine zE 3 U (bX U iE) ?_;refine zR 4 U (bc 1 U U dE U) ?_;obtain ⟨y5,hy5,h⟩:=aa h;refine zD 2 U (ak (fc hy5) uY U (hE (ad (i:=2) U U) ab) dQ) ?_;rintro _ _ ⟨_,⟨A6,n6,c6,rfl,rfl⟩,rfl⟩;refine bP (cS [1,2,3,4] 5) ?_;refine zE 6 U (bX U vK) ?_;obtain ⟨y7,hy7,h⟩:=aa h;refine zD 5 U (ak (fc hy7) uY U (hE (ad (i:=4) U U) ab) dQ) ?_;rintro _ _ ⟨_,⟨A8,n8,c8,rfl,rfl⟩,rfl⟩;refine bP (cS [2,3,4,5] 6) ?_;refine nA 7 U W W (aq (us:=[O A6 n6 c6]) (cs':=[iV a0.Kind,iV a0.Shape,iV a0.Flags,iV a0.Age,O A6 n6 c6,O A2 n2 c2]) 3 U U U U du U U U) ?_;rintro _ _ rfl;refine zE 8 U (bX U iE) ?_;refine nA 9 U W W (aq (us:=[O A8 n8 c8]) (cs':=[iV a0.Kind,iV a0.Shape,iV a0.Flags,iV a0.Age,O A6 n6 c6,O A8 n8 c8]) 3 U U U U du U U U) ?_;rintro _ _ rfl;refine bB W ?_;refine D ?_;refine gR (aA (us:=[iV a0.Kind,iV a0.Shape,iV a0.Flags,iV a0.Age,O A6 n6 c6,O A8 n8 c8]) 3 U U be U) ?_
 refine gO (aq (us:=[iV a0.Kind,iV a0.Shape,iV a0.Flags,iV a0.Age,O A6 n6 c6,O A8 n8 c8]) (cs':=[iV a0.Kind,iV a0.Shape,iV a0.Flags,iV a0.Age,O A6 n6 c6,O A8 n8 c8]) 2 U U U U bx U U U) ?_;rintro _ _ rfl;refine D ?_;obtain rfl:=ao h;exact dt (rs:=[.cell 2 47]) (vs:=[.agg #[iV a0.Kind,iV a0.Shape,iV a0.Flags,iV a0.Age,O A6 n6 c6,O A8 n8 c8]]) U (.cons (bZ 2 U U be) .nil) U (cS [1,0] 6) ⟨_,_,_,_,_,_,U,U⟩
theorem eU {r:Ra}: ∀v post,((fun (u:Value) (post:List Chunk)=> ∃A0 n0 c0 A1 n1 c1,u=.agg #[iV r.Kind,iV r.Shape,iV r.Flags,iV r.Age,O A0 n0 c0,O A1 n1 c1]∧post=[bG A0 n0 c0 r.Slots,bG A1 n1 c1 r.More])) v post→ ∀c∈post,cg c:=by
 rintro _ _ ⟨_,_,_,_,_,_,rfl,rfl⟩;exact hE bH (hE bH (ab))
end Go.Proofs.YtmimkglhbmcokaaGreat
namespace Go.Proofs.YtmimkglhbmcokaaGreat
variable {A1 A2 A3 A4 A5:Option Addr} {B1 B3 B6 M7 c1 c2 c3 c4 c5 n1 n2 n3 n4 n5:Nat}
open Go.RowKit Go.ChangeShapes Go.WideShapes Go.Deep
def vl (x:Q5):Prop:=(in64 x.Kind)∧(in64 x.N)∧(True)
set_option maxRecDepth 100000 in
theorem uj:Kl Tryz.prog 52 aS vl:=fun {_ enc w base spare held _ cs y} h hw=>by
 obtain ⟨xs,m, -,hy,hl,hx,hf⟩:=DataW.trod_struct z9 h
 have hc:Tryz.prog.cellsOf 52=3:=by kernel_rfl
 rw [hc] at hl
 match cs,hl,hf with
 | [c0,c1,c2],_,hf=>
  have k0:DataW.trod enc Tryz.prog w base spare held m 3 (List.take (Tryz.prog.cellsOf 3) (List.drop 0 [c0,c1,c2]))=xs[0]? :=hf 0 _ rfl
  have z0:Tryz.prog.cellsOf 3=1:=by kernel_rfl
  simp only [z0,List.drop_succ_cons,List.drop_zero,List.take_succ_cons,List.take_zero] at k0
  have l0:0<xs.length:=by rw [hx];decide
  obtain ⟨a0,r0,w0⟩:=(Rdr.w (qT hJ)) (k0.trans (List.getElem?_eq_getElem l0)) (gv z9 hy hw (i:=0) rfl (List.getElem?_eq_getElem l0));have k1:DataW.trod enc Tryz.prog w base spare held m 3 (List.take (Tryz.prog.cellsOf 3) (List.drop 1 [c0,c1,c2]))=xs[1]? :=hf 1 _ rfl
  have z1:Tryz.prog.cellsOf 3=1:=by kernel_rfl
  simp only [z1,List.drop_succ_cons,List.drop_zero,List.take_succ_cons,List.take_zero] at k1
  have l1:1<xs.length:=by rw [hx];decide
  obtain ⟨a1,r1,w1⟩:=(Rdr.w (qT hJ)) (k1.trans (List.getElem?_eq_getElem l1)) (gv z9 hy hw (i:=1) rfl (List.getElem?_eq_getElem l1));have k2:DataW.trod enc Tryz.prog w base spare held m 9 (List.take (Tryz.prog.cellsOf 9) (List.drop 2 [c0,c1,c2]))=xs[2]? :=hf 2 _ rfl
  have z2:Tryz.prog.cellsOf 9=1:=by kernel_rfl
  simp only [z2,List.drop_succ_cons,List.drop_zero,List.take_succ_cons,List.take_zero] at k2
  have l2:2<xs.length:=by rw [hx];decide
  obtain ⟨a2,r2,w2⟩:=(Rdr.w (ME t9)) (k2.trans (List.getElem?_eq_getElem l2)) (gv z9 hy hw (i:=2) rfl (List.getElem?_eq_getElem l2));obtain ⟨rfl, -⟩:=List.cons.inj (show [c0]=[_] from r0);obtain ⟨rfl, -⟩:=List.cons.inj (show [c1]=[_] from r1);obtain ⟨rfl, -⟩:=List.cons.inj (show [c2]=[_] from r2);exact ⟨⟨a0,a1,a2⟩,U,⟨w0,w1,w2⟩⟩
def xl (x:Ra):Prop:=(in64 x.Kind)∧(in64 x.Shape)∧(in64 x.Flags)∧(in64 x.Age)∧(OE (fun z38=>vl z38) x.Slots)∧(OE (fun z38=>vl z38) x.More)
set_option maxRecDepth 100000 in
theorem He:Kl Tryz.prog 47 di xl:=fun {_ enc w base spare held _ cs y} h hw=>by
 obtain ⟨xs,m, -,hy,hl,hx,hf⟩:=DataW.trod_struct Ex h
 have hc:Tryz.prog.cellsOf 47=6:=by kernel_rfl
 rw [hc] at hl
 match cs,hl,hf with
 | [c0,c1,c2,c3,c4,c5],_,hf=>
  have k0:DataW.trod enc Tryz.prog w base spare held m 3 (List.take (Tryz.prog.cellsOf 3) (List.drop 0 [c0,c1,c2,c3,c4,c5]))=xs[0]? :=hf 0 _ rfl
  have z0:Tryz.prog.cellsOf 3=1:=by kernel_rfl
  simp only [z0,List.drop_succ_cons,List.drop_zero,List.take_succ_cons,List.take_zero] at k0
  have l0:0<xs.length:=by rw [hx];decide
  obtain ⟨a0,r0,w0⟩:=(Rdr.w (qT hJ)) (k0.trans (List.getElem?_eq_getElem l0)) (gv Ex hy hw (i:=0) rfl (List.getElem?_eq_getElem l0));have k1:DataW.trod enc Tryz.prog w base spare held m 3 (List.take (Tryz.prog.cellsOf 3) (List.drop 1 [c0,c1,c2,c3,c4,c5]))=xs[1]? :=hf 1 _ rfl
  have z1:Tryz.prog.cellsOf 3=1:=by kernel_rfl
  simp only [z1,List.drop_succ_cons,List.drop_zero,List.take_succ_cons,List.take_zero] at k1
  have l1:1<xs.length:=by rw [hx];decide
  obtain ⟨a1,r1,w1⟩:=(Rdr.w (qT hJ)) (k1.trans (List.getElem?_eq_getElem l1)) (gv Ex hy hw (i:=1) rfl (List.getElem?_eq_getElem l1));have k2:DataW.trod enc Tryz.prog w base spare held m 3 (List.take (Tryz.prog.cellsOf 3) (List.drop 2 [c0,c1,c2,c3,c4,c5]))=xs[2]? :=hf 2 _ rfl
  have z2:Tryz.prog.cellsOf 3=1:=by kernel_rfl
  simp only [z2,List.drop_succ_cons,List.drop_zero,List.take_succ_cons,List.take_zero] at k2
  have l2:2<xs.length:=by rw [hx];decide
  obtain ⟨a2,r2,w2⟩:=(Rdr.w (qT hJ)) (k2.trans (List.getElem?_eq_getElem l2)) (gv Ex hy hw (i:=2) rfl (List.getElem?_eq_getElem l2));have k3:DataW.trod enc Tryz.prog w base spare held m 3 (List.take (Tryz.prog.cellsOf 3) (List.drop 3 [c0,c1,c2,c3,c4,c5]))=xs[3]? :=hf 3 _ rfl
  have z3:Tryz.prog.cellsOf 3=1:=by kernel_rfl
  simp only [z3,List.drop_succ_cons,List.drop_zero,List.take_succ_cons,List.take_zero] at k3
  have l3:3<xs.length:=by rw [hx];decide
  obtain ⟨a3,r3,w3⟩:=(Rdr.w (qT hJ)) (k3.trans (List.getElem?_eq_getElem l3)) (gv Ex hy hw (i:=3) rfl (List.getElem?_eq_getElem l3));have k4:DataW.trod enc Tryz.prog w base spare held m 38 (List.take (Tryz.prog.cellsOf 38) (List.drop 4 [c0,c1,c2,c3,c4,c5]))=xs[4]? :=hf 4 _ rfl
  have z4:Tryz.prog.cellsOf 38=1:=by kernel_rfl
  simp only [z4,List.drop_succ_cons,List.drop_zero,List.take_succ_cons,List.take_zero] at k4
  have l4:4<xs.length:=by rw [hx];decide
  obtain ⟨a4,r4,w4⟩:=(ET hU W (by decide) (of_decide_eq_true W) uj) (k4.trans (List.getElem?_eq_getElem l4)) (gv Ex hy hw (i:=4) rfl (List.getElem?_eq_getElem l4));have k5:DataW.trod enc Tryz.prog w base spare held m 38 (List.take (Tryz.prog.cellsOf 38) (List.drop 5 [c0,c1,c2,c3,c4,c5]))=xs[5]? :=hf 5 _ rfl
  have z5:Tryz.prog.cellsOf 38=1:=by kernel_rfl
  simp only [z5,List.drop_succ_cons,List.drop_zero,List.take_succ_cons,List.take_zero] at k5
  have l5:5<xs.length:=by rw [hx];decide
  obtain ⟨a5,r5,w5⟩:=(ET hU W (by decide) (of_decide_eq_true W) uj) (k5.trans (List.getElem?_eq_getElem l5)) (gv Ex hy hw (i:=5) rfl (List.getElem?_eq_getElem l5));obtain ⟨rfl, -⟩:=List.cons.inj (show [c0]=[_] from r0);obtain ⟨rfl, -⟩:=List.cons.inj (show [c1]=[_] from r1);obtain ⟨rfl, -⟩:=List.cons.inj (show [c2]=[_] from r2);obtain ⟨rfl, -⟩:=List.cons.inj (show [c3]=[_] from r3);obtain ⟨v4,e4,b4⟩:=r4;obtain ⟨rfl, -⟩:=List.cons.inj e4;obtain ⟨A4,q4,rfl,d4⟩:=b4;have b4:SlR aS _ _ (.slice A4 a4.length q4) a4:=⟨_,_,rfl,d4⟩;obtain ⟨v5,e5,b5⟩:=r5;obtain ⟨rfl, -⟩:=List.cons.inj e5;obtain ⟨A5,q5,rfl,d5⟩:=b5;have b5:SlR aS _ _ (.slice A5 a5.length q5) a5:=⟨_,_,rfl,d5⟩;exact ⟨⟨a0,a1,a2,a3,a4,a5⟩,⟨_,_,_,_,_,_,U,b4,b5⟩,⟨w0,w1,w2,w3,w4,w5⟩⟩
def OH (x:Rg):Prop:=(OE (fun z34=>xl z34) x.Young)∧(OE (fun z34=>xl z34) x.Old)
def EG (x:Rf):Prop:=(in64 x.Kind)∧(in64 x.N)∧(xl x.C)∧(vl x.V)
set_option maxRecDepth 100000 in
theorem KF:Kl Tryz.prog 77 Hg EG:=fun {_ enc w base spare held _ cs y} h hw=>by
 obtain ⟨xs,m, -,hy,hl,hx,hf⟩:=DataW.trod_struct EM h
 have hc:Tryz.prog.cellsOf 77=11:=by kernel_rfl
 rw [hc] at hl
 match cs,hl,hf with
 | [c0,c1,c2,c3,c4,c5,c6,c7,c8,c9,c10],_,hf=>
  have k0:DataW.trod enc Tryz.prog w base spare held m 3 (List.take (Tryz.prog.cellsOf 3) (List.drop 0 [c0,c1,c2,c3,c4,c5,c6,c7,c8,c9,c10]))=xs[0]? :=hf 0 _ rfl
  have z0:Tryz.prog.cellsOf 3=1:=by kernel_rfl
  simp only [z0,List.drop_succ_cons,List.drop_zero,List.take_succ_cons,List.take_zero] at k0
  have l0:0<xs.length:=by rw [hx];decide
  obtain ⟨a0,r0,w0⟩:=(Rdr.w (qT hJ)) (k0.trans (List.getElem?_eq_getElem l0)) (gv EM hy hw (i:=0) rfl (List.getElem?_eq_getElem l0));have k1:DataW.trod enc Tryz.prog w base spare held m 3 (List.take (Tryz.prog.cellsOf 3) (List.drop 1 [c0,c1,c2,c3,c4,c5,c6,c7,c8,c9,c10]))=xs[1]? :=hf 1 _ rfl
  have z1:Tryz.prog.cellsOf 3=1:=by kernel_rfl
  simp only [z1,List.drop_succ_cons,List.drop_zero,List.take_succ_cons,List.take_zero] at k1
  have l1:1<xs.length:=by rw [hx];decide
  obtain ⟨a1,r1,w1⟩:=(Rdr.w (qT hJ)) (k1.trans (List.getElem?_eq_getElem l1)) (gv EM hy hw (i:=1) rfl (List.getElem?_eq_getElem l1));have k2:DataW.trod enc Tryz.prog w base spare held m 47 (List.take (Tryz.prog.cellsOf 47) (List.drop 2 [c0,c1,c2,c3,c4,c5,c6,c7,c8,c9,c10]))=xs[2]? :=hf 2 _ rfl
  have z2:Tryz.prog.cellsOf 47=6:=by kernel_rfl
  simp only [z2,List.drop_succ_cons,List.drop_zero,List.take_succ_cons,List.take_zero] at k2
  have l2:2<xs.length:=by rw [hx];decide
  obtain ⟨a2,r2,w2⟩:=He (k2.trans (List.getElem?_eq_getElem l2)) (gv EM hy hw (i:=2) rfl (List.getElem?_eq_getElem l2));have k3:DataW.trod enc Tryz.prog w base spare held m 52 (List.take (Tryz.prog.cellsOf 52) (List.drop 8 [c0,c1,c2,c3,c4,c5,c6,c7,c8,c9,c10]))=xs[3]? :=hf 3 _ rfl
  have z3:Tryz.prog.cellsOf 52=3:=by kernel_rfl
  simp only [z3,List.drop_succ_cons,List.drop_zero,List.take_succ_cons,List.take_zero] at k3
  have l3:3<xs.length:=by rw [hx];decide
  obtain ⟨a3,r3,w3⟩:=uj (k3.trans (List.getElem?_eq_getElem l3)) (gv EM hy hw (i:=3) rfl (List.getElem?_eq_getElem l3));obtain ⟨rfl, -⟩:=List.cons.inj (show [c0]=[_] from r0);obtain ⟨rfl, -⟩:=List.cons.inj (show [c1]=[_] from r1);obtain ⟨_,_,_,_,_,_,e2,b2_0,b2_1⟩:=r2;simp only [List.cons.injEq,and_true] at e2;obtain ⟨rfl,rfl,rfl,rfl,rfl,rfl⟩:=e2;have e3:[c8,c9,c10]=[.int .i64 a3.Kind,.int .i64 a3.N,.string a3.S]:=r3;simp only [List.cons.injEq,and_true] at e3;obtain ⟨rfl,rfl,rfl⟩:=e3;exact ⟨⟨a0,a1,a2,a3⟩,⟨_,_,_,_,_,_,U,b2_0,b2_1⟩,⟨w0,w1,w2,w3⟩⟩
def Px (x:Rb):Prop:=(in64 x.Kind)∧(in64 x.I)∧(in64 x.J)
set_option maxRecDepth 100000 in
theorem Pm {H:Type}{enc:TypeId×Value→H}{f6:World}{r:Reach}{b0:Nat}{base:Nat}{spare:Nat→Bool}{held:Bool}{v:Value}{d:DataW H}{p:List MemPlace}
  (hv:Value.okWide Tryz.prog f6 r b0 71 v) (h:DataW.Trod enc Tryz.prog f6 base spare held 71 v d p) (hz:Light Tryz.prog 71 d): ∃(m:(List Rf)) (Aq_0:Option Addr) (nq_0 cq_0:Nat),v=O Aq_0 nq_0 cq_0∧(OE (fun z71=>EG z71) m)∧(rx Hg (O Aq_0 nq_0 cq_0) m).ok (fun _=>False) (fun q=>q<f6.heap.size) f6:=by
 obtain ⟨A,n,c,rfl⟩:=okWide_slice hP hv;obtain ⟨fuel,hf⟩:=h;obtain ⟨m,⟨u,e,h1⟩,hw⟩:=(ET hP W (by decide) (of_decide_eq_true W) KF) hf hz;obtain ⟨rfl, -⟩:=List.cons.inj (show [_]=[_] from e);exact ⟨m,A,n,c,U,hw,h1⟩
set_option maxRecDepth 100000 in
theorem PR {H:Type}{enc:TypeId×Value→H}{f6:World}{r:Reach}{b0:Nat}{base:Nat}{spare:Nat→Bool}{held:Bool}{v:Value}{d:DataW H}{p:List MemPlace}
  (hv:Value.okWide Tryz.prog f6 r b0 4 v) (h:DataW.Trod enc Tryz.prog f6 base spare held 4 v d p) (hz:Light Tryz.prog 4 d): ∃(m:Bool),v=.bool m∧(True):=by
 obtain ⟨fuel,hf⟩:=h;obtain ⟨m,e,hw⟩:=(Rdr.w (KG QT)) hf hz;obtain ⟨s,rfl⟩:=okWide_bool QT hv;obtain ⟨e1, -⟩:=List.cons.inj (show [_]=[_] from e);cases e1;exact ⟨_,U,hw⟩
end Go.Proofs.YtmimkglhbmcokaaGreat