/- Merged texts: part 3. No conditions of their own. -/
import Derived.Test.YtmimkglhbmcokaaGreatG2
import Derived.Test.YtmimkglhbmcokaaGreatChecked
import Derived.ProofKit
namespace Go.Proofs.YtmimkglhbmcokaaGreat
variable {A1 A2 A3 A4 A5:Option Addr} {B1 B3 B6 M7 c1 c2 c3 c4 c5 n1 n2 n3 n4 n5:Nat}
open Go.RowKit Asn
set_option maxRecDepth 20000
structure DSet where
 at_:(List (Int×Bool))
 deriving DecidableEq,Inhabited
structure DValue where
 Kind:Int
 N:Int
 S:ByteArray
 deriving DecidableEq,Inhabited
def aR:Rep DValue:=.flat 3 (fun x=> [iV x.Kind,iV x.N,.string x.S]) (fun _=>rfl) (fun _=>rfl)
structure DCell where
 Kind:Int
 Shape:Int
 Flags:Int
 Age:Int
 Slots:(List DValue)
 More:(List DValue)
 deriving DecidableEq,Inhabited
def cY:Rep DCell where
 sz:=6
 rel S w vs x:= ∃A4 n4 c4 A5 n5 c5,vs=[iV x.Kind,iV x.Shape,iV x.Flags,iV x.Age,.slice A4 n4 c4,.slice A5 n5 c5]∧SlR aR S w (.slice A4 n4 c4) x.Slots∧SlR aR S w (.slice A5 n5 c5) x.More
 loc:=fun h ⟨_,_,_,_,_,_,e,h4,h5⟩=>⟨_,_,_,_,_,_,e,h4.loc h,h5.loc h⟩
 mono:=fun h ⟨_,_,_,_,_,_,e,h4,h5⟩=>⟨_,_,_,_,_,_,e,h4.mono h,h5.mono h⟩
 len:=fun ⟨_,_,_,_,_,_,e,_⟩=>by rw [e];rfl
 one:=fun ⟨_,_,_,_,_,_,e,_⟩=>by rw [e];rfl
theorem dI (x:DCell):Be cY x fun vs cs=> ∃A4 n4 c4 A5 n5 c5,vs=[iV x.Kind,iV x.Shape,iV x.Flags,iV x.Age,.slice A4 n4 c4,.slice A5 n5 c5]∧cs=[ox aR (.slice A4 n4 c4) x.Slots,ox aR (.slice A5 n5 c5) x.More]:=fun S w vs ⟨_,_,_,_,_,_,e,h4,h5⟩=>⟨_,⟨_,_,_,_,_,_,e,rfl⟩,mem_cons h4 (mem_cons h5 (ae))⟩
structure DMemory where
 Young:(List DCell)
 Old:(List DCell)
 deriving DecidableEq,Inhabited
def Lk:Rep DMemory where
 sz:=2
 rel S w vs x:= ∃A0 n0 c0 A1 n1 c1,vs=[.slice A0 n0 c0,.slice A1 n1 c1]∧SlR cY S w (.slice A0 n0 c0) x.Young∧SlR cY S w (.slice A1 n1 c1) x.Old
 loc:=fun h ⟨_,_,_,_,_,_,e,h0,h1⟩=>⟨_,_,_,_,_,_,e,h0.loc h,h1.loc h⟩
 mono:=fun h ⟨_,_,_,_,_,_,e,h0,h1⟩=>⟨_,_,_,_,_,_,e,h0.mono h,h1.mono h⟩
 len:=fun ⟨_,_,_,_,_,_,e,_⟩=>by rw [e];rfl
 one:=fun ⟨_,_,_,_,_,_,e,_⟩=>by rw [e];rfl
structure DHeap where
 m_:DMemory
 roots_:(List DValue)
 pending_:(List DValue)
 set_:DSet
 deriving DecidableEq,Inhabited
structure DOp where
 Kind:Int
 N:Int
 C:DCell
 V:DValue
 deriving DecidableEq,Inhabited
def DQ:Rep DOp where
 sz:=11
 rel S w vs x:= ∃A6 n6 c6 A7 n7 c7,vs=[iV x.Kind,iV x.N,iV x.C.Kind,iV x.C.Shape,iV x.C.Flags,iV x.C.Age,.slice A6 n6 c6,.slice A7 n7 c7,iV x.V.Kind,iV x.V.N,.string x.V.S]∧SlR aR S w (.slice A6 n6 c6) x.C.Slots∧SlR aR S w (.slice A7 n7 c7) x.C.More
 loc:=fun h ⟨_,_,_,_,_,_,e,h6,h7⟩=>⟨_,_,_,_,_,_,e,h6.loc h,h7.loc h⟩
 mono:=fun h ⟨_,_,_,_,_,_,e,h6,h7⟩=>⟨_,_,_,_,_,_,e,h6.mono h,h7.mono h⟩
 len:=fun ⟨_,_,_,_,_,_,e,_⟩=>by rw [e];rfl
 one:=fun ⟨_,_,_,_,_,_,e,_⟩=>by rw [e];rfl
theorem yU (x:DOp):Be DQ x fun vs cs=> ∃A6 n6 c6 A7 n7 c7,vs=[iV x.Kind,iV x.N,iV x.C.Kind,iV x.C.Shape,iV x.C.Flags,iV x.C.Age,.slice A6 n6 c6,.slice A7 n7 c7,iV x.V.Kind,iV x.V.N,.string x.V.S]∧cs=[ox aR (.slice A6 n6 c6) x.C.Slots,ox aR (.slice A7 n7 c7) x.C.More]:=fun S w vs ⟨_,_,_,_,_,_,e,h6,h7⟩=>⟨_,⟨_,_,_,_,_,_,e,rfl⟩,mem_cons h6 (mem_cons h7 (ae))⟩
structure DMeeter where
 m_:DMemory
 kept_:(List Int)
 met_:(List Int)
 seen_:(List (Int×Bool))
 next_:Int
 deriving DecidableEq,Inhabited
structure DRow where
 m_:DMemory
 all_:(List Int)
 met_:(List (Int×Unit))
 done_:Int
 deriving DecidableEq,Inhabited
structure DTold where
 N:Int
 E:Int
 Ok:Bool
 C:DCell
 V:DValue
 L:(List DValue)
 deriving DecidableEq,Inhabited
def LU:Rep DTold where
 sz:=13
 rel S w vs x:= ∃A7 n7 c7 A8 n8 c8 A12 n12 c12,vs=[iV x.N,iV x.E,.bool x.Ok,iV x.C.Kind,iV x.C.Shape,iV x.C.Flags,iV x.C.Age,.slice A7 n7 c7,.slice A8 n8 c8,iV x.V.Kind,iV x.V.N,.string x.V.S,.slice A12 n12 c12]∧SlR aR S w (.slice A7 n7 c7) x.C.Slots∧SlR aR S w (.slice A8 n8 c8) x.C.More∧SlR aR S w (.slice A12 n12 c12) x.L
 loc:=fun h ⟨_,_,_,_,_,_,_,_,_,e,h7,h8,h12⟩=>⟨_,_,_,_,_,_,_,_,_,e,h7.loc h,h8.loc h,h12.loc h⟩
 mono:=fun h ⟨_,_,_,_,_,_,_,_,_,e,h7,h8,h12⟩=>⟨_,_,_,_,_,_,_,_,_,e,h7.mono h,h8.mono h,h12.mono h⟩
 len:=fun ⟨_,_,_,_,_,_,_,_,_,e,_⟩=>by rw [e];rfl
 one:=fun ⟨_,_,_,_,_,_,_,_,_,e,_⟩=>by rw [e];rfl
structure DSide where
 M:DMemory
 Order:(List Int)
 deriving DecidableEq,Inhabited
def LV:Rep DSide where
 sz:=3
 rel S w vs x:= ∃A0 n0 c0 A1 n1 c1 A2 n2 c2,vs=[.slice A0 n0 c0,.slice A1 n1 c1,.slice A2 n2 c2]∧SlR cY S w (.slice A0 n0 c0) x.M.Young∧SlR cY S w (.slice A1 n1 c1) x.M.Old∧SlR (fG .i64) S w (.slice A2 n2 c2) x.Order
 loc:=fun h ⟨_,_,_,_,_,_,_,_,_,e,h0,h1,h2⟩=>⟨_,_,_,_,_,_,_,_,_,e,h0.loc h,h1.loc h,h2.loc h⟩
 mono:=fun h ⟨_,_,_,_,_,_,_,_,_,e,h0,h1,h2⟩=>⟨_,_,_,_,_,_,_,_,_,e,h0.mono h,h1.mono h,h2.mono h⟩
 len:=fun ⟨_,_,_,_,_,_,_,_,_,e,_⟩=>by rw [e];rfl
 one:=fun ⟨_,_,_,_,_,_,_,_,_,e,_⟩=>by rw [e];rfl
structure DLink where
 Kind:Int
 I:Int
 J:Int
 deriving DecidableEq,Inhabited
def LW:Rep DLink:=.flat 3 (fun x=> [iV x.Kind,iV x.I,iV x.J]) (fun _=>rfl) (fun _=>rfl)
abbrev ax (A:Option Addr)(n c:Nat):=eP aR 52 (.slice A n c)
abbrev aD (A:Option Addr)(n c:Nat):=eP cY 47 (.slice A n c)
abbrev aH (A:Option Addr)(n c:Nat):=ox aR (.slice A n c)
abbrev bo (A:Option Addr)(n c:Nat):=ox cY (.slice A n c)
abbrev cT (A:Option Addr)(n c:Nat):=ox (fG .i64) (.slice A n c)
abbrev cU (A:Option Addr)(n c:Nat):=eP (fG .i64) 3 (.slice A n c)
theorem Ik:aw Tryz.prog 14:=⟨Tryz.f14,Tryz.func14,rfl,rfl⟩
theorem K5:aw Tryz.prog 18:=⟨Tryz.f18,Tryz.func18,rfl,rfl⟩
theorem Ij:aw Tryz.prog 20:=⟨Tryz.f20,Tryz.func20,rfl,rfl⟩
theorem BZ:aw Tryz.prog 22:=⟨Tryz.f22,Tryz.func22,rfl,rfl⟩
theorem Ii:aw Tryz.prog 23:=⟨Tryz.f23,Tryz.func23,rfl,rfl⟩
theorem ud:aw Tryz.prog 27:=⟨Tryz.f27,Tryz.func27,rfl,rfl⟩
theorem K4:aw Tryz.prog 29:=⟨Tryz.f29,Tryz.func29,rfl,rfl⟩
theorem Et:aw Tryz.prog 30:=⟨Tryz.f30,Tryz.func30,rfl,rfl⟩
theorem K2:aw Tryz.prog 37:=⟨Tryz.f37,Tryz.func37,rfl,rfl⟩
theorem K1:aw Tryz.prog 39:=⟨Tryz.f39,Tryz.func39,rfl,rfl⟩
theorem K0:aw Tryz.prog 41:=⟨Tryz.f41,Tryz.func41,rfl,rfl⟩
theorem Ih:aw Tryz.prog 44:=⟨Tryz.f44,Tryz.func44,rfl,rfl⟩
theorem Ig:aw Tryz.prog 48:=⟨Tryz.f48,Tryz.func48,rfl,rfl⟩
theorem KZ:aw Tryz.prog 56:=⟨Tryz.f56,Tryz.func56,rfl,rfl⟩
theorem Es:aw Tryz.prog 57:=⟨Tryz.f57,Tryz.func57,rfl,rfl⟩
theorem If:aw Tryz.prog 58:=⟨Tryz.f58,Tryz.func58,rfl,rfl⟩
theorem Ie:aw Tryz.prog 59:=⟨Tryz.f59,Tryz.func59,rfl,rfl⟩
theorem KY:aw Tryz.prog 60:=⟨Tryz.f60,Tryz.func60,rfl,rfl⟩
theorem Er:aw Tryz.prog 61:=⟨Tryz.f61,Tryz.func61,rfl,rfl⟩
theorem KX:aw Tryz.prog 62:=⟨Tryz.f62,Tryz.func62,rfl,rfl⟩
theorem Ep:aw Tryz.prog 66:=⟨Tryz.f66,Tryz.func66,rfl,rfl⟩
theorem KW:aw Tryz.prog 67:=⟨Tryz.f67,Tryz.func67,rfl,rfl⟩
theorem Id:aw Tryz.prog 69:=⟨Tryz.f69,Tryz.func69,rfl,rfl⟩
theorem KV:aw Tryz.prog 70:=⟨Tryz.f70,Tryz.func70,rfl,rfl⟩
theorem Eo:aw Tryz.prog 71:=⟨Tryz.f71,Tryz.func71,rfl,rfl⟩
theorem Ic:aw Tryz.prog 72:=⟨Tryz.f72,Tryz.func72,rfl,rfl⟩
theorem lB:aw Tryz.prog 73:=⟨Tryz.f73,Tryz.func73,rfl,rfl⟩
theorem Ib:aw Tryz.prog 74:=⟨Tryz.f74,Tryz.func74,rfl,rfl⟩
theorem lA:aw Tryz.prog 75:=⟨Tryz.f75,Tryz.func75,rfl,rfl⟩
theorem KU:aw Tryz.prog 76:=⟨Tryz.f76,Tryz.func76,rfl,rfl⟩
theorem KT:aw Tryz.prog 77:=⟨Tryz.f77,Tryz.func77,rfl,rfl⟩
theorem Ia:aw Tryz.prog 78:=⟨Tryz.f78,Tryz.func78,rfl,rfl⟩
theorem KS:aw Tryz.prog 79:=⟨Tryz.f79,Tryz.func79,rfl,rfl⟩
theorem KR:aw Tryz.prog 80:=⟨Tryz.f80,Tryz.func80,rfl,rfl⟩
theorem H9:aw Tryz.prog 84:=⟨Tryz.f84,Tryz.func84,rfl,rfl⟩
theorem qq:aw Tryz.prog 85:=⟨Tryz.f85,Tryz.func85,rfl,rfl⟩
theorem H8:aw Tryz.prog 86:=⟨Tryz.f86,Tryz.func86,rfl,rfl⟩
theorem sf:aw Tryz.prog 87:=⟨Tryz.f87,Tryz.func87,rfl,rfl⟩
theorem H7:aw Tryz.prog 90:=⟨Tryz.f90,Tryz.func90,rfl,rfl⟩
theorem qp:aw Tryz.prog 91:=⟨Tryz.f91,Tryz.func91,rfl,rfl⟩
theorem KQ:aw Tryz.prog 92:=⟨Tryz.f92,Tryz.func92,rfl,rfl⟩
theorem wK:aw Tryz.prog 94:=⟨Tryz.f94,Tryz.func94,rfl,rfl⟩
theorem wJ:aw Tryz.prog 95:=⟨Tryz.f95,Tryz.func95,rfl,rfl⟩
theorem uc:aw Tryz.prog 96:=⟨Tryz.f96,Tryz.func96,rfl,rfl⟩
theorem BY:aw Tryz.prog 97:=⟨Tryz.f97,Tryz.func97,rfl,rfl⟩
theorem J9:aw Tryz.prog 101:=⟨Tryz.f101,Tryz.func101,rfl,rfl⟩
theorem J8:aw Tryz.prog 103:=⟨Tryz.f103,Tryz.func103,rfl,rfl⟩
theorem J7:aw Tryz.prog 107:=⟨Tryz.f107,Tryz.func107,rfl,rfl⟩
theorem J6:aw Tryz.prog 108:=⟨Tryz.f108,Tryz.func108,rfl,rfl⟩
theorem FH:aw Tryz.prog 109:=⟨Tryz.f109,Tryz.func109,rfl,rfl⟩
theorem J5:aw Tryz.prog 116:=⟨Tryz.f116,Tryz.func116,rfl,rfl⟩
theorem FG:aw Tryz.prog 117:=⟨Tryz.f117,Tryz.func117,rfl,rfl⟩
theorem FF:aw Tryz.prog 118:=⟨Tryz.f118,Tryz.func118,rfl,rfl⟩
theorem FE:aw Tryz.prog 119:=⟨Tryz.f119,Tryz.func119,rfl,rfl⟩
theorem xU:aw Tryz.prog 120:=⟨Tryz.f120,Tryz.func120,rfl,rfl⟩
theorem J4:aw Tryz.prog 133:=⟨Tryz.f133,Tryz.func133,rfl,rfl⟩
theorem J3:aw Tryz.prog 134:=⟨Tryz.f134,Tryz.func134,rfl,rfl⟩
theorem J2:aw Tryz.prog 135:=⟨Tryz.f135,Tryz.func135,rfl,rfl⟩
theorem Cf:aw Tryz.prog 136:=⟨Tryz.f136,Tryz.func136,rfl,rfl⟩
theorem J1:aw Tryz.prog 137:=⟨Tryz.f137,Tryz.func137,rfl,rfl⟩
theorem FD:aw Tryz.prog 138:=⟨Tryz.f138,Tryz.func138,rfl,rfl⟩
theorem xT:aw Tryz.prog 139:=⟨Tryz.f139,Tryz.func139,rfl,rfl⟩
theorem FC:aw Tryz.prog 140:=⟨Tryz.f140,Tryz.func140,rfl,rfl⟩
theorem Ce:aw Tryz.prog 141:=⟨Tryz.f141,Tryz.func141,rfl,rfl⟩
theorem vJ:aw Tryz.prog 142:=⟨Tryz.f142,Tryz.func142,rfl,rfl⟩
theorem vI:aw Tryz.prog 143:=⟨Tryz.f143,Tryz.func143,rfl,rfl⟩
theorem FB:aw Tryz.prog 144:=⟨Tryz.f144,Tryz.func144,rfl,rfl⟩
theorem J0:aw Tryz.prog 145:=⟨Tryz.f145,Tryz.func145,rfl,rfl⟩
theorem FA:aw Tryz.prog 146:=⟨Tryz.f146,Tryz.func146,rfl,rfl⟩
theorem Cd:aw Tryz.prog 147:=⟨Tryz.f147,Tryz.func147,rfl,rfl⟩
theorem Cc:aw Tryz.prog 148:=⟨Tryz.f148,Tryz.func148,rfl,rfl⟩
theorem Fz:aw Tryz.prog 149:=⟨Tryz.f149,Tryz.func149,rfl,rfl⟩
theorem JZ:aw Tryz.prog 150:=⟨Tryz.f150,Tryz.func150,rfl,rfl⟩
theorem oW:aw Tryz.prog 154:=⟨Tryz.f154,Tryz.func154,rfl,rfl⟩
theorem xR:aw Tryz.prog 155:=⟨Tryz.f155,Tryz.func155,rfl,rfl⟩
theorem xQ:aw Tryz.prog 156:=⟨Tryz.f156,Tryz.func156,rfl,rfl⟩
theorem JY:aw Tryz.prog 157:=⟨Tryz.f157,Tryz.func157,rfl,rfl⟩
theorem JX:aw Tryz.prog 158:=⟨Tryz.f158,Tryz.func158,rfl,rfl⟩
theorem JW:aw Tryz.prog 159:=⟨Tryz.f159,Tryz.func159,rfl,rfl⟩
theorem JV:aw Tryz.prog 160:=⟨Tryz.f160,Tryz.func160,rfl,rfl⟩
theorem Fy:aw Tryz.prog 161:=⟨Tryz.f161,Tryz.func161,rfl,rfl⟩
theorem JU:aw Tryz.prog 162:=⟨Tryz.f162,Tryz.func162,rfl,rfl⟩
theorem Fw:aw Tryz.prog 163:=⟨Tryz.f163,Tryz.func163,rfl,rfl⟩
theorem JT:aw Tryz.prog 164:=⟨Tryz.f164,Tryz.func164,rfl,rfl⟩
theorem Fv:aw Tryz.prog 165:=⟨Tryz.f165,Tryz.func165,rfl,rfl⟩
theorem Fu:aw Tryz.prog 168:=⟨Tryz.f168,Tryz.func168,rfl,rfl⟩
theorem JS:aw Tryz.prog 169:=⟨Tryz.f169,Tryz.func169,rfl,rfl⟩
theorem JR:aw Tryz.prog 170:=⟨Tryz.f170,Tryz.func170,rfl,rfl⟩
theorem JQ:aw Tryz.prog 171:=⟨Tryz.f171,Tryz.func171,rfl,rfl⟩
theorem JP:aw Tryz.prog 172:=⟨Tryz.f172,Tryz.func172,rfl,rfl⟩
theorem Ft:aw Tryz.prog 173:=⟨Tryz.f173,Tryz.func173,rfl,rfl⟩
theorem JO:aw Tryz.prog 176:=⟨Tryz.f176,Tryz.func176,rfl,rfl⟩
theorem Cb:aw Tryz.prog 177:=⟨Tryz.f177,Tryz.func177,rfl,rfl⟩
theorem Fs:aw Tryz.prog 181:=⟨Tryz.f181,Tryz.func181,rfl,rfl⟩
theorem JN:aw Tryz.prog 187:=⟨Tryz.f187,Tryz.func187,rfl,rfl⟩
theorem Fq:aw Tryz.prog 188:=⟨Tryz.f188,Tryz.func188,rfl,rfl⟩
theorem Fo:aw Tryz.prog 189:=⟨Tryz.f189,Tryz.func189,rfl,rfl⟩
theorem JM:aw Tryz.prog 190:=⟨Tryz.f190,Tryz.func190,rfl,rfl⟩
theorem JL:aw Tryz.prog 191:=⟨Tryz.f191,Tryz.func191,rfl,rfl⟩
theorem JK:aw Tryz.prog 192:=⟨Tryz.f192,Tryz.func192,rfl,rfl⟩
theorem JJ:aw Tryz.prog 193:=⟨Tryz.f193,Tryz.func193,rfl,rfl⟩
theorem JI:aw Tryz.prog 194:=⟨Tryz.f194,Tryz.func194,rfl,rfl⟩
theorem JH:aw Tryz.prog 206:=⟨Tryz.f206,Tryz.func206,rfl,rfl⟩
theorem Fn:aw Tryz.prog 207:=⟨Tryz.f207,Tryz.func207,rfl,rfl⟩
theorem JG:aw Tryz.prog 208:=⟨Tryz.f208,Tryz.func208,rfl,rfl⟩
theorem Fm:aw Tryz.prog 209:=⟨Tryz.f209,Tryz.func209,rfl,rfl⟩
theorem xP:aw Tryz.prog 210:=⟨Tryz.f210,Tryz.func210,rfl,rfl⟩
theorem Fl:aw Tryz.prog 211:=⟨Tryz.f211,Tryz.func211,rfl,rfl⟩
theorem JF:aw Tryz.prog 212:=⟨Tryz.f212,Tryz.func212,rfl,rfl⟩
theorem JE:aw Tryz.prog 213:=⟨Tryz.f213,Tryz.func213,rfl,rfl⟩
theorem Ca:aw Tryz.prog 214:=⟨Tryz.f214,Tryz.func214,rfl,rfl⟩
theorem JD:aw Tryz.prog 219:=⟨Tryz.f219,Tryz.func219,rfl,rfl⟩
theorem JC:aw Tryz.prog 220:=⟨Tryz.f220,Tryz.func220,rfl,rfl⟩
theorem Fk:aw Tryz.prog 221:=⟨Tryz.f221,Tryz.func221,rfl,rfl⟩
theorem Fj:aw Tryz.prog 222:=⟨Tryz.f222,Tryz.func222,rfl,rfl⟩
theorem Fi:aw Tryz.prog 223:=⟨Tryz.f223,Tryz.func223,rfl,rfl⟩
theorem JB:aw Tryz.prog 224:=⟨Tryz.f224,Tryz.func224,rfl,rfl⟩
theorem sM:aw Tryz.prog 225:=⟨Tryz.f225,Tryz.func225,rfl,rfl⟩
theorem sL:aw Tryz.prog 226:=⟨Tryz.f226,Tryz.func226,rfl,rfl⟩
theorem Fh:aw Tryz.prog 227:=⟨Tryz.f227,Tryz.func227,rfl,rfl⟩
theorem Fg:aw Tryz.prog 239:=⟨Tryz.f239,Tryz.func239,rfl,rfl⟩
theorem JA:aw Tryz.prog 240:=⟨Tryz.f240,Tryz.func240,rfl,rfl⟩
theorem Jz:aw Tryz.prog 246:=⟨Tryz.f246,Tryz.func246,rfl,rfl⟩
theorem Ff:aw Tryz.prog 254:=⟨Tryz.f254,Tryz.func254,rfl,rfl⟩
theorem Jy:aw Tryz.prog 255:=⟨Tryz.f255,Tryz.func255,rfl,rfl⟩
theorem Fe:aw Tryz.prog 261:=⟨Tryz.f261,Tryz.func261,rfl,rfl⟩
theorem Jx:aw Tryz.prog 265:=⟨Tryz.f265,Tryz.func265,rfl,rfl⟩
theorem sJ (b o:Nat)(w:World):(Instr.fieldAt 36 (pV b o) 0).run Tryz.prog w=.ok (pV b o) w:=by kernel_rfl
theorem oS (b o:Nat)(w:World):(Instr.fieldAt 36 (pV b o) 1).run Tryz.prog w=.ok (.pointer (some ⟨b,o+1,none⟩)) w:=by kernel_rfl
theorem Jr (b o:Nat)(w:World):(Instr.fieldAt 47 (pV b o) 0).run Tryz.prog w=.ok (pV b o) w:=by kernel_rfl
theorem Jq (b o:Nat)(w:World):(Instr.fieldAt 47 (pV b o) 1).run Tryz.prog w=.ok (.pointer (some ⟨b,o+1,none⟩)) w:=by kernel_rfl
theorem Jp (b o:Nat)(w:World):(Instr.fieldAt 47 (pV b o) 2).run Tryz.prog w=.ok (.pointer (some ⟨b,o+2,none⟩)) w:=by kernel_rfl
theorem vz (b o:Nat)(w:World):(Instr.fieldAt 47 (pV b o) 3).run Tryz.prog w=.ok (.pointer (some ⟨b,o+3,none⟩)) w:=by kernel_rfl
theorem sI (b o:Nat)(w:World):(Instr.fieldAt 47 (pV b o) 4).run Tryz.prog w=.ok (.pointer (some ⟨b,o+4,none⟩)) w:=by kernel_rfl
theorem jC (b o:Nat)(w:World):(Instr.fieldAt 47 (pV b o) 5).run Tryz.prog w=.ok (.pointer (some ⟨b,o+5,none⟩)) w:=by kernel_rfl
theorem lJ (b o:Nat)(w:World):(Instr.fieldAt 52 (pV b o) 0).run Tryz.prog w=.ok (pV b o) w:=by kernel_rfl
theorem sH (b o:Nat)(w:World):(Instr.fieldAt 52 (pV b o) 1).run Tryz.prog w=.ok (.pointer (some ⟨b,o+1,none⟩)) w:=by kernel_rfl
theorem Jo (b o:Nat)(w:World):(Instr.fieldAt 52 (pV b o) 2).run Tryz.prog w=.ok (.pointer (some ⟨b,o+2,none⟩)) w:=by kernel_rfl
theorem Jn (b o:Nat)(w:World):(Instr.fieldAt 74 (pV b o) 0).run Tryz.prog w=.ok (pV b o) w:=by kernel_rfl
theorem Jm (b o:Nat)(w:World):(Instr.fieldAt 74 (pV b o) 1).run Tryz.prog w=.ok (.pointer (some ⟨b,o+1,none⟩)) w:=by kernel_rfl
theorem Jl (b o:Nat)(w:World):(Instr.fieldAt 74 (pV b o) 2).run Tryz.prog w=.ok (.pointer (some ⟨b,o+2,none⟩)) w:=by kernel_rfl
theorem Jk (b o:Nat)(w:World):(Instr.fieldAt 74 (pV b o) 3).run Tryz.prog w=.ok (.pointer (some ⟨b,o+3,none⟩)) w:=by kernel_rfl
theorem Jj (b o:Nat)(w:World):(Instr.fieldAt 74 (pV b o) 4).run Tryz.prog w=.ok (.pointer (some ⟨b,o+9,none⟩)) w:=by kernel_rfl
theorem Ji (b o:Nat)(w:World):(Instr.fieldAt 74 (pV b o) 5).run Tryz.prog w=.ok (.pointer (some ⟨b,o+12,none⟩)) w:=by kernel_rfl
theorem Jh (b o:Nat)(w:World):(Instr.fieldAt 77 (pV b o) 0).run Tryz.prog w=.ok (pV b o) w:=by kernel_rfl
theorem Jg (b o:Nat)(w:World):(Instr.fieldAt 77 (pV b o) 1).run Tryz.prog w=.ok (.pointer (some ⟨b,o+1,none⟩)) w:=by kernel_rfl
theorem BR (b o:Nat)(w:World):(Instr.fieldAt 77 (pV b o) 2).run Tryz.prog w=.ok (.pointer (some ⟨b,o+2,none⟩)) w:=by kernel_rfl
theorem Jf (b o:Nat)(w:World):(Instr.fieldAt 77 (pV b o) 3).run Tryz.prog w=.ok (.pointer (some ⟨b,o+8,none⟩)) w:=by kernel_rfl
theorem eL (b o:Nat)(w:World):(Instr.fieldAt 86 (pV b o) 0).run Tryz.prog w=.ok (pV b o) w:=by kernel_rfl
theorem jB (b o:Nat)(w:World):(Instr.fieldAt 86 (pV b o) 1).run Tryz.prog w=.ok (.pointer (some ⟨b,o+2,none⟩)) w:=by kernel_rfl
theorem lI (b o:Nat)(w:World):(Instr.fieldAt 86 (pV b o) 2).run Tryz.prog w=.ok (.pointer (some ⟨b,o+3,none⟩)) w:=by kernel_rfl
theorem oR (b o:Nat)(w:World):(Instr.fieldAt 86 (pV b o) 3).run Tryz.prog w=.ok (.pointer (some ⟨b,o+4,none⟩)) w:=by kernel_rfl
theorem Db (b o:Nat)(w:World):(Instr.fieldAt 128 (pV b o) 0).run Tryz.prog w=.ok (pV b o) w:=by kernel_rfl
theorem vA (b o:Nat)(w:World):(Instr.fieldAt 128 (pV b o) 1).run Tryz.prog w=.ok (.pointer (some ⟨b,o+2,none⟩)) w:=by kernel_rfl
theorem HS (b o:Nat)(w:World):(Instr.fieldAt 128 (pV b o) 2).run Tryz.prog w=.ok (.pointer (some ⟨b,o+3,none⟩)) w:=by kernel_rfl
theorem zz (b o:Nat)(w:World):(Instr.fieldAt 128 (pV b o) 3).run Tryz.prog w=.ok (.pointer (some ⟨b,o+4,none⟩)) w:=by kernel_rfl
theorem Da (b o:Nat)(w:World):(Instr.fieldAt 153 (pV b o) 0).run Tryz.prog w=.ok (pV b o) w:=by kernel_rfl
theorem C9 (b o:Nat)(w:World):(Instr.fieldAt 153 (pV b o) 1).run Tryz.prog w=.ok (.pointer (some ⟨b,o+2,none⟩)) w:=by kernel_rfl
theorem md (b o:Nat)(w:World):(Instr.fieldAt 153 (pV b o) 2).run Tryz.prog w=.ok (.pointer (some ⟨b,o+3,none⟩)) w:=by kernel_rfl
theorem HR (b o:Nat)(w:World):(Instr.fieldAt 153 (pV b o) 3).run Tryz.prog w=.ok (.pointer (some ⟨b,o+4,none⟩)) w:=by kernel_rfl
theorem zy (b o:Nat)(w:World):(Instr.fieldAt 153 (pV b o) 4).run Tryz.prog w=.ok (.pointer (some ⟨b,o+5,none⟩)) w:=by kernel_rfl
theorem HQ (b o:Nat)(w:World):(Instr.fieldAt 157 (pV b o) 0).run Tryz.prog w=.ok (pV b o) w:=by kernel_rfl
theorem eU:iM Tryz.prog 3=true:=by kernel_rfl
theorem D0:iM Tryz.prog 4=true:=by kernel_rfl
theorem LZ:iM Tryz.prog 9=true:=by kernel_rfl
theorem jH:iM Tryz.prog 23=true:=by kernel_rfl
theorem CR:iM Tryz.prog 24=true:=by kernel_rfl
theorem jG:iM Tryz.prog 34=true:=by kernel_rfl
theorem dz:iM Tryz.prog 38=true:=by kernel_rfl
theorem uY:iM Tryz.prog 66=true:=by kernel_rfl
theorem Lm:iM Tryz.prog 97=true:=by kernel_rfl
theorem Kz:iM Tryz.prog 126=true:=by kernel_rfl
theorem Ky:iM Tryz.prog 129=true:=by kernel_rfl
theorem wk:iM Tryz.prog 137=true:=by kernel_rfl
theorem D1:iM Tryz.prog 151=true:=by kernel_rfl
theorem dH:ue Tryz.prog 36 2=true:=by kernel_rfl
theorem bx:ue Tryz.prog 47 6=true:=by kernel_rfl
theorem cz:ue Tryz.prog 52 3=true:=by kernel_rfl
theorem Kq:ue Tryz.prog 74 13=true:=by kernel_rfl
theorem LI:ue Tryz.prog 77 11=true:=by kernel_rfl
theorem dL:ee Tryz.prog 3 1=true:=by kernel_rfl
theorem uz:ee Tryz.prog 4 1=true:=by kernel_rfl
theorem o8:ee Tryz.prog 23 1=true:=by kernel_rfl
theorem Bq:ee Tryz.prog 30 1=true:=by kernel_rfl
theorem o7:ee Tryz.prog 34 1=true:=by kernel_rfl
theorem dj:ee Tryz.prog 36 2=true:=by kernel_rfl
theorem cZ:ee Tryz.prog 38 1=true:=by kernel_rfl
theorem bL:ee Tryz.prog 47 6=true:=by kernel_rfl
theorem bp:ee Tryz.prog 52 3=true:=by kernel_rfl
theorem Kw:ee Tryz.prog 74 13=true:=by kernel_rfl
theorem DG:ee Tryz.prog 77 11=true:=by kernel_rfl
theorem IP:ee Tryz.prog 129 1=true:=by kernel_rfl
theorem IN:ee Tryz.prog 137 1=true:=by kernel_rfl
theorem IM:ee Tryz.prog 151 1=true:=by kernel_rfl
theorem EO:ee Tryz.prog 210 0=true:=by kernel_rfl
theorem ED (w:World):(zeroValue 3).run Tryz.prog w=.ok (iV 0) w:=by kernel_rfl
theorem Cn (w:World):(zeroValue 4).run Tryz.prog w=.ok (.bool false) w:=by kernel_rfl
theorem Dx (w:World):(zeroValue 23).run Tryz.prog w=.ok (.slice none 0 0) w:=by kernel_rfl
theorem jI (w:World):(zeroValue 36).run Tryz.prog w=.ok (.agg #[.slice none 0 0,.slice none 0 0]) w:=by kernel_rfl
theorem G1 (w:World):(zeroValue 38).run Tryz.prog w=.ok (.slice none 0 0) w:=by kernel_rfl
theorem eM (w:World):(zeroValue 47).run Tryz.prog w=.ok (.agg #[iV 0,iV 0,iV 0,iV 0,.slice none 0 0,.slice none 0 0]) w:=by kernel_rfl
theorem i6 (w:World):(zeroValue 52).run Tryz.prog w=.ok (.agg #[iV 0,iV 0,.string ⟨#[]⟩]) w:=by kernel_rfl
theorem G0 (w:World):(zeroValue 74).run Tryz.prog w=.ok (.agg #[iV 0,iV 0,.bool false,iV 0,iV 0,iV 0,iV 0,.slice none 0 0,.slice none 0 0,iV 0,iV 0,.string ⟨#[]⟩,.slice none 0 0]) w:=by kernel_rfl
theorem IG (w:World):(zeroValue 129).run Tryz.prog w=.ok (.pointer none) w:=by kernel_rfl
theorem IF (w:World):(zeroValue 137).run Tryz.prog w=.ok (.map none) w:=by kernel_rfl
theorem IE (w:World):(zeroValue 151).run Tryz.prog w=.ok (.map none) w:=by kernel_rfl
theorem xF (w:World):(zeroValue 210).run Tryz.prog w=.ok (.agg #[]) w:=by kernel_rfl
theorem HO (x0_a:Option Addr)(x0_n x0_c:Nat)(x1_a:Option Addr)(x1_n x1_c:Nat)(w:World):(Instr.field 36 (.agg #[.slice x0_a x0_n x0_c,.slice x1_a x1_n x1_c]) 1).run Tryz.prog w=.ok (.slice x1_a x1_n x1_c) w:=by kernel_rfl
theorem HN (x0_:Int)(x1_:Int)(x2_:Int)(x3_:Int)(x4_a:Option Addr)(x4_n x4_c:Nat)(x5_a:Option Addr)(x5_n x5_c:Nat)(w:World):(Instr.field 47 (.agg #[iV x0_,iV x1_,iV x2_,iV x3_,.slice x4_a x4_n x4_c,.slice x5_a x5_n x5_c]) 3).run Tryz.prog w=.ok (iV x3_) w:=by kernel_rfl
theorem HM (x0_:Int)(x1_:Int)(x2_:Int)(x3_:Int)(x4_a:Option Addr)(x4_n x4_c:Nat)(x5_a:Option Addr)(x5_n x5_c:Nat)(w:World):(Instr.field 47 (.agg #[iV x0_,iV x1_,iV x2_,iV x3_,.slice x4_a x4_n x4_c,.slice x5_a x5_n x5_c]) 5).run Tryz.prog w=.ok (.slice x5_a x5_n x5_c) w:=by kernel_rfl
theorem C5 (x0_:Int)(x1_:Int)(x2_:ByteArray)(w:World):(Instr.field 52 (.agg #[iV x0_,iV x1_,.string x2_]) 1).run Tryz.prog w=.ok (iV x1_) w:=by kernel_rfl
theorem Cg  (w:World):(Instr.build 36 #[]).run Tryz.prog w=.ok (.agg #[.slice none 0 0,.slice none 0 0]) w:=by kernel_rfl
theorem Ey (x0_a:Option Addr)(x0_n x0_c:Nat)(x1_a:Option Addr)(x1_n x1_c:Nat)(w:World):(Instr.build 36 #[(0,.slice x0_a x0_n x0_c),(1,.slice x1_a x1_n x1_c)]).run Tryz.prog w=.ok (.agg #[.slice x0_a x0_n x0_c,.slice x1_a x1_n x1_c]) w:=by kernel_rfl
theorem xV  (w:World):(Instr.build 47 #[]).run Tryz.prog w=.ok (.agg #[iV 0,iV 0,iV 0,iV 0,.slice none 0 0,.slice none 0 0]) w:=by kernel_rfl
theorem Ew (x0_:Int)(x5_a:Option Addr)(x5_n x5_c:Nat)(w:World):(Instr.build 47 #[(0,iV x0_),(5,.slice x5_a x5_n x5_c)]).run Tryz.prog w=.ok (.agg #[iV x0_,iV 0,iV 0,iV 0,.slice none 0 0,.slice x5_a x5_n x5_c]) w:=by kernel_rfl
theorem It (x5_a:Option Addr)(x5_n x5_c:Nat)(w:World):(Instr.build 47 #[(5,.slice x5_a x5_n x5_c)]).run Tryz.prog w=.ok (.agg #[iV 0,iV 0,iV 0,iV 0,.slice none 0 0,.slice x5_a x5_n x5_c]) w:=by kernel_rfl
theorem FI  (w:World):(Instr.build 52 #[]).run Tryz.prog w=.ok (.agg #[iV 0,iV 0,.string ⟨#[]⟩]) w:=by kernel_rfl
theorem Eu (x0_:Int)(x1_:Int)(w:World):(Instr.build 52 #[(0,iV x0_),(1,iV x1_)]).run Tryz.prog w=.ok (.agg #[iV x0_,iV x1_,.string ⟨#[]⟩]) w:=by kernel_rfl
theorem Is (x3_:Option Addr)(w:World):(Instr.build 86 #[(3,.pointer x3_)]).run Tryz.prog w=.ok (.agg #[.slice none 0 0,.slice none 0 0,.slice none 0 0,.slice none 0 0,.pointer x3_]) w:=by kernel_rfl
theorem Dp (x0_0_a:Option Addr)(x0_0_n x0_0_c:Nat)(x0_1_a:Option Addr)(x0_1_n x0_1_c:Nat)(x2_:Option Nat)(w:World):(Instr.build 128 #[(0,.agg #[.slice x0_0_a x0_0_n x0_0_c,.slice x0_1_a x0_1_n x0_1_c]),(2,.map x2_)]).run Tryz.prog w=.ok (.agg #[.slice x0_0_a x0_0_n x0_0_c,.slice x0_1_a x0_1_n x0_1_c,.slice none 0 0,.map x2_,iV 0]) w:=by kernel_rfl
theorem z6 (x0_0_a:Option Addr)(x0_0_n x0_0_c:Nat)(x0_1_a:Option Addr)(x0_1_n x0_1_c:Nat)(x1_a:Option Addr)(x1_n x1_c:Nat)(x3_:Option Nat)(w:World):(Instr.build 153 #[(0,.agg #[.slice x0_0_a x0_0_n x0_0_c,.slice x0_1_a x0_1_n x0_1_c]),(1,.slice x1_a x1_n x1_c),(3,.map x3_)]).run Tryz.prog w=.ok (.agg #[.slice x0_0_a x0_0_n x0_0_c,.slice x0_1_a x0_1_n x0_1_c,.slice x1_a x1_n x1_c,.slice none 0 0,.map x3_,iV 0]) w:=by kernel_rfl
theorem GP (x0_:Option Nat)(w:World):(Instr.build 157 #[(0,.map x0_)]).run Tryz.prog w=.ok (.agg #[.map x0_]) w:=by kernel_rfl
theorem Do  (w:World):(Instr.build 210 #[]).run Tryz.prog w=.ok (.agg #[]) w:=by kernel_rfl
theorem ka (x0_:Int)(w:World):(Instr.buildSlice 23 1 #[(0,iV x0_)]).run Tryz.prog w=.ok (.slice (some ⟨w.heap.size,0,none⟩) 1 1) (w.alloc (.cells #[iV x0_] 3)):=by kernel_rfl
theorem Ir (x0_:Int)(x1_:Int)(w:World):(Instr.buildSlice 23 2 #[(0,iV x0_),(1,iV x1_)]).run Tryz.prog w=.ok (.slice (some ⟨w.heap.size,0,none⟩) 2 2) (w.alloc (.cells #[iV x0_,iV x1_] 3)):=by kernel_rfl
theorem pP (x0_0_:Int)(x0_1_:Int)(x0_2_:Int)(x0_3_:Int)(x0_4_a:Option Addr)(x0_4_n x0_4_c:Nat)(x0_5_a:Option Addr)(x0_5_n x0_5_c:Nat)(w:World):(Instr.buildSlice 34 1 #[(0,.agg #[iV x0_0_,iV x0_1_,iV x0_2_,iV x0_3_,.slice x0_4_a x0_4_n x0_4_c,.slice x0_5_a x0_5_n x0_5_c])]).run Tryz.prog w=.ok (.slice (some ⟨w.heap.size,0,none⟩) 1 1) (w.alloc (.cells #[iV x0_0_,iV x0_1_,iV x0_2_,iV x0_3_,.slice x0_4_a x0_4_n x0_4_c,.slice x0_5_a x0_5_n x0_5_c] 47)):=by kernel_rfl
theorem Iq  (w:World):(Instr.buildSlice 38 0 #[]).run Tryz.prog w=.ok (.slice (some ⟨w.heap.size,0,none⟩) 0 0) (w.alloc (.cells #[] 52)):=by kernel_rfl
theorem vK (x0_0_:Int)(x0_1_:Int)(x0_2_:ByteArray)(w:World):(Instr.buildSlice 38 1 #[(0,.agg #[iV x0_0_,iV x0_1_,.string x0_2_])]).run Tryz.prog w=.ok (.slice (some ⟨w.heap.size,0,none⟩) 1 1) (w.alloc (.cells #[iV x0_0_,iV x0_1_,.string x0_2_] 52)):=by kernel_rfl
theorem Ip (x0_0_:Int)(x0_1_:Int)(x0_2_:ByteArray)(x1_0_:Int)(x1_1_:Int)(x1_2_:ByteArray)(w:World):(Instr.buildSlice 38 2 #[(0,.agg #[iV x0_0_,iV x0_1_,.string x0_2_]),(1,.agg #[iV x1_0_,iV x1_1_,.string x1_2_])]).run Tryz.prog w=.ok (.slice (some ⟨w.heap.size,0,none⟩) 2 2) (w.alloc (.cells #[iV x0_0_,iV x0_1_,.string x0_2_,iV x1_0_,iV x1_1_,.string x1_2_] 52)):=by kernel_rfl
theorem Io (x0_0_:Int)(x0_1_:Int)(x0_2_:ByteArray)(x1_0_:Int)(x1_1_:Int)(x1_2_:ByteArray)(x2_0_:Int)(x2_1_:Int)(x2_2_:ByteArray)(w:World):(Instr.buildSlice 38 3 #[(0,.agg #[iV x0_0_,iV x0_1_,.string x0_2_]),(1,.agg #[iV x1_0_,iV x1_1_,.string x1_2_]),(2,.agg #[iV x2_0_,iV x2_1_,.string x2_2_])]).run Tryz.prog w=.ok (.slice (some ⟨w.heap.size,0,none⟩) 3 3) (w.alloc (.cells #[iV x0_0_,iV x0_1_,.string x0_2_,iV x1_0_,iV x1_1_,.string x1_2_,iV x2_0_,iV x2_1_,.string x2_2_] 52)):=by kernel_rfl
theorem Im (x0_0_:Int)(x0_1_:Int)(x0_2_:ByteArray)(x1_0_:Int)(x1_1_:Int)(x1_2_:ByteArray)(x2_0_:Int)(x2_1_:Int)(x2_2_:ByteArray)(x3_0_:Int)(x3_1_:Int)(x3_2_:ByteArray)(w:World):(Instr.buildSlice 38 4 #[(0,.agg #[iV x0_0_,iV x0_1_,.string x0_2_]),(1,.agg #[iV x1_0_,iV x1_1_,.string x1_2_]),(2,.agg #[iV x2_0_,iV x2_1_,.string x2_2_]),(3,.agg #[iV x3_0_,iV x3_1_,.string x3_2_])]).run Tryz.prog w=.ok (.slice (some ⟨w.heap.size,0,none⟩) 4 4) (w.alloc (.cells #[iV x0_0_,iV x0_1_,.string x0_2_,iV x1_0_,iV x1_1_,.string x1_2_,iV x2_0_,iV x2_1_,.string x2_2_,iV x3_0_,iV x3_1_,.string x3_2_] 52)):=by kernel_rfl
theorem wL (x0_a:Option Addr)(x0_n x0_c:Nat)(x1_a:Option Addr)(x1_n x1_c:Nat)(w:World):(Instr.buildSlice 117 2 #[(0,.slice x0_a x0_n x0_c),(1,.slice x1_a x1_n x1_c)]).run Tryz.prog w=.ok (.slice (some ⟨w.heap.size,0,none⟩) 2 2) (w.alloc (.cells #[.slice x0_a x0_n x0_c,.slice x1_a x1_n x1_c] 34)):=by kernel_rfl
theorem fP (x0_a:Option Addr)(x0_n x0_c:Nat)(x1_a:Option Addr)(x1_n x1_c:Nat)(w:World):(Instr.buildSlice 171 2 #[(0,.slice x0_a x0_n x0_c),(1,.slice x1_a x1_n x1_c)]).run Tryz.prog w=.ok (.slice (some ⟨w.heap.size,0,none⟩) 2 2) (w.alloc (.cells #[.slice x0_a x0_n x0_c,.slice x1_a x1_n x1_c] 38)):=by kernel_rfl
theorem AZ (x0_a:Option Addr)(x0_n x0_c:Nat)(x1_a:Option Addr)(x1_n x1_c:Nat)(w:World):(Instr.buildSlice 203 2 #[(0,.slice x0_a x0_n x0_c),(1,.slice x1_a x1_n x1_c)]).run Tryz.prog w=.ok (.slice (some ⟨w.heap.size,0,none⟩) 2 2) (w.alloc (.cells #[.slice x0_a x0_n x0_c,.slice x1_a x1_n x1_c] 23)):=by kernel_rfl
theorem Dw:ui Tryz.prog 3 1 8=true:=by kernel_rfl
theorem Bh:ui Tryz.prog 47 6 80=true:=by kernel_rfl
theorem xZ:ui Tryz.prog 52 3 32=true:=by kernel_rfl
instance:Fc (iM Tryz.prog 3=true):=⟨eU⟩
instance:Fc (iM Tryz.prog 4=true):=⟨D0⟩
instance:Fc (iM Tryz.prog 9=true):=⟨LZ⟩
instance:Fc (iM Tryz.prog 23=true):=⟨jH⟩
instance:Fc (iM Tryz.prog 24=true):=⟨CR⟩
instance:Fc (iM Tryz.prog 34=true):=⟨jG⟩
instance:Fc (iM Tryz.prog 38=true):=⟨dz⟩
instance:Fc (iM Tryz.prog 66=true):=⟨uY⟩
instance:Fc (iM Tryz.prog 97=true):=⟨Lm⟩
instance:Fc (iM Tryz.prog 126=true):=⟨Kz⟩
instance:Fc (iM Tryz.prog 129=true):=⟨Ky⟩
instance:Fc (iM Tryz.prog 137=true):=⟨wk⟩
instance:Fc (iM Tryz.prog 151=true):=⟨D1⟩
instance:FcA0 Tryz.prog 36 0:=⟨sJ⟩
instance:FcA Tryz.prog 36 1 1:=⟨oS⟩
instance:FcA0 Tryz.prog 47 0:=⟨Jr⟩
instance:FcA Tryz.prog 47 1 1:=⟨Jq⟩
instance:FcA Tryz.prog 47 2 2:=⟨Jp⟩
instance:FcA Tryz.prog 47 3 3:=⟨vz⟩
instance:FcA Tryz.prog 47 4 4:=⟨sI⟩
instance:FcA Tryz.prog 47 5 5:=⟨jC⟩
instance:FcA0 Tryz.prog 52 0:=⟨lJ⟩
instance:FcA Tryz.prog 52 1 1:=⟨sH⟩
instance:FcA Tryz.prog 52 2 2:=⟨Jo⟩
instance:FcA0 Tryz.prog 74 0:=⟨Jn⟩
instance:FcA Tryz.prog 74 1 1:=⟨Jm⟩
instance:FcA Tryz.prog 74 2 2:=⟨Jl⟩
instance:FcA Tryz.prog 74 3 3:=⟨Jk⟩
instance:FcA Tryz.prog 74 4 9:=⟨Jj⟩
instance:FcA Tryz.prog 74 5 12:=⟨Ji⟩
instance:FcA0 Tryz.prog 77 0:=⟨Jh⟩
instance:FcA Tryz.prog 77 1 1:=⟨Jg⟩
instance:FcA Tryz.prog 77 2 2:=⟨BR⟩
instance:FcA Tryz.prog 77 3 8:=⟨Jf⟩
instance:FcA0 Tryz.prog 86 0:=⟨eL⟩
instance:FcA Tryz.prog 86 1 2:=⟨jB⟩
instance:FcA Tryz.prog 86 2 3:=⟨lI⟩
instance:FcA Tryz.prog 86 3 4:=⟨oR⟩
instance:FcA0 Tryz.prog 128 0:=⟨Db⟩
instance:FcA Tryz.prog 128 1 2:=⟨vA⟩
instance:FcA Tryz.prog 128 2 3:=⟨HS⟩
instance:FcA Tryz.prog 128 3 4:=⟨zz⟩
instance:FcA0 Tryz.prog 153 0:=⟨Da⟩
instance:FcA Tryz.prog 153 1 2:=⟨C9⟩
instance:FcA Tryz.prog 153 2 3:=⟨md⟩
instance:FcA Tryz.prog 153 3 4:=⟨HR⟩
instance:FcA Tryz.prog 153 4 5:=⟨zy⟩
instance:FcA0 Tryz.prog 157 0:=⟨HQ⟩
theorem GA:Tryz.prog.eqGuardType Tryz.prog.depth 52=false:=by kernel_rfl
theorem Ju (x y:DValue)(w:World):(Op.equalIn 10000 52 (.agg #[iV x.Kind,iV x.N,.string x.S]) (.agg #[iV y.Kind,iV y.N,.string y.S])).run Tryz.prog w=.ok (decide (x=y)) w:=by
 obtain ⟨xKind,xN,xS⟩:=x;obtain ⟨yKind,yN,yS⟩:=y;show (Op.equalIn 10000 52 (.agg #[iV xKind,iV xN,.string xS]) (.agg #[iV yKind,iV yN,.string yS])).run Tryz.prog w=_
 go_simp
 simp only [Il];by_cases h0:xKind=yKind<;>by_cases h1:xN=yN<;>by_cases h2:xS=yS<;>simp [h0,h1,h2]
theorem AH {s:cr}{C:World→Prop}{d:Option Nat}{ty u:TypeId}{pos:String}{af:Array Edge}{gd:Option (Nat×Bool)}{a b:Operand}{x y:DValue}(hx:cn s a=some (.agg #[iV x.Kind,iV x.N,.string x.S]))(hy:cn s b=some (.agg #[iV y.Kind,iV y.N,.string y.S])):Ev Tryz.prog s C ⟨d,.binOp .neq 52 a b u,ty,pos,af,gd⟩ (.bool (!decide (x=y))):=
 iq hx hy fun w=>by
  rw [Sem.run_bind,run_eqGuard_agg w _ _ _ _ _ _ GA];simp only [Result.andThen_ok];rw [run_neq_struct,Ju];rfl
def mJ (N:Nat):Option DSet:=
 some (⟨([]:(List (Int×Bool)))⟩:DSet)
theorem zM {N:Nat}{r:DSet}(h:mJ N=some r):Okc Tryz.prog 56 [] ([]) (fun u post=> ∃B0 M1,u=pV B0 0∧post=[ac B0 157 [.map (some M1)],az aY bj M1 r.at_]):=by
 refine bI Tryz.func56 rfl rfl ?_;simp only [aW];refine run ?_;refine gD (qe (ek:=aY) (ev:=bj)) ?_;rintro _ _ ⟨M1,rfl,rfl⟩;refine gE (d7 rfl (GP _)) ?_;refine gD (bD rfl rfl) ?_;rintro _ _ ⟨B2,rfl,rfl⟩;refine run ?_;obtain rfl:=av h;exact aO rfl rfl (ab [0,1] 2 rfl rfl) ⟨_,_,rfl,rfl⟩
def qi (N:Nat):Option DHeap:=
 (mJ N).bind fun y1=>some (⟨(⟨[],[]⟩:DMemory),[],[],y1⟩:DHeap)
theorem xc {N:Nat}{r:DHeap}(h:qi N=some r):Okc Tryz.prog 14 [] ([]) (fun u post=> ∃B0 A1 n1 c1 A2 n2 c2 A3 n3 c3 A4 n4 c4 B5 M6,u=pV B0 0∧post=[ac B0 86 [.slice A1 n1 c1,.slice A2 n2 c2,.slice A3 n3 c3,.slice A4 n4 c4,pV B5 0],aD A1 n1 c1 r.m_.Young,aD A2 n2 c2 r.m_.Old,ax A3 n3 c3 r.roots_,ax A4 n4 c4 r.pending_,ac B5 157 [.map (some M6)],az aY bj M6 r.set_.at_]):=by
 refine bI Tryz.func14 rfl rfl ?_;simp only [aW];refine run ?_;obtain ⟨y1,hy1,h⟩:=aa h;refine gD (bi (zM hy1) KZ rfl (aP [] [] [] 0 rfl)) ?_;rintro _ _ ⟨_,⟨B2,M3,rfl,rfl⟩,rfl⟩;refine gE (d7 rfl (Is _)) ?_;refine gD (bD rfl rfl) ?_;rintro _ _ ⟨B4,rfl,rfl⟩;refine run ?_;obtain rfl:=av h;exact aO rfl rfl ((bv cY 47 _).trans ((bv cY 47 _).trans ((bv aR 52 _).trans ((bv aR 52 _).trans (ab [4,3,2,1,0,5,6] 7 rfl rfl))))) ⟨_,_,_,_,_,_,_,_,_,_,_,_,_,_,_,rfl,rfl⟩
def um (N:Nat):Option Bool:=
 some true
def w23_small_l4 (N:Nat)(a0:(List DOp)):Nat→Int→Option Bool
 |0,_=>none
 |m4+1,p5=>bif decide (p5<(a0.length:Int)) then ((aM a0 p5).bind fun x7=>(bif decide (20<(x7.C.Slots.length:Int)) then (some true) else ((aM a0 p5).bind fun x12=>some (decide (20<(x12.C.More.length:Int))))).bind fun b11=>bif b11 then (some false) else (bA (in64 (p5+1)) ((w23_small_l4 N a0 m4) (p5+1)))) else (um N)
def ot (N:Nat)(a0:(List DOp)):Option Bool:=
 bif decide (40<(a0.length:Int)) then (some false) else (w23_small_l4 N a0 N 0)
theorem Bm {N:Nat}{a0:(List DOp)}{r:Bool}(h:ot N a0=some r):Okc Tryz.prog 60 [.slice A1 n1 c1] ([ox DQ (.slice A1 n1 c1) a0]) (fun u post=>u=.bool r∧post=[]):=by
 refine bI Tryz.func60 rfl rfl ?_;simp only [aW];refine run ?_;refine aB ?_;refine run ?_;refine gR (aT 0 rfl au rfl Tryz.underlying71) ?_;refine run ?_;refine ay rfl (fun g2=> ?_) (fun g2=> ?_)
 ·replace h:=aj g2 h;refine run ?_;obtain rfl:=av h;exact aO rfl rfl (ab [] 1 rfl rfl) ⟨rfl,rfl⟩
 replace h:=ak g2 h;refine run ?_;refine aX (fun s L=>um N=some r∧s=[(2,.bool false)]∧L=[]) ?_ ?_
 ·refine run ?_;refine bJ (fun m s L=> ∃p5,w23_small_l4 N a0 m p5=some r∧s=[(0,.slice A1 n1 c1),(2,.bool false),(3,iV p5)]∧L=[ox DQ (.slice A1 n1 c1) a0]) N _ _ ⟨0,h,rfl,rfl⟩ sA (ab [0] 1 rfl rfl) ?_;rintro (_|m4) _ _ ⟨p5,h,rfl,rfl⟩
  ·exact aL h
  rw [w23_small_l4.eq_2] at h;refine aB ?_;refine run ?_;refine gR (aT 0 rfl au rfl Tryz.underlying71) ?_;refine run ?_;refine ay rfl (fun g6=> ?_) (fun g6=> ?_)
  ·replace h:=aj g6 h;refine run ?_;refine aB ?_;refine run ?_;obtain ⟨x7,hx7,h⟩:=aa h;obtain ⟨lx7,ux7,hx7⟩:=aC hx7;refine gR (bd 0 rfl au rfl rfl Tryz.underlying71 DG lx7 ux7) ?_;refine gR (rv 0 rfl au rfl (ck lx7 ux7) BR) ?_;refine gR (rv 0 rfl au rfl (ck lx7 ux7) sI) ?_;refine oZ 0 rfl hx7 (yU x7) ?_;rintro _ _ ⟨A8,n8,c8,A9,n9,c9,rfl,rfl⟩;refine gR (EP 0 rfl rfl dz rfl) ?_;refine gR (aT 1 rfl au rfl Tryz.underlying38) ?_;refine run ?_;obtain ⟨b11,hb11,h⟩:=aa h;refine bc 9 30 b11 ?_ ?_
   ·clear h;refine ba 21 rfl (fun g11=> ?_) (fun g11=> ?_)
    ·have h:=aj g11 hb11;refine run ?_;obtain rfl:=av h;exact am sA (ab [0,1,2,3] 4 rfl rfl)
    have h:=ak g11 hb11;refine run ?_;obtain ⟨x12,hx12,h⟩:=aa h;obtain ⟨lx12,ux12,hx12⟩:=aC hx12;refine cL (bd 3 rfl au rfl rfl Tryz.underlying71 DG lx12 ux12) rfl (dJ g11 rfl) rfl ?_;refine cL (rv 3 rfl au rfl (ck lx12 ux12) BR) rfl (dJ g11 rfl) rfl ?_;refine cL (rv 3 rfl au rfl (ck lx12 ux12) jC) rfl (dJ g11 rfl) rfl ?_;refine oZ 3 rfl hx12 (yU x12) ?_;rintro _ _ ⟨A13,n13,c13,A14,n14,c14,rfl,rfl⟩;refine cL (EP 0 rfl rfl dz rfl) rfl (dJ g11 rfl) rfl ?_;refine cL (aT 2 rfl au rfl Tryz.underlying38) rfl (dJ g11 rfl) rfl ?_;refine run ?_;obtain rfl:=av h;exact am sA (ab [3,4,5,6] 7 rfl rfl)
   refine run ?_;refine ay rfl (fun g16=> ?_) (fun g16=> ?_)
   ·replace h:=aj g16 h;refine run ?_;obtain rfl:=av h;exact aO rfl rfl (ab [] 4 rfl rfl) ⟨rfl,rfl⟩
   replace h:=ak g16 h;refine run ?_;obtain ⟨q17,h⟩:=aq h;refine gE (be rfl rfl q17.1 q17.2) ?_;refine run ?_;exact ⟨m4,_,_,Nat.lt_succ_self _,⟨p5+1,h,rfl,rfl⟩,sA,ab [3] 4 rfl rfl⟩
  replace h:=ak g6 h;refine run ?_;exact ⟨_,_,⟨h,rfl,rfl⟩,sA,ab [] 1 rfl rfl⟩
 rintro _ _ ⟨h,rfl,rfl⟩;refine run ?_;obtain rfl:=av h;exact aO rfl rfl (ab [] 0 rfl rfl) ⟨rfl,rfl⟩
theorem yd {r:Bool}: ∀v post,((fun (u:Value) (post:List Chunk)=>u=.bool r∧post=[])) v post→ ∀c∈post,cA c:=by
 rintro _ _ ⟨rfl,rfl⟩;exact ae
def vS (N:Nat)(a0:(List DValue)):Option DCell:=
 some (⟨11,0,0,0,[],a0⟩:DCell)
theorem ye {N:Nat}{a0:(List DValue)}{r:DCell}(h:vS N a0=some r):Okc Tryz.prog 146 [.slice A1 n1 c1] ([aH A1 n1 c1 a0]) (fun u post=> ∃A0 n0 c0 A1 n1 c1,u=.agg #[iV r.Kind,iV r.Shape,iV r.Flags,iV r.Age,.slice A0 n0 c0,.slice A1 n1 c1]∧post=[aH A0 n0 c0 r.Slots,aH A1 n1 c1 r.More]):=by
 refine bI Tryz.func146 rfl rfl ?_;simp only [aW];refine run ?_;refine gD (aQ eM rfl) ?_;rintro _ _ ⟨B2,rfl,rfl⟩;refine run ?_;refine gE (d7 rfl (Ew _ _ _ _)) ?_;refine gO (ap (us:=[iV 11,iV 0,iV 0,iV 0,.slice none 0 0,.slice A1 n1 c1]) (cs':=[iV 11,iV 0,iV 0,iV 0,.slice none 0 0,.slice A1 n1 c1]) 0 rfl rfl rfl rfl bL rfl rfl rfl) ?_;rintro _ _ rfl;refine run ?_;obtain rfl:=av h;exact d8 (rs:=[.cell 2 47]) (vs:=[.agg #[iV 11,iV 0,iV 0,iV 0,.slice none 0 0,.slice A1 n1 c1]]) rfl (.cons (cD 0 rfl rfl bx) .nil) rfl ((Fb aR _).trans (ab [0,2] 3 rfl rfl)) ⟨_,_,_,_,_,_,rfl,rfl⟩
def aU (N:Nat)(a0:DHeap):Option Bool:=
 some false
theorem bO {N:Nat}{a0:DHeap}{r:Bool}(h:aU N a0=some r):Okc Tryz.prog 73 [pV B1 0] ([aG B1 86 [.slice A2 n2 c2,.slice A3 n3 c3,.slice A4 n4 c4,.slice A5 n5 c5,pV B6 0],bo A2 n2 c2 a0.m_.Young,bo A3 n3 c3 a0.m_.Old,aH A4 n4 c4 a0.roots_,aH A5 n5 c5 a0.pending_,aG B6 157 [.map (some M7)],kF aY bj M7 a0.set_.at_]) (fun u post=>u=.bool r∧post=[]):=by
 refine bI Tryz.func73 rfl rfl ?_;simp only [aW];refine run ?_;refine gE (lz rfl Tryz.underlying24) ?_;refine run ?_;refine gR (bz 0 rfl rfl uY rfl) ?_;refine gE (lz rfl Tryz.underlying66) ?_;refine run ?_;obtain rfl:=av h;exact aO rfl rfl (ab [] 7 rfl rfl) ⟨rfl,rfl⟩
theorem bF {r:Bool}: ∀v post,((fun (u:Value) (post:List Chunk)=>u=.bool r∧post=[])) v post→ ∀c∈post,cA c:=by
 rintro _ _ ⟨rfl,rfl⟩;exact ae
def cell_all_c1_l15 (N:Nat){σ:Type}(fy:(Bool×DValue)→σ→Option (Bool×σ))(a1:DCell):Nat→Int→σ→Option σ
 |0,_,_=>none
 |m15+1,p16,p17=>bif decide (p16<(a1.More.length:Int)) then ((aM a1.More p16).bind fun x19=>(bif !decide (a1.Kind=8) then ((bif !decide (a1.Kind=10) then (some true) else (some (decide (p16.tmod 2=0)))).bind fun b22=>some b22) else (some false)).bind fun b21=>(fy (b21,x19) p17).bind fun y23=>bif !y23.1 then (some y23.2) else (bA (in64 (p16+1)) ((cell_all_c1_l15 N fy a1 m15) (p16+1) y23.2))) else (some p17)
def nW (N:Nat){σ:Type}(fy:(Bool×DValue)→σ→Option (Bool×σ))(a1:DCell)(p5:σ):Option σ:=
 cell_all_c1_l15 N fy a1 N 0 p5
def cell_all_c1_l6 (N:Nat){σ:Type}(fy:(Bool×DValue)→σ→Option (Bool×σ))(a1:DCell):Nat→Int→σ→Option σ
 |0,_,_=>none
 |m6+1,p7,p8=>bif decide (p7<(a1.Slots.length:Int)) then ((aM a1.Slots p7).bind fun x10=>(fy (true,x10) p8).bind fun y12=>bif !y12.1 then (some y12.2) else (bA (in64 (p7+1)) ((cell_all_c1_l6 N fy a1 m6) (p7+1) y12.2))) else (nW N fy a1 p8)
def jZ (N:Nat){σ:Type}(a1:DCell)(fy:(Bool×DValue)→σ→Option (Bool×σ))(s0:σ):Option σ:=
 cell_all_c1_l6 N fy a1 N 0 s0
theorem se {N:Nat}{σ:Type}{a1:DCell}{fy:(Bool×DValue)→σ→Option (Bool×σ)}{s0:σ}{r:σ}(h:jZ N a1 fy s0=some r){l:Nat}{G:σ→List Chunk}(hY:oX Tryz.prog l G (fun x=> [.bool x.1,.agg #[iV x.2.Kind,iV x.2.N,.string x.2.S]]) fy):Okc Tryz.prog 223 [.func (.yield l) #[] #[],pV B1 0] (aG B1 47 [iV a1.Kind,iV a1.Shape,iV a1.Flags,iV a1.Age,.slice A2 n2 c2,.slice A3 n3 c3]::aH A2 n2 c2 a1.Slots::aH A3 n3 c3 a1.More::(G s0)) (fun u post=>u=.tuple #[]∧post=G r):=by
 refine bI Tryz.func223 rfl rfl ?_;simp only [aW];refine aX (fun s L=> ∃p5,nW N fy a1 p5=some r∧s=[(0,.func (.yield l) #[] #[]),(1,pV B1 0)]∧L=aH A2 n2 c2 a1.Slots::aH A3 n3 c3 a1.More::aG B1 47 [iV a1.Kind,iV a1.Shape,iV a1.Flags,iV a1.Age,.slice A2 n2 c2,.slice A3 n3 c3]::(G p5)) ?_ ?_
 ·refine run ?_;refine gR (bz 0 rfl rfl dz rfl) ?_;refine gR (aT 1 rfl au rfl Tryz.underlying38) ?_;refine run ?_;refine bJ (fun m s L=> ∃p7 p8,cell_all_c1_l6 N fy a1 m p7 p8=some r∧s=[(0,.func (.yield l) #[] #[]),(1,pV B1 0),(9,.slice A2 n2 c2),(10,iV (a1.Slots.length:Int)),(11,iV p7)]∧L=aH A2 n2 c2 a1.Slots::aH A3 n3 c3 a1.More::aG B1 47 [iV a1.Kind,iV a1.Shape,iV a1.Flags,iV a1.Age,.slice A2 n2 c2,.slice A3 n3 c3]::(G p8)) N _ _ ⟨0,s0,h,rfl,rfl⟩ sA (ab [1,2,0] 3 rfl rfl) ?_;rintro (_|m6) _ _ ⟨p7,p8,h,rfl,rfl⟩
  ·exact aL h
  rw [cell_all_c1_l6.eq_2] at h;refine run ?_;refine aB ?_;refine ay rfl (fun g9=> ?_) (fun g9=> ?_)
  ·replace h:=aj g9 h;refine run ?_;refine aB ?_;refine run ?_;obtain ⟨x10,hx10,h⟩:=aa h;obtain ⟨lx10,ux10,hx10⟩:=aC hx10;refine gR (bd 0 rfl au rfl rfl Tryz.underlying38 bp lx10 ux10) ?_;refine gR (bV (us:=[iV x10.Kind,iV x10.N,.string x10.S]) 0 rfl au rfl hx10 cz (fun _ _ _ h=>by rw [show _=_ from h];rfl)) ?_;refine gD (aQ i6 rfl) ?_;rintro _ _ ⟨B11,rfl,rfl⟩;refine gO (ap (us:=[iV x10.Kind,iV x10.N,.string x10.S]) (cs':=[iV x10.Kind,iV x10.N,.string x10.S]) 0 rfl rfl rfl rfl bp rfl rfl rfl) ?_;rintro _ _ rfl;refine run ?_;refine gR (aI (us:=[iV x10.Kind,iV x10.N,.string x10.S]) 0 rfl rfl cz rfl) ?_;obtain ⟨y12,hy12,h⟩:=aa h;refine gD (sx (a:=(true,x10)) [ac B11 52 [iV x10.Kind,iV x10.N,.string x10.S],aH A2 n2 c2 a1.Slots,aH A3 n3 c3 a1.More,aG B1 47 [iV a1.Kind,iV a1.Shape,iV a1.Flags,iV a1.Age,.slice A2 n2 c2,.slice A3 n3 c3]] hY hy12 rfl rfl) ?_;rintro _ _ ⟨rfl,rfl⟩;refine run ?_;refine ay rfl (fun g13=> ?_) (fun g13=> ?_)
   ·replace h:=aj g13 h;refine run ?_;obtain rfl:=av h;exact AR rfl (ab [] 4 rfl rfl) ⟨rfl,rfl⟩
   replace h:=ak g13 h;refine run ?_;obtain ⟨q14,h⟩:=aq h;refine gE (be rfl rfl q14.1 q14.2) ?_;refine run ?_;exact ⟨m6,_,_,Nat.lt_succ_self _,⟨p7+1,y12.2,h,rfl,rfl⟩,sA,ab [1,2,3] 4 rfl rfl⟩
  replace h:=ak g9 h;refine run ?_;exact ⟨_,_,⟨p8,h,rfl,rfl⟩,sA,ab [0,1,2] 3 rfl rfl⟩
 rintro _ _ ⟨p5,h,rfl,rfl⟩;refine run ?_;refine gR (bz 2 rfl rfl dz rfl) ?_;refine gR (aT 1 rfl au rfl Tryz.underlying38) ?_;refine run ?_;refine bJ (fun m s L=> ∃p16 p17,cell_all_c1_l15 N fy a1 m p16 p17=some r∧s=[(0,.func (.yield l) #[] #[]),(1,pV B1 0),(21,.slice A3 n3 c3),(22,iV (a1.More.length:Int)),(23,iV p16)]∧L=aH A3 n3 c3 a1.More::aH A2 n2 c2 a1.Slots::aG B1 47 [iV a1.Kind,iV a1.Shape,iV a1.Flags,iV a1.Age,.slice A2 n2 c2,.slice A3 n3 c3]::(G p17)) N _ _ ⟨0,p5,h,rfl,rfl⟩ sA (ab [1,0,2] 3 rfl rfl) ?_;rintro (_|m15) _ _ ⟨p16,p17,h,rfl,rfl⟩
 ·exact aL h
 rw [cell_all_c1_l15.eq_2] at h;refine run ?_;refine aB ?_;refine ay rfl (fun g18=> ?_) (fun g18=> ?_)
 ·replace h:=aj g18 h;refine run ?_;refine aB ?_;refine run ?_;obtain ⟨x19,hx19,h⟩:=aa h;obtain ⟨lx19,ux19,hx19⟩:=aC hx19;refine gR (bd 0 rfl au rfl rfl Tryz.underlying38 bp lx19 ux19) ?_;refine gR (bV (us:=[iV x19.Kind,iV x19.N,.string x19.S]) 0 rfl au rfl hx19 cz (fun _ _ _ h=>by rw [show _=_ from h];rfl)) ?_;refine gD (aQ i6 rfl) ?_;rintro _ _ ⟨B20,rfl,rfl⟩;refine run ?_;refine gO (ap (us:=[iV x19.Kind,iV x19.N,.string x19.S]) (cs':=[iV x19.Kind,iV x19.N,.string x19.S]) 0 rfl rfl rfl rfl bp rfl rfl rfl) ?_;rintro _ _ rfl;refine bQ (ac B20 52 [iV x19.Kind,iV x19.N,.string x19.S]::aH A3 n3 c3 a1.More::aH A2 n2 c2 a1.Slots::aG B1 47 [iV a1.Kind,iV a1.Shape,iV a1.Flags,iV a1.Age,.slice A2 n2 c2,.slice A3 n3 c3]::(G p17)) rfl ?_;refine run ?_;refine gR (bz 3 rfl rfl eU rfl) ?_;refine run ?_;obtain ⟨b21,hb21,h⟩:=aa h;refine bc 9 40 b21 ?_ ?_
  ·clear h;refine ba 31 rfl (fun g21=> ?_) (fun g21=> ?_)
   ·have h:=aj g21 hb21;refine run ?_;refine cL (bz 3 rfl rfl eU rfl) rfl (cm g21 rfl) rfl ?_;refine run ?_;obtain ⟨b22,hb22,h⟩:=aa h;refine bc 4 39 b22 ?_ ?_
    ·clear h;refine ba 35 rfl (fun g22=> ?_) (fun g22=> ?_)
     ·have h:=aj g22 hb22;refine run ?_;obtain rfl:=av h;exact am sA (ab [0,1,2,3] 4 rfl rfl)
     have h:=ak g22 hb22;refine run ?_;refine sj (ph rfl rfl (by decide)) rfl (dJ g22 rfl) rfl ?_;refine run ?_;obtain rfl:=av h;exact am sA (ab [0,1,2,3] 4 rfl rfl)
    refine run ?_;obtain rfl:=av h;exact am sA (ab [0,1,2,3] 4 rfl rfl)
   have h:=ak g21 hb21;refine run ?_;obtain rfl:=av h;exact am sA (ab [0,1,2,3] 4 rfl rfl)
  refine run ?_;refine gR (aI (us:=[iV x19.Kind,iV x19.N,.string x19.S]) 0 rfl rfl cz rfl) ?_;obtain ⟨y23,hy23,h⟩:=aa h;refine gD (sx (a:=(b21,x19)) [ac B20 52 [iV x19.Kind,iV x19.N,.string x19.S],aH A3 n3 c3 a1.More,aH A2 n2 c2 a1.Slots,aG B1 47 [iV a1.Kind,iV a1.Shape,iV a1.Flags,iV a1.Age,.slice A2 n2 c2,.slice A3 n3 c3]] hY hy23 rfl rfl) ?_;rintro _ _ ⟨rfl,rfl⟩;refine run ?_;refine ay rfl (fun g24=> ?_) (fun g24=> ?_)
  ·replace h:=aj g24 h;refine run ?_;obtain rfl:=av h;exact AR rfl (ab [] 4 rfl rfl) ⟨rfl,rfl⟩
  replace h:=ak g24 h;refine run ?_;obtain ⟨q25,h⟩:=aq h;refine gE (be rfl rfl q25.1 q25.2) ?_;refine run ?_;exact ⟨m15,_,_,Nat.lt_succ_self _,⟨p16+1,y23.2,h,rfl,rfl⟩,sA,ab [1,2,3] 4 rfl rfl⟩
 replace h:=ak g18 h;refine run ?_;obtain rfl:=av h;exact jr rfl (ab [] 3 rfl rfl) ⟨rfl,rfl⟩
def nX (N:Nat)(a0:DCell):Option Unit:=
 some ()
theorem xl {N:Nat}{a0:DCell}{r:Unit}(h:nX N a0=some r):Okc Tryz.prog 168 [.agg #[iV a0.Kind,iV a0.Shape,iV a0.Flags,iV a0.Age,.slice A1 n1 c1,.slice A2 n2 c2]] ([aH A1 n1 c1 a0.Slots,aH A2 n2 c2 a0.More]) (fun u post=> ∃B900,u=.func (.func 223) #[] #[pV B900 0]∧post=[ac B900 47 [iV a0.Kind,iV a0.Shape,iV a0.Flags,iV a0.Age,.slice A1 n1 c1,.slice A2 n2 c2]]):=by
 refine bI Tryz.func168 rfl rfl ?_;simp only [aW];refine run ?_;refine gD (bD rfl rfl) ?_;rintro _ _ ⟨B3,rfl,rfl⟩;refine run ?_;refine gE (dN rfl) ?_;refine run ?_;obtain rfl:=av h;exact aO rfl rfl (ab [0] 3 rfl rfl) ⟨_,rfl,rfl⟩
theorem tA {a0:DCell}{A1:Option Addr}{n1:Nat}{c1:Nat}{A2:Option Addr}{n2:Nat}{c2:Nat}: ∀v post,((fun (u:Value) (post:List Chunk)=> ∃B900,u=.func (.func 223) #[] #[pV B900 0]∧post=[ac B900 47 [iV a0.Kind,iV a0.Shape,iV a0.Flags,iV a0.Age,.slice A1 n1 c1,.slice A2 n2 c2]])) v post→ ∀c∈post,cA c:=by
 rintro _ _ ⟨_,rfl,rfl⟩;exact mem_cons mc (ae)
def me (N:Nat)(a0:DValue)(p10:Bool):Option Bool:=
 bif p10 then (some (decide (1≤a0.N))) else ((bif decide (a0.N=0) then (some (decide (0≤a0.Kind))) else (some false)).bind fun b14=>(bif b14 then (some (decide (a0.Kind≤9))) else (some false)).bind fun b15=>some b15)
def qn (N:Nat)(a0:DValue):Option Bool:=
 bif decide (a0.Kind=5) then ((bif decide (a0.N=0) then (some (decide ((a0.S.size:Int)≤65536))) else (some false)).bind fun b3=>some b3) else (bif !(a0.S.toList==(⟨#[]⟩:ByteArray).toList) then (some false) else (bif decide (a0.Kind=2) then ((bif decide (a0.N=0) then (some true) else (some (decide (a0.N=1)))).bind fun b6=>some b6) else (bif decide (a0.Kind=3) then ((bif decide ((-9007199254740992)≤a0.N) then (some (decide (a0.N≤9007199254740992))) else (some false)).bind fun b8=>some b8) else (bif decide (a0.Kind=6) then (me N a0 (decide (a0.Kind=6))) else (bif decide (a0.Kind=7) then (me N a0 (decide (a0.Kind=7))) else (me N a0 (decide (a0.Kind=9))))))))
theorem Dm {N:Nat}{a0:DValue}{r:Bool}(h:qn N a0=some r):Okc Tryz.prog 169 [.agg #[iV a0.Kind,iV a0.N,.string a0.S]] ([]) (fun u post=>u=.bool r∧post=[]):=by
 refine bI Tryz.func169 rfl rfl ?_;simp only [aW];refine run ?_;refine gD (bD rfl rfl) ?_;rintro _ _ ⟨B1,rfl,rfl⟩;refine run ?_;refine aB ?_;refine run ?_;refine ay rfl (fun g2=> ?_) (fun g2=> ?_)
 ·replace h:=aj g2 h;refine run ?_;obtain ⟨b3,hb3,h⟩:=aa h;refine bc 5 14 b3 ?_ ?_
  ·clear h;refine ba 9 rfl (fun g3=> ?_) (fun g3=> ?_)
   ·have h:=aj g3 hb3;refine run ?_;refine sj (Js rfl Tryz.underlying9) rfl (cm g3 rfl) rfl ?_;refine run ?_;obtain rfl:=av h;exact am sA (ab [0] 1 rfl rfl)
   have h:=ak g3 hb3;refine run ?_;obtain rfl:=av h;exact am sA (ab [0] 1 rfl rfl)
  refine run ?_;obtain rfl:=av h;exact aO rfl rfl (ab [] 1 rfl rfl) ⟨rfl,rfl⟩
 replace h:=ak g2 h;refine run ?_;refine aB ?_;refine run ?_;refine gE (HU rfl rfl) ?_;refine run ?_;refine ay rfl (fun g4=> ?_) (fun g4=> ?_)
 ·replace h:=aj g4 h;refine run ?_;obtain rfl:=av h;exact aO rfl rfl (ab [] 1 rfl rfl) ⟨rfl,rfl⟩
 replace h:=ak g4 h;refine run ?_;refine aB ?_;refine run ?_;refine ay rfl (fun g5=> ?_) (fun g5=> ?_)
 ·replace h:=aj g5 h;refine run ?_;obtain ⟨b6,hb6,h⟩:=aa h;refine bc 4 29 b6 ?_ ?_
  ·clear h;refine ba 25 rfl (fun g6=> ?_) (fun g6=> ?_)
   ·have h:=aj g6 hb6;refine run ?_;obtain rfl:=av h;exact am sA (ab [0] 1 rfl rfl)
   have h:=ak g6 hb6;refine run ?_;obtain rfl:=av h;exact am sA (ab [0] 1 rfl rfl)
  refine run ?_;obtain rfl:=av h;exact aO rfl rfl (ab [] 1 rfl rfl) ⟨rfl,rfl⟩
 replace h:=ak g5 h;refine run ?_;refine ay rfl (fun g7=> ?_) (fun g7=> ?_)
 ·replace h:=aj g7 h;refine run ?_;obtain ⟨b8,hb8,h⟩:=aa h;refine bc 4 39 b8 ?_ ?_
  ·clear h;refine ba 35 rfl (fun g8=> ?_) (fun g8=> ?_)
   ·have h:=aj g8 hb8;refine run ?_;obtain rfl:=av h;exact am sA (ab [0] 1 rfl rfl)
   have h:=ak g8 hb8;refine run ?_;obtain rfl:=av h;exact am sA (ab [0] 1 rfl rfl)
  refine run ?_;obtain rfl:=av h;exact aO rfl rfl (ab [] 1 rfl rfl) ⟨rfl,rfl⟩
 replace h:=ak g7 h;refine aX (fun s L=> ∃p10,me N a0 p10=some r∧s=[(1,pV B1 0),(2,.bool false),(40,.bool p10)]∧L=[ac B1 52 [iV a0.Kind,iV a0.N,.string a0.S]]) ?_ ?_
 ·refine run ?_;refine ay rfl (fun g11=> ?_) (fun g11=> ?_)
  ·replace h:=aj g11 h;refine run ?_;exact ⟨_,_,⟨decide (a0.Kind=6),h,rfl,rfl⟩,sA,ab [0] 1 rfl rfl⟩
  replace h:=ak g11 h;refine run ?_;refine ay rfl (fun g12=> ?_) (fun g12=> ?_)
  ·replace h:=aj g12 h;refine run ?_;exact ⟨_,_,⟨decide (a0.Kind=7),h,rfl,rfl⟩,sA,ab [0] 1 rfl rfl⟩
  replace h:=ak g12 h;refine run ?_;exact ⟨_,_,⟨decide (a0.Kind=9),h,rfl,rfl⟩,sA,ab [0] 1 rfl rfl⟩
 rintro _ _ ⟨p10,h,rfl,rfl⟩;refine ay rfl (fun g13=> ?_) (fun g13=> ?_)
 ·replace h:=aj g13 h;refine run ?_;obtain rfl:=av h;exact aO rfl rfl (ab [] 1 rfl rfl) ⟨rfl,rfl⟩
 replace h:=ak g13 h;refine run ?_;obtain ⟨b14,hb14,h⟩:=aa h;refine bc 4 54 b14 ?_ ?_
 ·clear h;refine ba 50 rfl (fun g14=> ?_) (fun g14=> ?_)
  ·have h:=aj g14 hb14;refine run ?_;obtain rfl:=av h;exact am sA (ab [0] 1 rfl rfl)
  have h:=ak g14 hb14;refine run ?_;obtain rfl:=av h;exact am sA (ab [0] 1 rfl rfl)
 refine run ?_;obtain ⟨b15,hb15,h⟩:=aa h;refine bc 4 59 b15 ?_ ?_
 ·clear h;refine ba 55 rfl (fun g15=> ?_) (fun g15=> ?_)
  ·have h:=aj g15 hb15;refine run ?_;obtain rfl:=av h;exact am sA (ab [0] 1 rfl rfl)
  have h:=ak g15 hb15;refine run ?_;obtain rfl:=av h;exact am sA (ab [0] 1 rfl rfl)
 refine run ?_;obtain rfl:=av h;exact aO rfl rfl (ab [] 1 rfl rfl) ⟨rfl,rfl⟩
theorem zY {r:Bool}: ∀v post,((fun (u:Value) (post:List Chunk)=>u=.bool r∧post=[])) v post→ ∀c∈post,cA c:=by
 rintro _ _ ⟨rfl,rfl⟩;exact ae
def f9 (N:Nat)(p2:Bool):Option Bool:=
 bif p2 then (some true) else (some false)
def qo (N:Nat)(a0:Int):Option Bool:=
 bif decide (a0=1) then (f9 N (decide (a0=1))) else (bif decide (a0=2) then (f9 N (decide (a0=2))) else (bif decide (a0=3) then (f9 N (decide (a0=3))) else (bif decide (a0=6) then (f9 N (decide (a0=6))) else (bif decide (a0=8) then (f9 N (decide (a0=8))) else (bif decide (a0=9) then (f9 N (decide (a0=9))) else (f9 N (decide (a0=10))))))))
theorem Dn {N:Nat}{a0:Int}{r:Bool}(h:qo N a0=some r):Okc Tryz.prog 224 [iV a0] ([]) (fun u post=>u=.bool r∧post=[]):=by
 refine bI Tryz.func224 rfl rfl ?_;simp only [aW];refine run ?_;refine aB ?_;refine run ?_;refine aX (fun s L=> ∃p2,f9 N p2=some r∧s=[(2,.bool false),(4,.bool p2)]∧L=[]) ?_ ?_
 ·refine run ?_;refine ay rfl (fun g3=> ?_) (fun g3=> ?_)
  ·replace h:=aj g3 h;refine run ?_;exact ⟨_,_,⟨decide (a0=1),h,rfl,rfl⟩,sA,ab [] 0 rfl rfl⟩
  replace h:=ak g3 h;refine run ?_;refine ay rfl (fun g4=> ?_) (fun g4=> ?_)
  ·replace h:=aj g4 h;refine run ?_;exact ⟨_,_,⟨decide (a0=2),h,rfl,rfl⟩,sA,ab [] 0 rfl rfl⟩
  replace h:=ak g4 h;refine run ?_;refine ay rfl (fun g5=> ?_) (fun g5=> ?_)
  ·replace h:=aj g5 h;refine run ?_;exact ⟨_,_,⟨decide (a0=3),h,rfl,rfl⟩,sA,ab [] 0 rfl rfl⟩
  replace h:=ak g5 h;refine run ?_;refine ay rfl (fun g6=> ?_) (fun g6=> ?_)
  ·replace h:=aj g6 h;refine run ?_;exact ⟨_,_,⟨decide (a0=6),h,rfl,rfl⟩,sA,ab [] 0 rfl rfl⟩
  replace h:=ak g6 h;refine run ?_;refine ay rfl (fun g7=> ?_) (fun g7=> ?_)
  ·replace h:=aj g7 h;refine run ?_;exact ⟨_,_,⟨decide (a0=8),h,rfl,rfl⟩,sA,ab [] 0 rfl rfl⟩
  replace h:=ak g7 h;refine run ?_;refine ay rfl (fun g8=> ?_) (fun g8=> ?_)
  ·replace h:=aj g8 h;refine run ?_;exact ⟨_,_,⟨decide (a0=9),h,rfl,rfl⟩,sA,ab [] 0 rfl rfl⟩
  replace h:=ak g8 h;refine run ?_;exact ⟨_,_,⟨decide (a0=10),h,rfl,rfl⟩,sA,ab [] 0 rfl rfl⟩
 rintro _ _ ⟨p2,h,rfl,rfl⟩;refine ay rfl (fun g9=> ?_) (fun g9=> ?_)
 ·replace h:=aj g9 h;refine run ?_;obtain rfl:=av h;exact aO rfl rfl (ab [] 0 rfl rfl) ⟨rfl,rfl⟩
 replace h:=ak g9 h;refine run ?_;obtain rfl:=av h;exact aO rfl rfl (ab [] 0 rfl rfl) ⟨rfl,rfl⟩
theorem zZ {r:Bool}: ∀v post,((fun (u:Value) (post:List Chunk)=>u=.bool r∧post=[])) v post→ ∀c∈post,cA c:=by
 rintro _ _ ⟨rfl,rfl⟩;exact ae
def fe (N:Nat)(a0:DValue)(a1:Int):Option Bool:=
 (bif decide (a0.Kind=0) then (some true) else (some (decide (a0.Kind=a1)))).bind fun b2=>some b2
theorem gJ {N:Nat}{a0:DValue}{a1:Int}{r:Bool}(h:fe N a0 a1=some r):Okc Tryz.prog 225 [.agg #[iV a0.Kind,iV a0.N,.string a0.S],iV a1] ([]) (fun u post=>u=.bool r∧post=[]):=by
 refine bI Tryz.func225 rfl rfl ?_;simp only [aW];refine run ?_;refine gD (bD rfl rfl) ?_;rintro _ _ ⟨B1,rfl,rfl⟩;refine run ?_;obtain ⟨b2,hb2,h⟩:=aa h;refine bc 5 13 b2 ?_ ?_
 ·clear h;refine ba 8 rfl (fun g2=> ?_) (fun g2=> ?_)
  ·have h:=aj g2 hb2;refine run ?_;obtain rfl:=av h;exact am sA (ab [0] 1 rfl rfl)
  have h:=ak g2 hb2;refine run ?_;obtain rfl:=av h;exact am sA (ab [0] 1 rfl rfl)
 refine run ?_;obtain rfl:=av h;exact aO rfl rfl (ab [] 1 rfl rfl) ⟨rfl,rfl⟩
theorem fu {r:Bool}: ∀v post,((fun (u:Value) (post:List Chunk)=>u=.bool r∧post=[])) v post→ ∀c∈post,cA c:=by
 rintro _ _ ⟨rfl,rfl⟩;exact ae
def f4 (N:Nat)(a0:DCell):Option Bool:=
 (qo N a0.Kind).bind fun y4=>(bif y4 then (some true) else ((bif decide (a0.Kind=7) then (some (decide (0<(a0.Slots.length:Int)))) else (some false)).bind fun b6=>some b6)).bind fun b5=>bif b5 then ((bif decide (1≤(a0.Slots.length:Int)) then (some (decide ((a0.Slots.length:Int)≤1025))) else (some false)).bind fun b8=>(bif b8 then ((aM a0.Slots 0).bind fun x10=>(bif decide (x10.Kind=1) then (some true) else ((aM a0.Slots 0).bind fun x12=>some (decide (x12.Kind=7)))).bind fun b11=>some b11) else (some false)).bind fun b9=>some b9) else (bif decide (a0.Kind=7) then (some (decide (a0.Shape=0))) else ((bif !decide (a0.Shape=0) then (some true) else (some (!decide (a0.Flags=0)))).bind fun b14=>bif b14 then (some false) else (bif decide (a0.Kind=5) then ((bif decide ((a0.Slots.length:Int)=2) then ((aM a0.Slots 0).bind fun x18=>(fe N x18 7).bind fun y19=>some y19) else (some false)).bind fun b17=>(bif b17 then ((aM a0.Slots 1).bind fun x21=>(fe N x21 7).bind fun y22=>some y22) else (some false)).bind fun b20=>some b20) else (some (decide ((a0.Slots.length:Int)=0))))))
theorem ub {N:Nat}{a0:DCell}{r:Bool}(h:f4 N a0=some r):Okc Tryz.prog 170 [.agg #[iV a0.Kind,iV a0.Shape,iV a0.Flags,iV a0.Age,.slice A1 n1 c1,.slice A2 n2 c2]] ([aH A1 n1 c1 a0.Slots,aH A2 n2 c2 a0.More]) (fun u post=>u=.bool r∧post=[]):=by
 refine bI Tryz.func170 rfl rfl ?_;simp only [aW];refine run ?_;refine gD (bD rfl rfl) ?_;rintro _ _ ⟨B3,rfl,rfl⟩;refine run ?_;refine aB ?_;refine run ?_;obtain ⟨y4,hy4,h⟩:=aa h;refine gD (ai (Dn hy4) JB rfl (ae) zZ) ?_;rintro _ _ ⟨_,⟨rfl,rfl⟩,rfl⟩;refine run ?_;obtain ⟨b5,hb5,h⟩:=aa h;refine bc 10 16 b5 ?_ ?_
 ·clear h;refine ba 6 rfl (fun g5=> ?_) (fun g5=> ?_)
  ·have h:=aj g5 hb5;refine run ?_;obtain rfl:=av h;exact am sA (ab [0,1,2] 3 rfl rfl)
  have h:=ak g5 hb5;refine run ?_;obtain ⟨b6,hb6,h⟩:=aa h;refine bc 5 15 b6 ?_ ?_
  ·clear h;refine ba 10 rfl (fun g6=> ?_) (fun g6=> ?_)
   ·have h:=aj g6 hb6;refine run ?_;refine cL (aT 1 rfl au rfl Tryz.underlying38) rfl (cm g6 rfl) rfl ?_;refine run ?_;obtain rfl:=av h;exact am sA (ab [0,1,2] 3 rfl rfl)
   have h:=ak g6 hb6;refine run ?_;obtain rfl:=av h;exact am sA (ab [0,1,2] 3 rfl rfl)
  refine run ?_;obtain rfl:=av h;exact am sA (ab [0,1,2] 3 rfl rfl)
 refine run ?_;refine ay rfl (fun g7=> ?_) (fun g7=> ?_)
 ·replace h:=aj g7 h;refine run ?_;refine gR (aT 1 rfl au rfl Tryz.underlying38) ?_;refine run ?_;obtain ⟨b8,hb8,h⟩:=aa h;refine bc 5 26 b8 ?_ ?_
  ·clear h;refine ba 21 rfl (fun g8=> ?_) (fun g8=> ?_)
   ·have h:=aj g8 hb8;refine run ?_;refine cL (aT 1 rfl au rfl Tryz.underlying38) rfl (cm g8 rfl) rfl ?_;refine run ?_;obtain rfl:=av h;exact am sA (ab [0,1,2] 3 rfl rfl)
   have h:=ak g8 hb8;refine run ?_;obtain rfl:=av h;exact am sA (ab [0,1,2] 3 rfl rfl)
  refine run ?_;obtain ⟨b9,hb9,h⟩:=aa h;refine bc 15 42 b9 ?_ ?_
  ·clear h;refine ba 27 rfl (fun g9=> ?_) (fun g9=> ?_)
   ·have h:=aj g9 hb9;refine run ?_;obtain ⟨x10,hx10,h⟩:=aa h;obtain ⟨lx10,ux10,hx10⟩:=aC hx10;refine cL (bd 1 rfl au rfl rfl Tryz.underlying38 bp lx10 ux10) rfl (cm g9 rfl) rfl ?_;refine cL (yD 1 rfl au rfl (ck lx10 ux10) lJ) rfl (cm g9 rfl) rfl ?_;refine cL (bW (u:=iV x10.Kind) 1 rfl au rfl hx10 eU (fun _ _ _ h=>by rw [show _=_ from h];rfl)) rfl (cm g9 rfl) rfl ?_;refine run ?_;obtain ⟨b11,hb11,h⟩:=aa h;refine bc 7 41 b11 ?_ ?_
    ·clear h;refine ba 34 rfl (fun g11=> ?_) (fun g11=> ?_)
     ·have h:=aj g11 hb11;refine run ?_;obtain rfl:=av h;exact am sA (ab [0,1,2] 3 rfl rfl)
     have h:=ak g11 hb11;refine run ?_;obtain ⟨x12,hx12,h⟩:=aa h;obtain ⟨lx12,ux12,hx12⟩:=aC hx12;refine cL (bd 1 rfl au rfl rfl Tryz.underlying38 bp lx12 ux12) rfl (dJ g11 rfl) rfl ?_;refine cL (yD 1 rfl au rfl (ck lx12 ux12) lJ) rfl (dJ g11 rfl) rfl ?_;refine cL (bW (u:=iV x12.Kind) 1 rfl au rfl hx12 eU (fun _ _ _ h=>by rw [show _=_ from h];rfl)) rfl (dJ g11 rfl) rfl ?_;refine run ?_;obtain rfl:=av h;exact am sA (ab [0,1,2] 3 rfl rfl)
    refine run ?_;obtain rfl:=av h;exact am sA (ab [0,1,2] 3 rfl rfl)
   have h:=ak g9 hb9;refine run ?_;obtain rfl:=av h;exact am sA (ab [0,1,2] 3 rfl rfl)
  refine run ?_;obtain rfl:=av h;exact aO rfl rfl (ab [] 3 rfl rfl) ⟨rfl,rfl⟩
 replace h:=ak g7 h;refine run ?_;refine aB ?_;refine run ?_;refine ay rfl (fun g13=> ?_) (fun g13=> ?_)
 ·replace h:=aj g13 h;refine run ?_;obtain rfl:=av h;exact aO rfl rfl (ab [] 3 rfl rfl) ⟨rfl,rfl⟩
 replace h:=ak g13 h;refine run ?_;refine aB ?_;refine run ?_;obtain ⟨b14,hb14,h⟩:=aa h;refine bc 4 56 b14 ?_ ?_
 ·clear h;refine ba 52 rfl (fun g14=> ?_) (fun g14=> ?_)
  ·have h:=aj g14 hb14;refine run ?_;obtain rfl:=av h;exact am sA (ab [0,1,2] 3 rfl rfl)
  have h:=ak g14 hb14;refine run ?_;obtain rfl:=av h;exact am sA (ab [0,1,2] 3 rfl rfl)
 refine run ?_;refine ay rfl (fun g15=> ?_) (fun g15=> ?_)
 ·replace h:=aj g15 h;refine run ?_;obtain rfl:=av h;exact aO rfl rfl (ab [] 3 rfl rfl) ⟨rfl,rfl⟩
 replace h:=ak g15 h;refine run ?_;refine aB ?_;refine run ?_;refine ay rfl (fun g16=> ?_) (fun g16=> ?_)
 ·replace h:=aj g16 h;refine run ?_;refine gR (aT 1 rfl au rfl Tryz.underlying38) ?_;refine run ?_;obtain ⟨b17,hb17,h⟩:=aa h;refine bc 6 70 b17 ?_ ?_
  ·clear h;refine ba 64 rfl (fun g17=> ?_) (fun g17=> ?_)
   ·have h:=aj g17 hb17;refine run ?_;obtain ⟨x18,hx18,h⟩:=aa h;obtain ⟨lx18,ux18,hx18⟩:=aC hx18;refine cL (bd 1 rfl au rfl rfl Tryz.underlying38 bp lx18 ux18) rfl (cm g17 rfl) rfl ?_;refine cL (bV (us:=[iV x18.Kind,iV x18.N,.string x18.S]) 1 rfl au rfl hx18 cz (fun _ _ _ h=>by rw [show _=_ from h];rfl)) rfl (cm g17 rfl) rfl ?_;obtain ⟨y19,hy19,h⟩:=aa h;refine dg (ai (gJ hy19) sM rfl (ae) fu) rfl (cm g17 rfl) rfl ?_;rintro _ _ ⟨_,⟨rfl,rfl⟩,rfl⟩;refine run ?_;obtain rfl:=av h;exact am sA (ab [0,1,2] 3 rfl rfl)
   have h:=ak g17 hb17;refine run ?_;obtain rfl:=av h;exact am sA (ab [0,1,2] 3 rfl rfl)
  refine run ?_;obtain ⟨b20,hb20,h⟩:=aa h;refine bc 6 77 b20 ?_ ?_
  ·clear h;refine ba 71 rfl (fun g20=> ?_) (fun g20=> ?_)
   ·have h:=aj g20 hb20;refine run ?_;obtain ⟨x21,hx21,h⟩:=aa h;obtain ⟨lx21,ux21,hx21⟩:=aC hx21;refine cL (bd 1 rfl au rfl rfl Tryz.underlying38 bp lx21 ux21) rfl (cm g20 rfl) rfl ?_;refine cL (bV (us:=[iV x21.Kind,iV x21.N,.string x21.S]) 1 rfl au rfl hx21 cz (fun _ _ _ h=>by rw [show _=_ from h];rfl)) rfl (cm g20 rfl) rfl ?_;obtain ⟨y22,hy22,h⟩:=aa h;refine dg (ai (gJ hy22) sM rfl (ae) fu) rfl (cm g20 rfl) rfl ?_;rintro _ _ ⟨_,⟨rfl,rfl⟩,rfl⟩;refine run ?_;obtain rfl:=av h;exact am sA (ab [0,1,2] 3 rfl rfl)
   have h:=ak g20 hb20;refine run ?_;obtain rfl:=av h;exact am sA (ab [0,1,2] 3 rfl rfl)
  refine run ?_;obtain rfl:=av h;exact aO rfl rfl (ab [] 3 rfl rfl) ⟨rfl,rfl⟩
 replace h:=ak g16 h;refine run ?_;refine gR (aT 1 rfl au rfl Tryz.underlying38) ?_;refine run ?_;obtain rfl:=av h;exact aO rfl rfl (ab [] 3 rfl rfl) ⟨rfl,rfl⟩
theorem sd {r:Bool}: ∀v post,((fun (u:Value) (post:List Chunk)=>u=.bool r∧post=[])) v post→ ∀c∈post,cA c:=by
 rintro _ _ ⟨rfl,rfl⟩;exact ae
def fg (N:Nat)(a0:DValue)(a1:Int)(a2:Int):Option Bool:=
 (bif decide (a0.Kind=3) then (some (decide (a1≤a0.N))) else (some false)).bind fun b2=>(bif b2 then (some (decide (a0.N≤a2))) else (some false)).bind fun b3=>some b3
theorem gK {N:Nat}{a0:DValue}{a1:Int}{a2:Int}{r:Bool}(h:fg N a0 a1 a2=some r):Okc Tryz.prog 226 [.agg #[iV a0.Kind,iV a0.N,.string a0.S],iV a1,iV a2] ([]) (fun u post=>u=.bool r∧post=[]):=by
 refine bI Tryz.func226 rfl rfl ?_;simp only [aW];refine run ?_;refine gD (bD rfl rfl) ?_;rintro _ _ ⟨B1,rfl,rfl⟩;refine run ?_;obtain ⟨b2,hb2,h⟩:=aa h;refine bc 5 15 b2 ?_ ?_
 ·clear h;refine ba 10 rfl (fun g2=> ?_) (fun g2=> ?_)
  ·have h:=aj g2 hb2;refine run ?_;obtain rfl:=av h;exact am sA (ab [0] 1 rfl rfl)
  have h:=ak g2 hb2;refine run ?_;obtain rfl:=av h;exact am sA (ab [0] 1 rfl rfl)
 refine run ?_;obtain ⟨b3,hb3,h⟩:=aa h;refine bc 5 21 b3 ?_ ?_
 ·clear h;refine ba 16 rfl (fun g3=> ?_) (fun g3=> ?_)
  ·have h:=aj g3 hb3;refine run ?_;obtain rfl:=av h;exact am sA (ab [0] 1 rfl rfl)
  have h:=ak g3 hb3;refine run ?_;obtain rfl:=av h;exact am sA (ab [0] 1 rfl rfl)
 refine run ?_;obtain rfl:=av h;exact aO rfl rfl (ab [] 1 rfl rfl) ⟨rfl,rfl⟩
theorem fv {r:Bool}: ∀v post,((fun (u:Value) (post:List Chunk)=>u=.bool r∧post=[])) v post→ ∀c∈post,cA c:=by
 rintro _ _ ⟨rfl,rfl⟩;exact ae
def slices_Chunk_l4 (N:Nat){σ:Type}(fy:(List DValue)→σ→Option (Bool×σ))(a1:(List DValue))(a2:Int):Nat→Int→σ→Option σ
 |0,_,_=>none
 |m4+1,p5,p6=>bif decide (p5<(a1.length:Int)) then (bA ((0:Int)≤p5∧p5.toNat≤a1.length∧a1.length≤a1.length) (bA (in64 (p5+(min a2 (((a1.drop p5.toNat).take (a1.length - p5.toNat)).length:Int)))) (bA (in64 (p5+(min a2 (((a1.drop p5.toNat).take (a1.length - p5.toNat)).length:Int)))) (bA ((0:Int)≤p5∧(0:Int)≤p5+(min a2 (((a1.drop p5.toNat).take (a1.length - p5.toNat)).length:Int))∧p5.toNat≤(p5+(min a2 (((a1.drop p5.toNat).take (a1.length - p5.toNat)).length:Int))).toNat∧(p5+(min a2 (((a1.drop p5.toNat).take (a1.length - p5.toNat)).length:Int))).toNat≤a1.length) ((fy ((a1.drop p5.toNat).take ((p5+(min a2 (((a1.drop p5.toNat).take (a1.length - p5.toNat)).length:Int))).toNat - p5.toNat)) p6).bind fun y14=>bif !y14.1 then (some y14.2) else (bA (in64 (p5+a2)) ((slices_Chunk_l4 N fy a1 a2 m4) (p5+a2) y14.2))))))) else (some p6)
def nn (N:Nat){σ:Type}(a1:(List DValue))(a2:Int)(fy:(List DValue)→σ→Option (Bool×σ))(s0:σ):Option σ:=
 slices_Chunk_l4 N fy a1 a2 N 0 s0
theorem xq {N:Nat}{σ:Type}{a1:(List DValue)}{a2:Int}{fy:(List DValue)→σ→Option (Bool×σ)}{s0:σ}{r:σ}(h:nn N a1 a2 fy s0=some r){l:Nat}{G:σ→List Chunk}(hY:pQ Tryz.prog l G (fun (x:(List DValue)) vs cs=> ∃A0 n0 c0,vs=[.slice A0 n0 c0]∧cs=[aH A0 n0 c0 x]) fy):Okc Tryz.prog 265 [.func (.yield l) #[] #[],pV B1 0,pV B3 0] (aG B1 38 [.slice A2 n2 c2]::aH A2 n2 c2 a1::aG B3 3 [iV a2]::(G s0)) (fun u post=>u=.tuple #[]∧post=G r):=by
 refine bI Tryz.func265 rfl rfl ?_;simp only [aW];refine run ?_;refine bJ (fun m s L=> ∃p5 p6,slices_Chunk_l4 N fy a1 a2 m p5 p6=some r∧s=[(0,.func (.yield l) #[] #[]),(1,pV B1 0),(2,pV B3 0),(4,iV p5)]∧L=aH A2 n2 c2 a1::aG B1 38 [.slice A2 n2 c2]::aG B3 3 [iV a2]::(G p6)) N _ _ ⟨0,s0,h,rfl,rfl⟩ sA (ab [1,0,2] 3 rfl rfl) ?_;rintro (_|m4) _ _ ⟨p5,p6,h,rfl,rfl⟩
 ·exact aL h
 rw [slices_Chunk_l4.eq_2] at h;refine aB ?_;refine run ?_;refine gR (bz 1 rfl rfl dz rfl) ?_;refine gR (aT 0 rfl au rfl Tryz.underlying38) ?_;refine run ?_;refine ay rfl (fun g7=> ?_) (fun g7=> ?_)
 ·replace h:=aj g7 h;refine run ?_;refine aB ?_;refine iu ?_;refine aB ?_;refine co (by kernel_rfl) _ (ad _) ?_;refine bm 0 rfl (by kernel_rfl) (bz 2 rfl rfl eU rfl) rfl rfl ?_;refine bm 1 rfl (by kernel_rfl) (bz 1 rfl rfl dz rfl) rfl rfl ?_;refine ah 2 rfl (by kernel_rfl) (aA rfl) rfl rfl ?_;obtain ⟨q8,h⟩:=aq h;refine ug 0 rfl (l:=p5.toNat) (h:=a1.length) q8.2.1 q8.2.2 ?_;rintro A9 n9 c9 e9;refine bm 3 rfl (by kernel_rfl) (uH 1 rfl e9 rfl Tryz.underlying38 bp rfl (by rw [Int.toNat_of_nonneg q8.1];rfl) q8.2.1) rfl rfl ?_;refine bm 4 rfl (by kernel_rfl) (aT 0 rfl au rfl Tryz.underlying38) rfl rfl ?_;refine ah 5 rfl (by kernel_rfl) (KL rfl rfl Tryz.underlying3 Tryz.underlying3) rfl rfl ?_;refine ah 6 rfl (by kernel_rfl) (aJ rfl) rfl rfl ?_;refine bC (by kernel_rfl) ?_;refine run ?_;refine gR (bz 2 rfl rfl dz rfl) ?_;refine run ?_;obtain ⟨q10,h⟩:=aq h;refine gE (be rfl rfl q10.1 q10.2) ?_;refine run ?_;obtain ⟨q11,h⟩:=aq h;refine gE (be rfl rfl q11.1 q11.2) ?_;obtain ⟨q12,h⟩:=aq h;refine ID 1 rfl (l:=p5.toNat) (h:=(p5+(min a2 (((a1.drop p5.toNat).take (a1.length - p5.toNat)).length:Int))).toNat) q12.2.2.1 q12.2.2.2 ?_;rintro A13 n13 c13 e13;refine gR (EQ 2 rfl e13 rfl Tryz.underlying38 bp rfl (by rw [Int.toNat_of_nonneg q12.1];rfl) (by rw [Int.toNat_of_nonneg q12.2.1];rfl) (by rw [Int.toNat_of_nonneg q12.2.1];rfl) q12.2.2.1 q12.2.2.2) ?_;obtain ⟨y14,hy14,h⟩:=aa h
  refine gD (Ax (a:=(a1.drop p5.toNat).take ((p5+(min a2 (((a1.drop p5.toNat).take (a1.length - p5.toNat)).length:Int))).toNat - p5.toNat)) [aH A13 n13 c13 ((a1.drop p5.toNat).take ((p5+(min a2 (((a1.drop p5.toNat).take (a1.length - p5.toNat)).length:Int))).toNat - p5.toNat)),aH A9 n9 c9 ((a1.drop p5.toNat).take (a1.length - p5.toNat)),aH A2 n2 c2 a1,aG B1 38 [.slice A2 n2 c2],aG B3 3 [iV a2]] hY hy14 rfl rfl ⟨_,_,_,rfl,rfl⟩ (Eh 0 rfl rfl)) ?_;rintro _ _ ⟨rfl,rfl⟩;refine run ?_;refine ay rfl (fun g15=> ?_) (fun g15=> ?_)
  ·replace h:=aj g15 h;refine run ?_;obtain rfl:=av h;exact AR rfl (ab [] 5 rfl rfl) ⟨rfl,rfl⟩
  replace h:=ak g15 h;refine run ?_;refine gR (bz 4 rfl rfl eU rfl) ?_;obtain ⟨q16,h⟩:=aq h;refine gE (be rfl rfl q16.1 q16.2) ?_;refine run ?_;exact ⟨m4,_,_,Nat.lt_succ_self _,⟨p5+a2,y14.2,h,rfl,rfl⟩,sA,ab [2,3,4] 5 rfl rfl⟩
 replace h:=ak g7 h;refine run ?_;obtain rfl:=av h;exact jr rfl (ab [] 3 rfl rfl) ⟨rfl,rfl⟩
def ie (N:Nat)(a0:(List DValue))(a1:Int):Option Unit:=
 bif decide (a1<1) then none else (some ())
theorem sT {N:Nat}{a0:(List DValue)}{a1:Int}{r:Unit}(h:ie N a0 a1=some r):Okc Tryz.prog 255 [.slice A1 n1 c1,iV a1] ([aH A1 n1 c1 a0]) (fun u post=> ∃B900 B901,u=.func (.func 265) #[] #[pV B900 0,pV B901 0]∧post=[ac B900 38 [.slice A1 n1 c1],ac B901 3 [iV a1]]):=by
 refine bI Tryz.func255 rfl rfl ?_;simp only [aW];refine run ?_;refine gD (bD rfl rfl) ?_;rintro _ _ ⟨B2,rfl,rfl⟩;refine gD (bD rfl rfl) ?_;rintro _ _ ⟨B3,rfl,rfl⟩;refine run ?_;refine aB ?_;refine run ?_;refine ay rfl (fun g4=> ?_) (fun g4=> ?_)
 ·replace h:=aj g4 h;exact aL h
 replace h:=ak g4 h;refine run ?_;refine gE (dN rfl) ?_;refine run ?_;obtain rfl:=av h;exact aO rfl rfl (ab [1,0] 3 rfl rfl) ⟨_,_,rfl,rfl⟩
theorem qV {a1:Int}{A1:Option Addr}{n1:Nat}{c1:Nat}: ∀v post,((fun (u:Value) (post:List Chunk)=> ∃B900 B901,u=.func (.func 265) #[] #[pV B900 0,pV B901 0]∧post=[ac B900 38 [.slice A1 n1 c1],ac B901 3 [iV a1]])) v post→ ∀c∈post,cA c:=by
 rintro _ _ ⟨_,_,rfl,rfl⟩;exact mem_cons mc (mem_cons mc (ae))
def cg (N:Nat)(a1:Int)(x9:(List DValue)):(Unit)→Option (Option Exit×Unit)
 |()=>(aM x9 0).bind fun x12=>(bif !decide (x12.Kind=7) then (some true) else ((aM x9 1).bind fun x14=>some (decide (x14.Kind=8)))).bind fun b13=>bif b13 then (some (some .ret,())) else ((bif decide (a1=4) then ((aM x9 2).bind fun x17=>(fe N x17 7).bind fun y18=>(bif !y18 then (some true) else ((aM x9 3).bind fun x20=>(fg N x20 0 9007199254740992).bind fun y21=>some (!y21))).bind fun b19=>some b19) else (some false)).bind fun b16=>bif b16 then (some (some .ret,())) else (some (none,())))
def dm (N:Nat)(a0:(List DValue))(a1:Int):Option Bool:=
 bA (a1≠0) (bif !decide ((a0.length:Int).tmod a1=0) then (some false) else ((ie N a0 a1).bind fun y6=>(nn N a0 a1 (cJ (fun x st=>cg N a1 x st)) (none,())).bind fun y11=>mg y11.1 (some true) (some false) (fun _=>none)))
theorem mf {N:Nat}{a0:(List DValue)}{a1:Int}{r:Bool}(h:dm N a0 a1=some r):Okc Tryz.prog 227 [.slice A1 n1 c1,iV a1] ([aH A1 n1 c1 a0]) (fun u post=>u=.bool r∧post=[]):=by
 refine bI Tryz.func227 rfl rfl ?_;simp only [aW];refine run ?_;refine gD (bD rfl rfl) ?_;rintro _ _ ⟨B2,rfl,rfl⟩;refine gD (aQ Cn rfl) ?_;rintro _ _ ⟨B3,rfl,rfl⟩;refine run ?_;refine aB ?_;refine run ?_;refine gR (aT 2 rfl au rfl Tryz.underlying38) ?_;refine run ?_;obtain ⟨q4,h⟩:=aq h;refine gE (ph rfl rfl q4) ?_;refine run ?_;refine ay rfl (fun g5=> ?_) (fun g5=> ?_)
 ·replace h:=aj g5 h;refine run ?_;refine gO (ap (us:=[.bool false]) (cs':=[.bool false]) 0 rfl rfl rfl rfl uz rfl rfl rfl) ?_;rintro _ _ rfl;refine run ?_;obtain rfl:=av h;exact d8 (rs:=[.cell 4 4]) (vs:=[.bool false]) rfl (.cons (oy 0 rfl rfl D0) .nil) rfl (ab [] 3 rfl rfl) ⟨rfl,rfl⟩
 replace h:=ak g5 h;refine run ?_;refine aB ?_;refine run ?_;obtain ⟨y6,hy6,h⟩:=aa h;refine gD (ai (sT hy6) Jy rfl (mem_cons (ag (i:=2) rfl rfl) ae) qV) ?_;rintro _ _ ⟨_,⟨B7,B8,rfl,rfl⟩,rfl⟩;refine o3 ?_;refine fH ?_;refine gN ?_ bT (ft 0 rfl);refine gN ?_ bT (ft 1 rfl);refine qu ([aG B7 38 [.slice A1 n1 c1],aG B8 3 [iV a1],ac B3 4 [.bool false],ac B2 3 [iV a1],aH A1 n1 c1 a0]) rfl ?_;obtain ⟨y11,hy11,h⟩:=aa h;refine Bg (R:=(fun (x:(List DValue)) vs cs=> ∃A0 n0 c0,vs=[.slice A0 n0 c0]∧cs=[aH A0 n0 c0 x])) (fun x st=>cg N a1 x st) (fun (st:Unit) (mz:Unit)=> [ac B2 3 [iV a1],ac B3 4 [.bool false]]) [aG B7 38 [.slice A1 n1 c1],aH A1 n1 c1 a0,aG B8 3 [iV a1]] (()) (()) rfl rfl Jx rfl (by rintro _ _ _ ⟨_,_,_,rfl,rfl⟩;rfl) (fun l G hY=>(xq hy11 hY).mono fun _ _ hh=>hh.2) (aP [0,4,1] [] [3,2] 5 rfl) h ?_ ?_ ?_ ?_
 ·rintro l x9 _ je sr9 _ h _ _ ⟨A10,n10,c10,rfl,rfl⟩;replace h:cg N a1 x9 ()=some (je,sr9):=h;simp only [vD,List.zip_cons_cons,List.zip_nil_left,List.zip_nil_right,List.reverse_cons,List.reverse_nil,List.nil_append,List.cons_append];refine run ?_;refine aB ?_;refine run ?_;obtain ⟨x12,hx12,h⟩:=aa h;obtain ⟨lx12,ux12,hx12⟩:=aC hx12;refine gR (bd 0 rfl au rfl rfl Tryz.underlying38 bp lx12 ux12) ?_;refine gR (yD 0 rfl au rfl (ck lx12 ux12) lJ) ?_;refine gR (bW (u:=iV x12.Kind) 0 rfl au rfl hx12 eU (fun _ _ _ h=>by rw [show _=_ from h];rfl)) ?_;refine run ?_;obtain ⟨b13,hb13,h⟩:=aa h;refine bc 6 26 b13 ?_ ?_
  ·clear h;refine ba 20 rfl (fun g13=> ?_) (fun g13=> ?_)
   ·have h:=aj g13 hb13;refine run ?_;obtain rfl:=av h;exact am sA (ab [0,1,2] 3 rfl rfl)
   have h:=ak g13 hb13;refine run ?_;obtain ⟨x14,hx14,h⟩:=aa h;obtain ⟨lx14,ux14,hx14⟩:=aC hx14;refine cL (bd 0 rfl au rfl rfl Tryz.underlying38 bp lx14 ux14) rfl (dJ g13 rfl) rfl ?_;refine cL (yD 0 rfl au rfl (ck lx14 ux14) lJ) rfl (dJ g13 rfl) rfl ?_;refine cL (bW (u:=iV x14.Kind) 0 rfl au rfl hx14 eU (fun _ _ _ h=>by rw [show _=_ from h];rfl)) rfl (dJ g13 rfl) rfl ?_;refine run ?_;obtain rfl:=av h;exact am sA (ab [0,1,2] 3 rfl rfl)
  refine run ?_;refine ay rfl (fun g15=> ?_) (fun g15=> ?_)
  ·replace h:=aj g15 h;refine run ?_;refine gO (ap (us:=[.bool false]) (cs':=[.bool false]) 2 rfl rfl rfl rfl uz rfl rfl rfl) ?_;rintro _ _ rfl;refine run ?_;obtain ⟨rfl,rfl⟩:=Prod.mk.inj (Option.some.inj h);exact EA ((ab [1,2] 3 rfl rfl).trans (eF () rfl))
  replace h:=ak g15 h;refine run ?_;obtain ⟨b16,hb16,h⟩:=aa h;refine bc 13 42 b16 ?_ ?_
  ·clear h;refine ba 29 rfl (fun g16=> ?_) (fun g16=> ?_)
   ·have h:=aj g16 hb16;refine run ?_;obtain ⟨x17,hx17,h⟩:=aa h;obtain ⟨lx17,ux17,hx17⟩:=aC hx17;refine cL (bd 0 rfl au rfl rfl Tryz.underlying38 bp lx17 ux17) rfl (cm g16 rfl) rfl ?_;refine cL (bV (us:=[iV x17.Kind,iV x17.N,.string x17.S]) 0 rfl au rfl hx17 cz (fun _ _ _ h=>by rw [show _=_ from h];rfl)) rfl (cm g16 rfl) rfl ?_;obtain ⟨y18,hy18,h⟩:=aa h;refine dg (ai (gJ hy18) sM rfl (ae) fu) rfl (cm g16 rfl) rfl ?_;rintro _ _ ⟨_,⟨rfl,rfl⟩,rfl⟩;refine run ?_;obtain ⟨b19,hb19,h⟩:=aa h;refine bc 6 41 b19 ?_ ?_
    ·clear h;refine ba 35 rfl (fun g19=> ?_) (fun g19=> ?_)
     ·have h:=aj g19 hb19;refine run ?_;obtain rfl:=av h;exact am sA (ab [0,1,2] 3 rfl rfl)
     have h:=ak g19 hb19;refine run ?_;obtain ⟨x20,hx20,h⟩:=aa h;obtain ⟨lx20,ux20,hx20⟩:=aC hx20;refine cL (bd 0 rfl au rfl rfl Tryz.underlying38 bp lx20 ux20) rfl (dJ g19 rfl) rfl ?_;refine cL (bV (us:=[iV x20.Kind,iV x20.N,.string x20.S]) 0 rfl au rfl hx20 cz (fun _ _ _ h=>by rw [show _=_ from h];rfl)) rfl (dJ g19 rfl) rfl ?_;obtain ⟨y21,hy21,h⟩:=aa h;refine dg (ai (gK hy21) sL rfl (ae) fv) rfl (dJ g19 rfl) rfl ?_;rintro _ _ ⟨_,⟨rfl,rfl⟩,rfl⟩;refine run ?_;obtain rfl:=av h;exact am sA (ab [0,1,2] 3 rfl rfl)
    refine run ?_;obtain rfl:=av h;exact am sA (ab [0,1,2] 3 rfl rfl)
   have h:=ak g16 hb16;refine run ?_;obtain rfl:=av h;exact am sA (ab [0,1,2] 3 rfl rfl)
  refine run ?_;refine ay rfl (fun g22=> ?_) (fun g22=> ?_)
  ·replace h:=aj g22 h;refine run ?_;refine gO (ap (us:=[.bool false]) (cs':=[.bool false]) 2 rfl rfl rfl rfl uz rfl rfl rfl) ?_;rintro _ _ rfl;refine run ?_;obtain ⟨rfl,rfl⟩:=Prod.mk.inj (Option.some.inj h);exact EA ((ab [1,2] 3 rfl rfl).trans (eF () rfl))
  replace h:=ak g22 h;refine run ?_;obtain ⟨rfl,rfl⟩:=Prod.mk.inj (Option.some.inj h);exact xD ((ab [1,2] 3 rfl rfl).trans (eF () rfl))
 ·rintro _ h;refine lO ([ac B2 3 [iV a1],ac B3 4 [.bool false]]) rfl ?_;refine run ?_;refine gO (ap (us:=[.bool true]) (cs':=[.bool true]) 1 rfl rfl rfl rfl uz rfl rfl rfl) ?_;rintro _ _ rfl;refine bQ ([ac B2 3 [iV a1],ac B3 4 [.bool true]]) rfl ?_;refine run ?_;obtain rfl:=av h;exact d8 (rs:=[.cell 4 4]) (vs:=[.bool true]) rfl (.cons (oy 1 rfl rfl D0) .nil) rfl (ab [] 2 rfl rfl) ⟨rfl,rfl⟩
 ·rintro _ h;refine lO ([ac B2 3 [iV a1],ac B3 4 [.bool false]]) rfl ?_;refine run ?_;obtain rfl:=av h;exact d8 (rs:=[.cell 4 4]) (vs:=[.bool false]) rfl (.cons (oy 1 rfl rfl D0) .nil) rfl (ab [] 2 rfl rfl) ⟨rfl,rfl⟩
 rintro i _ h;exact aL h
theorem kU {r:Bool}: ∀v post,((fun (u:Value) (post:List Chunk)=>u=.bool r∧post=[])) v post→ ∀c∈post,cA c:=by
 rintro _ _ ⟨rfl,rfl⟩;exact ae
def i4 (N:Nat)(a0:Int)(a1:(List DValue))(p5:Bool):Option Bool:=
 bif p5 then (some (decide ((a1.length:Int)=0))) else (bif decide (a0=3) then ((bif decide ((a1.length:Int)=3) then ((aM a1 0).bind fun x10=>(fg N x10 0 9007199254740992).bind fun y11=>some y11) else (some false)).bind fun b9=>(bif b9 then ((aM a1 1).bind fun x13=>(fe N x13 9).bind fun y14=>some y14) else (some false)).bind fun b12=>some b12) else (bif decide (a0=4) then ((bif decide (1≤(a1.length:Int)) then (some (decide ((a1.length:Int)≤4097))) else (some false)).bind fun b16=>(bif b16 then ((aM a1 0).bind fun x18=>(fe N x18 9).bind fun y19=>some y19) else (some false)).bind fun b17=>some b17) else (bif decide (a0=6) then ((bif decide ((a1.length:Int)=2) then ((aM a1 0).bind fun x22=>(fg N x22 0 3).bind fun y23=>some y23) else (some false)).bind fun b21=>(bif b21 then ((aM a1 1).bind fun x25=>(fe N x25 9).bind fun y26=>some y26) else (some false)).bind fun b24=>some b24) else (bif decide (a0=7) then ((bif decide (4≤(a1.length:Int)) then ((aM a1 2).bind fun x29=>(fg N x29 0 1).bind fun y30=>some y30) else (some false)).bind fun b28=>(bif b28 then ((aM a1 3).bind fun x32=>(fg N x32 0 9007199254740992).bind fun y33=>some y33) else (some false)).bind fun b31=>some b31) else (bif decide (a0=8) then ((dm N a1 2).bind fun y35=>some y35) else (bif decide (a0=10) then ((bif decide (1≤(a1.length:Int)) then ((aM a1 0).bind fun x38=>some (decide (x38.Kind=7))) else (some false)).bind fun b37=>(bif b37 then (bA ((0:Int)≤1∧(1:Int).toNat≤a1.length∧a1.length≤a1.length) ((dm N ((a1.drop ((1:Int).toNat)).take (a1.length - (1:Int).toNat)) 4).bind fun y42=>some y42)) else (some false)).bind fun b39=>some b39) else (bif decide (a0=9) then ((bif decide (2≤(a1.length:Int)) then ((aM a1 0).bind fun x45=>(fg N x45 0 2).bind fun y46=>some y46) else (some false)).bind fun b44=>some b44) else (some true))))))))
def gL (N:Nat)(a0:Int)(a1:(List DValue)):Option Bool:=
 bif decide (1048576<(a1.length:Int)) then (some false) else (bif decide (a0=2) then (some (decide ((a1.length:Int)≤4096))) else (bif decide (a0=1) then (i4 N a0 a1 (decide (a0=1))) else (i4 N a0 a1 (decide (a0=5)))))
set_option maxHeartbeats 4000000 in
theorem vH {N:Nat}{a0:Int}{a1:(List DValue)}{r:Bool}(h:gL N a0 a1=some r):Okc Tryz.prog 171 [iV a0,.slice A1 n1 c1] ([aH A1 n1 c1 a1]) (fun u post=>u=.bool r∧post=[]):=by
 refine bI Tryz.func171 rfl rfl ?_;simp only [aW];refine run ?_;refine aB ?_;refine run ?_;refine gR (aT 0 rfl au rfl Tryz.underlying38) ?_;refine run ?_;refine ay rfl (fun g2=> ?_) (fun g2=> ?_)
 ·replace h:=aj g2 h;refine run ?_;obtain rfl:=av h;exact aO rfl rfl (ab [] 1 rfl rfl) ⟨rfl,rfl⟩
 replace h:=ak g2 h;refine run ?_;refine aB ?_;refine run ?_;refine ay rfl (fun g3=> ?_) (fun g3=> ?_)
 ·replace h:=aj g3 h;refine run ?_;refine gR (aT 0 rfl au rfl Tryz.underlying38) ?_;refine run ?_;obtain rfl:=av h;exact aO rfl rfl (ab [] 1 rfl rfl) ⟨rfl,rfl⟩
 replace h:=ak g3 h;refine aX (fun s L=> ∃p5,i4 N a0 a1 p5=some r∧s=[(1,.slice A1 n1 c1),(4,.bool false),(8,iV a0),(14,.bool p5)]∧L=[aH A1 n1 c1 a1]) ?_ ?_
 ·refine run ?_;refine ay rfl (fun g6=> ?_) (fun g6=> ?_)
  ·replace h:=aj g6 h;refine run ?_;exact ⟨_,_,⟨decide (a0=1),h,rfl,rfl⟩,sA,ab [0] 1 rfl rfl⟩
  replace h:=ak g6 h;refine run ?_;exact ⟨_,_,⟨decide (a0=5),h,rfl,rfl⟩,sA,ab [0] 1 rfl rfl⟩
 rintro _ _ ⟨p5,h,rfl,rfl⟩;refine ay rfl (fun g7=> ?_) (fun g7=> ?_)
 ·replace h:=aj g7 h;refine run ?_;refine gR (aT 0 rfl au rfl Tryz.underlying38) ?_;refine run ?_;obtain rfl:=av h;exact aO rfl rfl (ab [] 1 rfl rfl) ⟨rfl,rfl⟩
 replace h:=ak g7 h;refine run ?_;refine ay rfl (fun g8=> ?_) (fun g8=> ?_)
 ·replace h:=aj g8 h;refine run ?_;refine gR (aT 0 rfl au rfl Tryz.underlying38) ?_;refine run ?_;obtain ⟨b9,hb9,h⟩:=aa h;refine bc 5 30 b9 ?_ ?_
  ·clear h;refine ba 25 rfl (fun g9=> ?_) (fun g9=> ?_)
   ·have h:=aj g9 hb9;refine run ?_;obtain ⟨x10,hx10,h⟩:=aa h;obtain ⟨lx10,ux10,hx10⟩:=aC hx10;refine cL (bd 0 rfl au rfl rfl Tryz.underlying38 bp lx10 ux10) rfl (cm g9 rfl) rfl ?_;refine cL (bV (us:=[iV x10.Kind,iV x10.N,.string x10.S]) 0 rfl au rfl hx10 cz (fun _ _ _ h=>by rw [show _=_ from h];rfl)) rfl (cm g9 rfl) rfl ?_;obtain ⟨y11,hy11,h⟩:=aa h;refine dg (ai (gK hy11) sL rfl (ae) fv) rfl (cm g9 rfl) rfl ?_;rintro _ _ ⟨_,⟨rfl,rfl⟩,rfl⟩;refine run ?_;obtain rfl:=av h;exact am sA (ab [0] 1 rfl rfl)
   have h:=ak g9 hb9;refine run ?_;obtain rfl:=av h;exact am sA (ab [0] 1 rfl rfl)
  refine run ?_;obtain ⟨b12,hb12,h⟩:=aa h;refine bc 5 36 b12 ?_ ?_
  ·clear h;refine ba 31 rfl (fun g12=> ?_) (fun g12=> ?_)
   ·have h:=aj g12 hb12;refine run ?_;obtain ⟨x13,hx13,h⟩:=aa h;obtain ⟨lx13,ux13,hx13⟩:=aC hx13;refine cL (bd 0 rfl au rfl rfl Tryz.underlying38 bp lx13 ux13) rfl (cm g12 rfl) rfl ?_;refine cL (bV (us:=[iV x13.Kind,iV x13.N,.string x13.S]) 0 rfl au rfl hx13 cz (fun _ _ _ h=>by rw [show _=_ from h];rfl)) rfl (cm g12 rfl) rfl ?_;obtain ⟨y14,hy14,h⟩:=aa h;refine dg (ai (gJ hy14) sM rfl (ae) fu) rfl (cm g12 rfl) rfl ?_;rintro _ _ ⟨_,⟨rfl,rfl⟩,rfl⟩;refine run ?_;obtain rfl:=av h;exact am sA (ab [0] 1 rfl rfl)
   have h:=ak g12 hb12;refine run ?_;obtain rfl:=av h;exact am sA (ab [0] 1 rfl rfl)
  refine run ?_;obtain rfl:=av h;exact aO rfl rfl (ab [] 1 rfl rfl) ⟨rfl,rfl⟩
 replace h:=ak g8 h;refine run ?_;refine ay rfl (fun g15=> ?_) (fun g15=> ?_)
 ·replace h:=aj g15 h;refine run ?_;refine gR (aT 0 rfl au rfl Tryz.underlying38) ?_;refine run ?_;obtain ⟨b16,hb16,h⟩:=aa h;refine bc 4 46 b16 ?_ ?_
  ·clear h;refine ba 42 rfl (fun g16=> ?_) (fun g16=> ?_)
   ·have h:=aj g16 hb16;refine run ?_;refine cL (aT 0 rfl au rfl Tryz.underlying38) rfl (cm g16 rfl) rfl ?_;refine run ?_;obtain rfl:=av h;exact am sA (ab [0] 1 rfl rfl)
   have h:=ak g16 hb16;refine run ?_;obtain rfl:=av h;exact am sA (ab [0] 1 rfl rfl)
  refine run ?_;obtain ⟨b17,hb17,h⟩:=aa h;refine bc 5 52 b17 ?_ ?_
  ·clear h;refine ba 47 rfl (fun g17=> ?_) (fun g17=> ?_)
   ·have h:=aj g17 hb17;refine run ?_;obtain ⟨x18,hx18,h⟩:=aa h;obtain ⟨lx18,ux18,hx18⟩:=aC hx18;refine cL (bd 0 rfl au rfl rfl Tryz.underlying38 bp lx18 ux18) rfl (cm g17 rfl) rfl ?_;refine cL (bV (us:=[iV x18.Kind,iV x18.N,.string x18.S]) 0 rfl au rfl hx18 cz (fun _ _ _ h=>by rw [show _=_ from h];rfl)) rfl (cm g17 rfl) rfl ?_;obtain ⟨y19,hy19,h⟩:=aa h;refine dg (ai (gJ hy19) sM rfl (ae) fu) rfl (cm g17 rfl) rfl ?_;rintro _ _ ⟨_,⟨rfl,rfl⟩,rfl⟩;refine run ?_;obtain rfl:=av h;exact am sA (ab [0] 1 rfl rfl)
   have h:=ak g17 hb17;refine run ?_;obtain rfl:=av h;exact am sA (ab [0] 1 rfl rfl)
  refine run ?_;obtain rfl:=av h;exact aO rfl rfl (ab [] 1 rfl rfl) ⟨rfl,rfl⟩
 replace h:=ak g15 h;refine run ?_;refine ay rfl (fun g20=> ?_) (fun g20=> ?_)
 ·replace h:=aj g20 h;refine run ?_;refine gR (aT 0 rfl au rfl Tryz.underlying38) ?_;refine run ?_;obtain ⟨b21,hb21,h⟩:=aa h;refine bc 5 63 b21 ?_ ?_
  ·clear h;refine ba 58 rfl (fun g21=> ?_) (fun g21=> ?_)
   ·have h:=aj g21 hb21;refine run ?_;obtain ⟨x22,hx22,h⟩:=aa h;obtain ⟨lx22,ux22,hx22⟩:=aC hx22;refine cL (bd 0 rfl au rfl rfl Tryz.underlying38 bp lx22 ux22) rfl (cm g21 rfl) rfl ?_;refine cL (bV (us:=[iV x22.Kind,iV x22.N,.string x22.S]) 0 rfl au rfl hx22 cz (fun _ _ _ h=>by rw [show _=_ from h];rfl)) rfl (cm g21 rfl) rfl ?_;obtain ⟨y23,hy23,h⟩:=aa h;refine dg (ai (gK hy23) sL rfl (ae) fv) rfl (cm g21 rfl) rfl ?_;rintro _ _ ⟨_,⟨rfl,rfl⟩,rfl⟩;refine run ?_;obtain rfl:=av h;exact am sA (ab [0] 1 rfl rfl)
   have h:=ak g21 hb21;refine run ?_;obtain rfl:=av h;exact am sA (ab [0] 1 rfl rfl)
  refine run ?_;obtain ⟨b24,hb24,h⟩:=aa h;refine bc 5 69 b24 ?_ ?_
  ·clear h;refine ba 64 rfl (fun g24=> ?_) (fun g24=> ?_)
   ·have h:=aj g24 hb24;refine run ?_;obtain ⟨x25,hx25,h⟩:=aa h;obtain ⟨lx25,ux25,hx25⟩:=aC hx25;refine cL (bd 0 rfl au rfl rfl Tryz.underlying38 bp lx25 ux25) rfl (cm g24 rfl) rfl ?_;refine cL (bV (us:=[iV x25.Kind,iV x25.N,.string x25.S]) 0 rfl au rfl hx25 cz (fun _ _ _ h=>by rw [show _=_ from h];rfl)) rfl (cm g24 rfl) rfl ?_;obtain ⟨y26,hy26,h⟩:=aa h;refine dg (ai (gJ hy26) sM rfl (ae) fu) rfl (cm g24 rfl) rfl ?_;rintro _ _ ⟨_,⟨rfl,rfl⟩,rfl⟩;refine run ?_;obtain rfl:=av h;exact am sA (ab [0] 1 rfl rfl)
   have h:=ak g24 hb24;refine run ?_;obtain rfl:=av h;exact am sA (ab [0] 1 rfl rfl)
  refine run ?_;obtain rfl:=av h;exact aO rfl rfl (ab [] 1 rfl rfl) ⟨rfl,rfl⟩
 replace h:=ak g20 h;refine run ?_;refine ay rfl (fun g27=> ?_) (fun g27=> ?_)
 ·replace h:=aj g27 h;refine run ?_;refine gR (aT 0 rfl au rfl Tryz.underlying38) ?_;refine run ?_;obtain ⟨b28,hb28,h⟩:=aa h;refine bc 5 80 b28 ?_ ?_
  ·clear h;refine ba 75 rfl (fun g28=> ?_) (fun g28=> ?_)
   ·have h:=aj g28 hb28;refine run ?_;obtain ⟨x29,hx29,h⟩:=aa h;obtain ⟨lx29,ux29,hx29⟩:=aC hx29;refine cL (bd 0 rfl au rfl rfl Tryz.underlying38 bp lx29 ux29) rfl (cm g28 rfl) rfl ?_;refine cL (bV (us:=[iV x29.Kind,iV x29.N,.string x29.S]) 0 rfl au rfl hx29 cz (fun _ _ _ h=>by rw [show _=_ from h];rfl)) rfl (cm g28 rfl) rfl ?_;obtain ⟨y30,hy30,h⟩:=aa h;refine dg (ai (gK hy30) sL rfl (ae) fv) rfl (cm g28 rfl) rfl ?_;rintro _ _ ⟨_,⟨rfl,rfl⟩,rfl⟩;refine run ?_;obtain rfl:=av h;exact am sA (ab [0] 1 rfl rfl)
   have h:=ak g28 hb28;refine run ?_;obtain rfl:=av h;exact am sA (ab [0] 1 rfl rfl)
  refine run ?_;obtain ⟨b31,hb31,h⟩:=aa h;refine bc 5 86 b31 ?_ ?_
  ·clear h;refine ba 81 rfl (fun g31=> ?_) (fun g31=> ?_)
   ·have h:=aj g31 hb31;refine run ?_;obtain ⟨x32,hx32,h⟩:=aa h;obtain ⟨lx32,ux32,hx32⟩:=aC hx32;refine cL (bd 0 rfl au rfl rfl Tryz.underlying38 bp lx32 ux32) rfl (cm g31 rfl) rfl ?_;refine cL (bV (us:=[iV x32.Kind,iV x32.N,.string x32.S]) 0 rfl au rfl hx32 cz (fun _ _ _ h=>by rw [show _=_ from h];rfl)) rfl (cm g31 rfl) rfl ?_;obtain ⟨y33,hy33,h⟩:=aa h;refine dg (ai (gK hy33) sL rfl (ae) fv) rfl (cm g31 rfl) rfl ?_;rintro _ _ ⟨_,⟨rfl,rfl⟩,rfl⟩;refine run ?_;obtain rfl:=av h;exact am sA (ab [0] 1 rfl rfl)
   have h:=ak g31 hb31;refine run ?_;obtain rfl:=av h;exact am sA (ab [0] 1 rfl rfl)
  refine run ?_;obtain rfl:=av h;exact aO rfl rfl (ab [] 1 rfl rfl) ⟨rfl,rfl⟩
 replace h:=ak g27 h;refine run ?_;refine ay rfl (fun g34=> ?_) (fun g34=> ?_)
 ·replace h:=aj g34 h;refine run ?_;obtain ⟨y35,hy35,h⟩:=aa h;refine gD (ai (mf hy35) Fh rfl (mem_cons (ag (i:=0) rfl rfl) ae) kU) ?_;rintro _ _ ⟨_,⟨rfl,rfl⟩,rfl⟩;refine run ?_;obtain rfl:=av h;exact aO rfl rfl (ab [] 1 rfl rfl) ⟨rfl,rfl⟩
 replace h:=ak g34 h;refine run ?_;refine ay rfl (fun g36=> ?_) (fun g36=> ?_)
 ·replace h:=aj g36 h;refine run ?_;refine gR (aT 0 rfl au rfl Tryz.underlying38) ?_;refine run ?_;obtain ⟨b37,hb37,h⟩:=aa h;refine bc 6 102 b37 ?_ ?_
  ·clear h;refine ba 96 rfl (fun g37=> ?_) (fun g37=> ?_)
   ·have h:=aj g37 hb37;refine run ?_;obtain ⟨x38,hx38,h⟩:=aa h;obtain ⟨lx38,ux38,hx38⟩:=aC hx38;refine cL (bd 0 rfl au rfl rfl Tryz.underlying38 bp lx38 ux38) rfl (cm g37 rfl) rfl ?_;refine cL (yD 0 rfl au rfl (ck lx38 ux38) lJ) rfl (cm g37 rfl) rfl ?_;refine cL (bW (u:=iV x38.Kind) 0 rfl au rfl hx38 eU (fun _ _ _ h=>by rw [show _=_ from h];rfl)) rfl (cm g37 rfl) rfl ?_;refine run ?_;obtain rfl:=av h;exact am sA (ab [0] 1 rfl rfl)
   have h:=ak g37 hb37;refine run ?_;obtain rfl:=av h;exact am sA (ab [0] 1 rfl rfl)
  refine run ?_;obtain ⟨b39,hb39,h⟩:=aa h;refine bc 4 107 b39 ?_ ?_
  ·clear h;refine ba 103 rfl (fun g39=> ?_) (fun g39=> ?_)
   ·have h:=aj g39 hb39;refine run ?_;obtain ⟨q40,h⟩:=aq h;refine LM 0 rfl (l:=(1:Int).toNat) (h:=a1.length) q40.2.1 q40.2.2 ?_;rintro A41 n41 c41 e41;refine cL (uH 1 rfl e41 rfl Tryz.underlying38 bp rfl (by rw [Int.toNat_of_nonneg q40.1];rfl) q40.2.1) rfl (cm g39 rfl) rfl ?_;obtain ⟨y42,hy42,h⟩:=aa h;refine dg (ai (mf hy42) Fh rfl (mem_cons (ag (i:=0) rfl rfl) ae) kU) rfl (cm g39 rfl) rfl ?_;rintro _ _ ⟨_,⟨rfl,rfl⟩,rfl⟩;refine run ?_;obtain rfl:=av h;exact am sA (ab [1] 2 rfl rfl)
   have h:=ak g39 hb39;refine run ?_;obtain rfl:=av h;exact am sA (ab [0] 1 rfl rfl)
  refine run ?_;obtain rfl:=av h;exact aO rfl rfl (ab [] 1 rfl rfl) ⟨rfl,rfl⟩
 replace h:=ak g36 h;refine run ?_;refine ay rfl (fun g43=> ?_) (fun g43=> ?_)
 ·replace h:=aj g43 h;refine run ?_;refine gR (aT 0 rfl au rfl Tryz.underlying38) ?_;refine run ?_;obtain ⟨b44,hb44,h⟩:=aa h;refine bc 5 118 b44 ?_ ?_
  ·clear h;refine ba 113 rfl (fun g44=> ?_) (fun g44=> ?_)
   ·have h:=aj g44 hb44;refine run ?_;obtain ⟨x45,hx45,h⟩:=aa h;obtain ⟨lx45,ux45,hx45⟩:=aC hx45;refine cL (bd 0 rfl au rfl rfl Tryz.underlying38 bp lx45 ux45) rfl (cm g44 rfl) rfl ?_;refine cL (bV (us:=[iV x45.Kind,iV x45.N,.string x45.S]) 0 rfl au rfl hx45 cz (fun _ _ _ h=>by rw [show _=_ from h];rfl)) rfl (cm g44 rfl) rfl ?_;obtain ⟨y46,hy46,h⟩:=aa h;refine dg (ai (gK hy46) sL rfl (ae) fv) rfl (cm g44 rfl) rfl ?_;rintro _ _ ⟨_,⟨rfl,rfl⟩,rfl⟩;refine run ?_;obtain rfl:=av h;exact am sA (ab [0] 1 rfl rfl)
   have h:=ak g44 hb44;refine run ?_;obtain rfl:=av h;exact am sA (ab [0] 1 rfl rfl)
  refine run ?_;obtain rfl:=av h;exact aO rfl rfl (ab [] 1 rfl rfl) ⟨rfl,rfl⟩
 replace h:=ak g43 h;refine run ?_;obtain rfl:=av h;exact aO rfl rfl (ab [] 1 rfl rfl) ⟨rfl,rfl⟩
theorem sZ {r:Bool}: ∀v post,((fun (u:Value) (post:List Chunk)=>u=.bool r∧post=[])) v post→ ∀c∈post,cA c:=by
 rintro _ _ ⟨rfl,rfl⟩;exact ae
def eG (N:Nat)(a0:DCell)(x14:Bool×DValue):(Unit)→Option (Option Exit×Unit)
 |()=>(qn N x14.2).bind fun y17=>bif !y17 then (some (some .ret,())) else (some (none,()))
def di (N:Nat)(a0:DCell):Option Bool:=
 (bif decide (a0.Kind<1) then (some true) else (some (decide (11<a0.Kind)))).bind fun b5=>(bif b5 then (some true) else (some (decide (a0.Shape<0)))).bind fun b6=>(bif b6 then (some true) else (some (decide (a0.Flags<0)))).bind fun b7=>(bif b7 then (some true) else (some (decide (63<a0.Flags)))).bind fun b8=>(bif b8 then (some true) else ((bif !decide (a0.Age=0) then (some (!decide (a0.Age=1))) else (some false)).bind fun b10=>some b10)).bind fun b9=>bif b9 then (some false) else ((nX N a0).bind fun y12=>(jZ N a0 (cJ (fun x st=>eG N a0 x st)) (none,())).bind fun y15=>mg y15.1 ((f4 N a0).bind fun y19=>(bif y19 then ((gL N a0.Kind a0.More).bind fun y21=>some y21) else (some false)).bind fun b20=>some b20) (some false) (fun _=>none))
theorem iJ {N:Nat}{a0:DCell}{r:Bool}(h:di N a0=some r):Okc Tryz.prog 94 [.agg #[iV a0.Kind,iV a0.Shape,iV a0.Flags,iV a0.Age,.slice A1 n1 c1,.slice A2 n2 c2]] ([aH A1 n1 c1 a0.Slots,aH A2 n2 c2 a0.More]) (fun u post=>u=.bool r∧post=[]):=by
 refine bI Tryz.func94 rfl rfl ?_;simp only [aW];refine run ?_;refine gD (bD rfl rfl) ?_;rintro _ _ ⟨B3,rfl,rfl⟩;refine gD (aQ Cn rfl) ?_;rintro _ _ ⟨B4,rfl,rfl⟩;refine run ?_;refine aB ?_;refine run ?_;obtain ⟨b5,hb5,h⟩:=aa h;refine bc 4 12 b5 ?_ ?_
 ·clear h;refine ba 8 rfl (fun g5=> ?_) (fun g5=> ?_)
  ·have h:=aj g5 hb5;refine run ?_;obtain rfl:=av h;exact am sA (ab [0,1,2,3] 4 rfl rfl)
  have h:=ak g5 hb5;refine run ?_;obtain rfl:=av h;exact am sA (ab [0,1,2,3] 4 rfl rfl)
 refine run ?_;obtain ⟨b6,hb6,h⟩:=aa h;refine bc 4 17 b6 ?_ ?_
 ·clear h;refine ba 13 rfl (fun g6=> ?_) (fun g6=> ?_)
  ·have h:=aj g6 hb6;refine run ?_;obtain rfl:=av h;exact am sA (ab [0,1,2,3] 4 rfl rfl)
  have h:=ak g6 hb6;refine run ?_;obtain rfl:=av h;exact am sA (ab [0,1,2,3] 4 rfl rfl)
 refine run ?_;obtain ⟨b7,hb7,h⟩:=aa h;refine bc 4 22 b7 ?_ ?_
 ·clear h;refine ba 18 rfl (fun g7=> ?_) (fun g7=> ?_)
  ·have h:=aj g7 hb7;refine run ?_;obtain rfl:=av h;exact am sA (ab [0,1,2,3] 4 rfl rfl)
  have h:=ak g7 hb7;refine run ?_;obtain rfl:=av h;exact am sA (ab [0,1,2,3] 4 rfl rfl)
 refine run ?_;obtain ⟨b8,hb8,h⟩:=aa h;refine bc 4 27 b8 ?_ ?_
 ·clear h;refine ba 23 rfl (fun g8=> ?_) (fun g8=> ?_)
  ·have h:=aj g8 hb8;refine run ?_;obtain rfl:=av h;exact am sA (ab [0,1,2,3] 4 rfl rfl)
  have h:=ak g8 hb8;refine run ?_;obtain rfl:=av h;exact am sA (ab [0,1,2,3] 4 rfl rfl)
 refine run ?_;obtain ⟨b9,hb9,h⟩:=aa h;refine bc 9 37 b9 ?_ ?_
 ·clear h;refine ba 28 rfl (fun g9=> ?_) (fun g9=> ?_)
  ·have h:=aj g9 hb9;refine run ?_;obtain rfl:=av h;exact am sA (ab [0,1,2,3] 4 rfl rfl)
  have h:=ak g9 hb9;refine run ?_;obtain ⟨b10,hb10,h⟩:=aa h;refine bc 4 36 b10 ?_ ?_
  ·clear h;refine ba 32 rfl (fun g10=> ?_) (fun g10=> ?_)
   ·have h:=aj g10 hb10;refine run ?_;obtain rfl:=av h;exact am sA (ab [0,1,2,3] 4 rfl rfl)
   have h:=ak g10 hb10;refine run ?_;obtain rfl:=av h;exact am sA (ab [0,1,2,3] 4 rfl rfl)
  refine run ?_;obtain rfl:=av h;exact am sA (ab [0,1,2,3] 4 rfl rfl)
 refine run ?_;refine ay rfl (fun g11=> ?_) (fun g11=> ?_)
 ·replace h:=aj g11 h;refine run ?_;refine gO (ap (us:=[.bool false]) (cs':=[.bool false]) 0 rfl rfl rfl rfl uz rfl rfl rfl) ?_;rintro _ _ rfl;refine run ?_;obtain rfl:=av h;exact d8 (rs:=[.cell 2 4]) (vs:=[.bool false]) rfl (.cons (oy 0 rfl rfl D0) .nil) rfl (ab [] 4 rfl rfl) ⟨rfl,rfl⟩
 replace h:=ak g11 h;refine run ?_;refine aB ?_;refine run ?_;refine gR (aI (us:=[iV a0.Kind,iV a0.Shape,iV a0.Flags,iV a0.Age,.slice A1 n1 c1,.slice A2 n2 c2]) 1 rfl rfl bx rfl) ?_;obtain ⟨y12,hy12,h⟩:=aa h;refine gD (ai (xl hy12) Fu rfl (mem_cons (ag (i:=2) rfl rfl) (mem_cons (ag (i:=3) rfl rfl) ae)) tA) ?_;rintro _ _ ⟨_,⟨B13,rfl,rfl⟩,rfl⟩;refine o3 ?_;refine fH ?_;refine gN ?_ bT (ft 0 rfl);obtain ⟨y15,hy15,h⟩:=aa h;refine pR (en:=(fun x=> [.bool x.1,.agg #[iV x.2.Kind,iV x.2.N,.string x.2.S]])) (fun x st=>eG N a0 x st) (fun (st:Unit) (mz:Unit)=> [aH A1 n1 c1 a0.Slots,aH A2 n2 c2 a0.More,ac B3 47 [iV a0.Kind,iV a0.Shape,iV a0.Flags,iV a0.Age,.slice A1 n1 c1,.slice A2 n2 c2],ac B4 4 [.bool false]]) [aG B13 47 [iV a0.Kind,iV a0.Shape,iV a0.Flags,iV a0.Age,.slice A1 n1 c1,.slice A2 n2 c2],aH A1 n1 c1 a0.Slots,aH A2 n2 c2 a0.More] (()) (()) rfl rfl Fi rfl (fun _=>rfl) (fun l G hY=>(se hy15 hY).mono fun _ _ hh=>hh.2) (aP [0,3,4] [] [3,4,2,1] 5 rfl) h ?_ ?_ ?_ ?_
 ·rintro l x14 _ je sr14 _ h;replace h:eG N a0 x14 ()=some (je,sr14):=h;simp only [vD,List.zip_cons_cons,List.zip_nil_left,List.zip_nil_right,List.reverse_cons,List.reverse_nil,List.nil_append,List.cons_append];refine cO ?_;refine gD (aQ i6 rfl) ?_;rintro _ _ ⟨B16,rfl,rfl⟩;refine gO (ap (us:=[iV x14.2.Kind,iV x14.2.N,.string x14.2.S]) (cs':=[iV x14.2.Kind,iV x14.2.N,.string x14.2.S]) 0 rfl rfl rfl rfl bp rfl rfl rfl) ?_;rintro _ _ rfl;refine bQ ([ac B16 52 [iV x14.2.Kind,iV x14.2.N,.string x14.2.S],aH A1 n1 c1 a0.Slots,aH A2 n2 c2 a0.More,ac B3 47 [iV a0.Kind,iV a0.Shape,iV a0.Flags,iV a0.Age,.slice A1 n1 c1,.slice A2 n2 c2],ac B4 4 [.bool false]]) rfl ?_;refine run ?_;refine gR (aI (us:=[iV x14.2.Kind,iV x14.2.N,.string x14.2.S]) 0 rfl rfl cz rfl) ?_;obtain ⟨y17,hy17,h⟩:=aa h;refine gD (ai (Dm hy17) JS rfl (ae) zY) ?_;rintro _ _ ⟨_,⟨rfl,rfl⟩,rfl⟩;refine run ?_;refine ay rfl (fun g18=> ?_) (fun g18=> ?_)
  ·replace h:=aj g18 h;refine run ?_;refine gO (ap (us:=[.bool false]) (cs':=[.bool false]) 4 rfl rfl rfl rfl uz rfl rfl rfl) ?_;rintro _ _ rfl;refine run ?_;obtain ⟨rfl,rfl⟩:=Prod.mk.inj (Option.some.inj h);exact EA ((ab [1,2,3,4] 5 rfl rfl).trans (eF () rfl))
  replace h:=ak g18 h;refine run ?_;obtain ⟨rfl,rfl⟩:=Prod.mk.inj (Option.some.inj h);exact xD ((ab [1,2,3,4] 5 rfl rfl).trans (eF () rfl))
 ·rintro _ h;refine lO ([aH A1 n1 c1 a0.Slots,aH A2 n2 c2 a0.More,ac B3 47 [iV a0.Kind,iV a0.Shape,iV a0.Flags,iV a0.Age,.slice A1 n1 c1,.slice A2 n2 c2],ac B4 4 [.bool false]]) rfl ?_;refine run ?_;refine gR (aI (us:=[iV a0.Kind,iV a0.Shape,iV a0.Flags,iV a0.Age,.slice A1 n1 c1,.slice A2 n2 c2]) 2 rfl rfl bx rfl) ?_;obtain ⟨y19,hy19,h⟩:=aa h;refine gD (ai (ub hy19) JR rfl (mem_cons (ag (i:=0) rfl rfl) (mem_cons (ag (i:=1) rfl rfl) ae)) sd) ?_;rintro _ _ ⟨_,⟨rfl,rfl⟩,rfl⟩;refine run ?_;obtain ⟨b20,hb20,h⟩:=aa h;refine bc 6 53 b20 ?_ ?_
  ·clear h;refine ba 47 rfl (fun g20=> ?_) (fun g20=> ?_)
   ·have h:=aj g20 hb20;refine run ?_;obtain ⟨y21,hy21,h⟩:=aa h;refine dg (ai (vH hy21) JQ rfl (mem_cons (ag (i:=1) rfl rfl) ae) sZ) rfl (cm g20 rfl) rfl ?_;rintro _ _ ⟨_,⟨rfl,rfl⟩,rfl⟩;refine run ?_;obtain rfl:=av h;exact am sA (ab [0,1,2,3] 4 rfl rfl)
   have h:=ak g20 hb20;refine run ?_;obtain rfl:=av h;exact am sA (ab [0,1,2,3] 4 rfl rfl)
  refine gO (ap (us:=[.bool b20]) (cs':=[.bool b20]) 3 rfl rfl rfl rfl uz rfl rfl rfl) ?_;rintro _ _ rfl;refine run ?_;obtain rfl:=av h;exact d8 (rs:=[.cell 2 4]) (vs:=[.bool b20]) rfl (.cons (oy 3 rfl rfl D0) .nil) rfl (ab [] 4 rfl rfl) ⟨rfl,rfl⟩
 ·rintro _ h;refine lO ([aH A1 n1 c1 a0.Slots,aH A2 n2 c2 a0.More,ac B3 47 [iV a0.Kind,iV a0.Shape,iV a0.Flags,iV a0.Age,.slice A1 n1 c1,.slice A2 n2 c2],ac B4 4 [.bool false]]) rfl ?_;refine run ?_;obtain rfl:=av h;exact d8 (rs:=[.cell 2 4]) (vs:=[.bool false]) rfl (.cons (oy 3 rfl rfl D0) .nil) rfl (ab [] 4 rfl rfl) ⟨rfl,rfl⟩
 rintro i _ h;exact aL h
theorem fO {r:Bool}: ∀v post,((fun (u:Value) (post:List Chunk)=>u=.bool r∧post=[])) v post→ ∀c∈post,cA c:=by
 rintro _ _ ⟨rfl,rfl⟩;exact ae
def cE (N:Nat)(a0:(List DValue)):Option (List DValue):=
 bA (bY (([]:List DValue).length+a0.length)) (some (([]:List DValue)++a0))
theorem dD {N:Nat}{a0:(List DValue)}{r:(List DValue)}(h:cE N a0=some r):Okc Tryz.prog 85 [.slice A1 n1 c1] ([aH A1 n1 c1 a0]) (fun u post=> ∃A0 n0 c0,u=.slice A0 n0 c0∧post=[ax A0 n0 c0 r]):=by
 refine bI Tryz.func85 rfl rfl ?_;simp only [aW];refine run ?_;refine aB ?_;refine run ?_;refine gE (Dd rfl Tryz.underlying38) ?_;refine run ?_;refine ay rfl (fun g2=> ?_) (fun g2=> ?_)
 ·replace g2:(A1).isNone=true:=by simpa using g2
  refine Kg 0 rfl au g2 (fun hx=> ?_);subst hx;replace h:bA (bY (([]:List DValue).length+([]:List DValue).length)) (some (([]:List DValue)++([]:List DValue)))=some r:=h
  replace h:some []=some r:=by simpa [bA] using h
  refine run ?_;obtain rfl:=av h;exact aO rfl rfl ((bv aR 52 _).trans (ab [0] 2 rfl rfl)) ⟨_,_,_,rfl,rfl⟩
 refine run ?_;refine gD (cp (R:=aR) (vss:=[]) (xs:=[]) rfl (Iq) rfl rfl (fun _ _ hr=>All2.nil)) ?_;rintro _ _ ⟨A4,n4,c4,rfl,rfl⟩;refine run ?_;obtain ⟨q5,h⟩:=aq h;refine gD (bR 0 1 rfl rfl au rfl rfl Tryz.underlying38 xZ rfl rfl q5) ?_;rintro _ _ ⟨A6,n6,c6,rfl,rfl⟩;refine run ?_;obtain rfl:=av h;exact aO rfl rfl (ab [0] 2 rfl rfl) ⟨_,_,_,rfl,rfl⟩
theorem cV {r:(List DValue)}: ∀v post,((fun (u:Value) (post:List Chunk)=> ∃A0 n0 c0,u=.slice A0 n0 c0∧post=[ax A0 n0 c0 r])) v post→ ∀c∈post,cA c:=by
 rintro _ _ ⟨_,_,_,rfl,rfl⟩;exact mem_cons bX (ae)
def dx (N:Nat)(a0:DCell):Option DCell:=
 (cE N a0.Slots).bind fun y5=>(cE N a0.More).bind fun y7=>some (⟨a0.Kind,a0.Shape,a0.Flags,a0.Age,y5,y7⟩:DCell)
theorem fb {N:Nat}{a0:DCell}{r:DCell}(h:dx N a0=some r):Okc Tryz.prog 91 [.agg #[iV a0.Kind,iV a0.Shape,iV a0.Flags,iV a0.Age,.slice A1 n1 c1,.slice A2 n2 c2]] ([aH A1 n1 c1 a0.Slots,aH A2 n2 c2 a0.More]) (fun u post=> ∃A0 n0 c0 A1 n1 c1,u=.agg #[iV r.Kind,iV r.Shape,iV r.Flags,iV r.Age,.slice A0 n0 c0,.slice A1 n1 c1]∧post=[ax A0 n0 c0 r.Slots,ax A1 n1 c1 r.More]):=by
 refine bI Tryz.func91 rfl rfl ?_;simp only [aW];refine run ?_;refine gD (bD rfl rfl) ?_;rintro _ _ ⟨B3,rfl,rfl⟩;refine gD (aQ eM rfl) ?_;rintro _ _ ⟨B4,rfl,rfl⟩;refine run ?_;refine aB ?_;refine co (by kernel_rfl) _ (ad _) ?_;refine ah 0 rfl (by kernel_rfl) (bZ rfl sI) rfl rfl ?_;refine bm 1 rfl (by kernel_rfl) (bh 1 rfl rfl dz rfl) rfl rfl ?_;refine ah 3 rfl (by kernel_rfl) (bZ rfl jC) rfl rfl ?_;refine bm 4 rfl (by kernel_rfl) (bh 1 rfl rfl dz rfl) rfl rfl ?_;obtain ⟨y5,hy5,h⟩:=aa h;refine bq 2 rfl (by kernel_rfl) (ai (dD hy5) qq rfl (mem_cons (ag (i:=2) rfl rfl) ae) cV) rfl rfl rfl ?_;rintro _ _ ⟨_,⟨A6,n6,c6,rfl,rfl⟩,rfl⟩;refine ⟨_,ab [1,2,3,4] 5 rfl rfl,ad _,?_⟩;refine ah 6 rfl (by kernel_rfl) (bZ rfl sI) rfl rfl ?_;obtain ⟨y7,hy7,h⟩:=aa h;refine bq 5 rfl (by kernel_rfl) (ai (dD hy7) qq rfl (mem_cons (ag (i:=4) rfl rfl) ae) cV) rfl rfl rfl ?_;rintro _ _ ⟨_,⟨A8,n8,c8,rfl,rfl⟩,rfl⟩;refine ⟨_,ab [2,3,4,5] 6 rfl rfl,ad _,?_⟩;refine mO 7 rfl (by kernel_rfl) (by kernel_rfl) (ap (us:=[.slice A6 n6 c6]) (cs':=[iV a0.Kind,iV a0.Shape,iV a0.Flags,iV a0.Age,.slice A6 n6 c6,.slice A2 n2 c2]) 3 rfl rfl rfl rfl cZ rfl rfl rfl) ?_;rintro _ _ rfl;refine ah 8 rfl (by kernel_rfl) (bZ rfl jC) rfl rfl ?_;refine mO 9 rfl (by kernel_rfl) (by kernel_rfl) (ap (us:=[.slice A8 n8 c8]) (cs':=[iV a0.Kind,iV a0.Shape,iV a0.Flags,iV a0.Age,.slice A6 n6 c6,.slice A8 n8 c8]) 3 rfl rfl rfl rfl cZ rfl rfl rfl) ?_;rintro _ _ rfl;refine bC (by kernel_rfl) ?_;refine run ?_
 refine gR (aI (us:=[iV a0.Kind,iV a0.Shape,iV a0.Flags,iV a0.Age,.slice A6 n6 c6,.slice A8 n8 c8]) 3 rfl rfl bx rfl) ?_;refine gO (ap (us:=[iV a0.Kind,iV a0.Shape,iV a0.Flags,iV a0.Age,.slice A6 n6 c6,.slice A8 n8 c8]) (cs':=[iV a0.Kind,iV a0.Shape,iV a0.Flags,iV a0.Age,.slice A6 n6 c6,.slice A8 n8 c8]) 2 rfl rfl rfl rfl bL rfl rfl rfl) ?_;rintro _ _ rfl;refine run ?_;obtain rfl:=av h;exact d8 (rs:=[.cell 2 47]) (vs:=[.agg #[iV a0.Kind,iV a0.Shape,iV a0.Flags,iV a0.Age,.slice A6 n6 c6,.slice A8 n8 c8]]) rfl (.cons (cD 2 rfl rfl bx) .nil) rfl (ab [1,0] 6 rfl rfl) ⟨_,_,_,_,_,_,rfl,rfl⟩
theorem eb {r:DCell}: ∀v post,((fun (u:Value) (post:List Chunk)=> ∃A0 n0 c0 A1 n1 c1,u=.agg #[iV r.Kind,iV r.Shape,iV r.Flags,iV r.Age,.slice A0 n0 c0,.slice A1 n1 c1]∧post=[ax A0 n0 c0 r.Slots,ax A1 n1 c1 r.More])) v post→ ∀c∈post,cA c:=by
 rintro _ _ ⟨_,_,_,_,_,_,rfl,rfl⟩;exact mem_cons bX (mem_cons bX (ae))
end Go.Proofs.YtmimkglhbmcokaaGreat
namespace Go.Proofs.YtmimkglhbmcokaaGreat
variable {A1 A2 A3 A4 A5:Option Addr} {B1 B3 B6 M7 c1 c2 c3 c4 c5 n1 n2 n3 n4 n5:Nat}
open Go.RowKit Go.ChangeShapes Go.WideShapes Go.Deep
def sq (x:DValue):Prop:=(in64 x.Kind)∧(in64 x.N)∧(True)
set_option maxRecDepth 100000 in
theorem rt:GV Tryz.prog 52 aR sq:=fun {_ enc w base spare held _ cs y} h hw=>by
 obtain ⟨xs,m, -,hy,hl,hx,hf⟩:=DataW.trod_struct Tryz.underlying52 h
 have hc:Tryz.prog.cellsOf 52=3:=by kernel_rfl
 rw [hc] at hl
 match cs,hl,hf with
 | [c0,c1,c2],_,hf=>
  have k0:DataW.trod enc Tryz.prog w base spare held m 3 (List.take (Tryz.prog.cellsOf 3) (List.drop 0 [c0,c1,c2]))=xs[0]? :=hf 0 _ rfl
  have z0:Tryz.prog.cellsOf 3=1:=by kernel_rfl
  simp only [z0,List.drop_succ_cons,List.drop_zero,List.take_succ_cons,List.take_zero] at k0
  have l0:0<xs.length:=by rw [hx];decide
  obtain ⟨a0,r0,w0⟩:=(Rdr.w (oF Tryz.underlying3)) (k0.trans (List.getElem?_eq_getElem l0)) (fi Tryz.underlying52 hy hw (i:=0) rfl (List.getElem?_eq_getElem l0));have k1:DataW.trod enc Tryz.prog w base spare held m 3 (List.take (Tryz.prog.cellsOf 3) (List.drop 1 [c0,c1,c2]))=xs[1]? :=hf 1 _ rfl
  have z1:Tryz.prog.cellsOf 3=1:=by kernel_rfl
  simp only [z1,List.drop_succ_cons,List.drop_zero,List.take_succ_cons,List.take_zero] at k1
  have l1:1<xs.length:=by rw [hx];decide
  obtain ⟨a1,r1,w1⟩:=(Rdr.w (oF Tryz.underlying3)) (k1.trans (List.getElem?_eq_getElem l1)) (fi Tryz.underlying52 hy hw (i:=1) rfl (List.getElem?_eq_getElem l1));have k2:DataW.trod enc Tryz.prog w base spare held m 9 (List.take (Tryz.prog.cellsOf 9) (List.drop 2 [c0,c1,c2]))=xs[2]? :=hf 2 _ rfl
  have z2:Tryz.prog.cellsOf 9=1:=by kernel_rfl
  simp only [z2,List.drop_succ_cons,List.drop_zero,List.take_succ_cons,List.take_zero] at k2
  have l2:2<xs.length:=by rw [hx];decide
  obtain ⟨a2,r2,w2⟩:=(Rdr.w (IS Tryz.underlying9)) (k2.trans (List.getElem?_eq_getElem l2)) (fi Tryz.underlying52 hy hw (i:=2) rfl (List.getElem?_eq_getElem l2));obtain ⟨rfl, -⟩:=List.cons.inj (show [c0]=[_] from r0);obtain ⟨rfl, -⟩:=List.cons.inj (show [c1]=[_] from r1);obtain ⟨rfl, -⟩:=List.cons.inj (show [c2]=[_] from r2);exact ⟨⟨a0,a1,a2⟩,rfl,⟨w0,w1,w2⟩⟩
def uk (x:DCell):Prop:=(in64 x.Kind)∧(in64 x.Shape)∧(in64 x.Flags)∧(in64 x.Age)∧(Kr (fun z38=>sq z38) x.Slots)∧(Kr (fun z38=>sq z38) x.More)
set_option maxRecDepth 100000 in
theorem DO:GV Tryz.prog 47 cY uk:=fun {_ enc w base spare held _ cs y} h hw=>by
 obtain ⟨xs,m, -,hy,hl,hx,hf⟩:=DataW.trod_struct Tryz.underlying47 h
 have hc:Tryz.prog.cellsOf 47=6:=by kernel_rfl
 rw [hc] at hl
 match cs,hl,hf with
 | [c0,c1,c2,c3,c4,c5],_,hf=>
  have k0:DataW.trod enc Tryz.prog w base spare held m 3 (List.take (Tryz.prog.cellsOf 3) (List.drop 0 [c0,c1,c2,c3,c4,c5]))=xs[0]? :=hf 0 _ rfl
  have z0:Tryz.prog.cellsOf 3=1:=by kernel_rfl
  simp only [z0,List.drop_succ_cons,List.drop_zero,List.take_succ_cons,List.take_zero] at k0
  have l0:0<xs.length:=by rw [hx];decide
  obtain ⟨a0,r0,w0⟩:=(Rdr.w (oF Tryz.underlying3)) (k0.trans (List.getElem?_eq_getElem l0)) (fi Tryz.underlying47 hy hw (i:=0) rfl (List.getElem?_eq_getElem l0));have k1:DataW.trod enc Tryz.prog w base spare held m 3 (List.take (Tryz.prog.cellsOf 3) (List.drop 1 [c0,c1,c2,c3,c4,c5]))=xs[1]? :=hf 1 _ rfl
  have z1:Tryz.prog.cellsOf 3=1:=by kernel_rfl
  simp only [z1,List.drop_succ_cons,List.drop_zero,List.take_succ_cons,List.take_zero] at k1
  have l1:1<xs.length:=by rw [hx];decide
  obtain ⟨a1,r1,w1⟩:=(Rdr.w (oF Tryz.underlying3)) (k1.trans (List.getElem?_eq_getElem l1)) (fi Tryz.underlying47 hy hw (i:=1) rfl (List.getElem?_eq_getElem l1));have k2:DataW.trod enc Tryz.prog w base spare held m 3 (List.take (Tryz.prog.cellsOf 3) (List.drop 2 [c0,c1,c2,c3,c4,c5]))=xs[2]? :=hf 2 _ rfl
  have z2:Tryz.prog.cellsOf 3=1:=by kernel_rfl
  simp only [z2,List.drop_succ_cons,List.drop_zero,List.take_succ_cons,List.take_zero] at k2
  have l2:2<xs.length:=by rw [hx];decide
  obtain ⟨a2,r2,w2⟩:=(Rdr.w (oF Tryz.underlying3)) (k2.trans (List.getElem?_eq_getElem l2)) (fi Tryz.underlying47 hy hw (i:=2) rfl (List.getElem?_eq_getElem l2));have k3:DataW.trod enc Tryz.prog w base spare held m 3 (List.take (Tryz.prog.cellsOf 3) (List.drop 3 [c0,c1,c2,c3,c4,c5]))=xs[3]? :=hf 3 _ rfl
  have z3:Tryz.prog.cellsOf 3=1:=by kernel_rfl
  simp only [z3,List.drop_succ_cons,List.drop_zero,List.take_succ_cons,List.take_zero] at k3
  have l3:3<xs.length:=by rw [hx];decide
  obtain ⟨a3,r3,w3⟩:=(Rdr.w (oF Tryz.underlying3)) (k3.trans (List.getElem?_eq_getElem l3)) (fi Tryz.underlying47 hy hw (i:=3) rfl (List.getElem?_eq_getElem l3));have k4:DataW.trod enc Tryz.prog w base spare held m 38 (List.take (Tryz.prog.cellsOf 38) (List.drop 4 [c0,c1,c2,c3,c4,c5]))=xs[4]? :=hf 4 _ rfl
  have z4:Tryz.prog.cellsOf 38=1:=by kernel_rfl
  simp only [z4,List.drop_succ_cons,List.drop_zero,List.take_succ_cons,List.take_zero] at k4
  have l4:4<xs.length:=by rw [hx];decide
  obtain ⟨a4,r4,w4⟩:=(Bv Tryz.underlying38 (by kernel_rfl) (by decide) (of_decide_eq_true (by kernel_rfl)) rt) (k4.trans (List.getElem?_eq_getElem l4)) (fi Tryz.underlying47 hy hw (i:=4) rfl (List.getElem?_eq_getElem l4));have k5:DataW.trod enc Tryz.prog w base spare held m 38 (List.take (Tryz.prog.cellsOf 38) (List.drop 5 [c0,c1,c2,c3,c4,c5]))=xs[5]? :=hf 5 _ rfl
  have z5:Tryz.prog.cellsOf 38=1:=by kernel_rfl
  simp only [z5,List.drop_succ_cons,List.drop_zero,List.take_succ_cons,List.take_zero] at k5
  have l5:5<xs.length:=by rw [hx];decide
  obtain ⟨a5,r5,w5⟩:=(Bv Tryz.underlying38 (by kernel_rfl) (by decide) (of_decide_eq_true (by kernel_rfl)) rt) (k5.trans (List.getElem?_eq_getElem l5)) (fi Tryz.underlying47 hy hw (i:=5) rfl (List.getElem?_eq_getElem l5));obtain ⟨rfl, -⟩:=List.cons.inj (show [c0]=[_] from r0);obtain ⟨rfl, -⟩:=List.cons.inj (show [c1]=[_] from r1);obtain ⟨rfl, -⟩:=List.cons.inj (show [c2]=[_] from r2);obtain ⟨rfl, -⟩:=List.cons.inj (show [c3]=[_] from r3);obtain ⟨v4,e4,b4⟩:=r4;obtain ⟨rfl, -⟩:=List.cons.inj e4;obtain ⟨A4,q4,rfl,d4⟩:=b4;have b4:SlR aR _ _ (.slice A4 a4.length q4) a4:=⟨_,_,rfl,d4⟩;obtain ⟨v5,e5,b5⟩:=r5;obtain ⟨rfl, -⟩:=List.cons.inj e5;obtain ⟨A5,q5,rfl,d5⟩:=b5;have b5:SlR aR _ _ (.slice A5 a5.length q5) a5:=⟨_,_,rfl,d5⟩;exact ⟨⟨a0,a1,a2,a3,a4,a5⟩,⟨_,_,_,_,_,_,rfl,b4,b5⟩,⟨w0,w1,w2,w3,w4,w5⟩⟩
def Ku (x:DMemory):Prop:=(Kr (fun z34=>uk z34) x.Young)∧(Kr (fun z34=>uk z34) x.Old)
def Bk (x:DOp):Prop:=(in64 x.Kind)∧(in64 x.N)∧(uk x.C)∧(sq x.V)
set_option maxRecDepth 100000 in
theorem Hb:GV Tryz.prog 77 DQ Bk:=fun {_ enc w base spare held _ cs y} h hw=>by
 obtain ⟨xs,m, -,hy,hl,hx,hf⟩:=DataW.trod_struct Tryz.underlying77 h
 have hc:Tryz.prog.cellsOf 77=11:=by kernel_rfl
 rw [hc] at hl
 match cs,hl,hf with
 | [c0,c1,c2,c3,c4,c5,c6,c7,c8,c9,c10],_,hf=>
  have k0:DataW.trod enc Tryz.prog w base spare held m 3 (List.take (Tryz.prog.cellsOf 3) (List.drop 0 [c0,c1,c2,c3,c4,c5,c6,c7,c8,c9,c10]))=xs[0]? :=hf 0 _ rfl
  have z0:Tryz.prog.cellsOf 3=1:=by kernel_rfl
  simp only [z0,List.drop_succ_cons,List.drop_zero,List.take_succ_cons,List.take_zero] at k0
  have l0:0<xs.length:=by rw [hx];decide
  obtain ⟨a0,r0,w0⟩:=(Rdr.w (oF Tryz.underlying3)) (k0.trans (List.getElem?_eq_getElem l0)) (fi Tryz.underlying77 hy hw (i:=0) rfl (List.getElem?_eq_getElem l0));have k1:DataW.trod enc Tryz.prog w base spare held m 3 (List.take (Tryz.prog.cellsOf 3) (List.drop 1 [c0,c1,c2,c3,c4,c5,c6,c7,c8,c9,c10]))=xs[1]? :=hf 1 _ rfl
  have z1:Tryz.prog.cellsOf 3=1:=by kernel_rfl
  simp only [z1,List.drop_succ_cons,List.drop_zero,List.take_succ_cons,List.take_zero] at k1
  have l1:1<xs.length:=by rw [hx];decide
  obtain ⟨a1,r1,w1⟩:=(Rdr.w (oF Tryz.underlying3)) (k1.trans (List.getElem?_eq_getElem l1)) (fi Tryz.underlying77 hy hw (i:=1) rfl (List.getElem?_eq_getElem l1));have k2:DataW.trod enc Tryz.prog w base spare held m 47 (List.take (Tryz.prog.cellsOf 47) (List.drop 2 [c0,c1,c2,c3,c4,c5,c6,c7,c8,c9,c10]))=xs[2]? :=hf 2 _ rfl
  have z2:Tryz.prog.cellsOf 47=6:=by kernel_rfl
  simp only [z2,List.drop_succ_cons,List.drop_zero,List.take_succ_cons,List.take_zero] at k2
  have l2:2<xs.length:=by rw [hx];decide
  obtain ⟨a2,r2,w2⟩:=DO (k2.trans (List.getElem?_eq_getElem l2)) (fi Tryz.underlying77 hy hw (i:=2) rfl (List.getElem?_eq_getElem l2));have k3:DataW.trod enc Tryz.prog w base spare held m 52 (List.take (Tryz.prog.cellsOf 52) (List.drop 8 [c0,c1,c2,c3,c4,c5,c6,c7,c8,c9,c10]))=xs[3]? :=hf 3 _ rfl
  have z3:Tryz.prog.cellsOf 52=3:=by kernel_rfl
  simp only [z3,List.drop_succ_cons,List.drop_zero,List.take_succ_cons,List.take_zero] at k3
  have l3:3<xs.length:=by rw [hx];decide
  obtain ⟨a3,r3,w3⟩:=rt (k3.trans (List.getElem?_eq_getElem l3)) (fi Tryz.underlying77 hy hw (i:=3) rfl (List.getElem?_eq_getElem l3));obtain ⟨rfl, -⟩:=List.cons.inj (show [c0]=[_] from r0);obtain ⟨rfl, -⟩:=List.cons.inj (show [c1]=[_] from r1);obtain ⟨_,_,_,_,_,_,e2,b2_0,b2_1⟩:=r2;simp only [List.cons.injEq,and_true] at e2;obtain ⟨rfl,rfl,rfl,rfl,rfl,rfl⟩:=e2;have e3:[c8,c9,c10]=[.int .i64 a3.Kind,.int .i64 a3.N,.string a3.S]:=r3;simp only [List.cons.injEq,and_true] at e3;obtain ⟨rfl,rfl,rfl⟩:=e3;exact ⟨⟨a0,a1,a2,a3⟩,⟨_,_,_,_,_,_,rfl,b2_0,b2_1⟩,⟨w0,w1,w2,w3⟩⟩
def Lh (x:DLink):Prop:=(in64 x.Kind)∧(in64 x.I)∧(in64 x.J)
set_option maxRecDepth 100000 in
theorem K7 {H:Type}{enc:TypeId×Value→H}{W:World}{r:Reach}{b0:Nat}{base:Nat}{spare:Nat→Bool}{held:Bool}{v:Value}{d:DataW H}{p:List MemPlace}
  (hv:Value.okWide Tryz.prog W r b0 71 v) (h:DataW.Trod enc Tryz.prog W base spare held 71 v d p) (hz:Light Tryz.prog 71 d): ∃(m:(List DOp)) (Aq_0:Option Addr) (nq_0 cq_0:Nat),v=.slice Aq_0 nq_0 cq_0∧(Kr (fun z71=>Bk z71) m)∧(ox DQ (.slice Aq_0 nq_0 cq_0) m).ok (fun _=>False) (fun q=>q<W.heap.size) W:=by
 obtain ⟨A,n,c,rfl⟩:=okWide_slice Tryz.underlying71 hv;obtain ⟨fuel,hf⟩:=h;obtain ⟨m,⟨u,e,h1⟩,hw⟩:=(Bv Tryz.underlying71 (by kernel_rfl) (by decide) (of_decide_eq_true (by kernel_rfl)) Hb) hf hz;obtain ⟨rfl, -⟩:=List.cons.inj (show [_]=[_] from e);exact ⟨m,A,n,c,rfl,hw,h1⟩
end Go.Proofs.YtmimkglhbmcokaaGreat