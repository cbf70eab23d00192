/- Merged texts: part 3. No conditions of their own. -/
import Derived.Test.YtmimkglhbmcokaaGreatG2
import Derived.Test.YtmimkglhbmcokaaGreatChecked
import Derived.ProofKit
namespace Go.Proofs.YtmimkglhbmcokaaGreat
section
theorem Sq:type_of% Tryz.underlying22:=Tryz.underlying22
theorem So:type_of% Tryz.underlying29:=Tryz.underlying29
theorem Sn:type_of% Tryz.underlying38:=Tryz.underlying38
theorem Sm:type_of% Tryz.underlying66:=Tryz.underlying66
theorem Sk:type_of% Tryz.underlying24:=Tryz.underlying24
variable {A1 A2 A3 A4 A5:Option Addr} {B1 B3 B6 M7 c1 c2 c3 c4 c5 n1 n2 n3 n4 n5:Nat}
open Go.RowKit Asn
set_option maxRecDepth 20000
structure SH where
 at_:(List (Int×Bool))
 deriving DecidableEq,Inhabited
structure SG where
 Kind:Int
 N:Int
 S:ByteArray
 deriving DecidableEq,Inhabited
def bv:Rep SG:=.flat 3 (fun x=> [iV x.Kind,iV x.N,.string x.S]) (fun _=>rfl) (fun _=>rfl)
structure SD where
 Kind:Int
 Shape:Int
 Flags:Int
 Age:Int
 Slots:(List SG)
 More:(List SG)
 deriving DecidableEq,Inhabited
def du:Rep SD where
 sz:=6
 rel S w vs x:= ∃A4 n4 c4 A5 n5 c5,vs=[iV x.Kind,iV x.Shape,iV x.Flags,iV x.Age,O A4 n4 c4,O A5 n5 c5]∧SlR bv S w (O A4 n4 c4) x.Slots∧SlR bv S w (O A5 n5 c5) x.More
 loc:=fun h ⟨_,_,_,_,_,_,e,h4,h5⟩=>⟨_,_,_,_,_,_,e,h4.loc h,h5.loc h⟩
 mono:=fun h ⟨_,_,_,_,_,_,e,h4,h5⟩=>⟨_,_,_,_,_,_,e,h4.mono h,h5.mono h⟩
 len:=fun ⟨_,_,_,_,_,_,e,_⟩=>by rw [e];rfl
 one:=fun ⟨_,_,_,_,_,_,e,_⟩=>by rw [e];rfl
theorem dR (x:SD):Kg du x fun vs cs=> ∃A4 n4 c4 A5 n5 c5,vs=[iV x.Kind,iV x.Shape,iV x.Flags,iV x.Age,O A4 n4 c4,O A5 n5 c5]∧cs=[tT bv (O A4 n4 c4) x.Slots,tT bv (O A5 n5 c5) x.More]:=fun S w vs ⟨_,_,_,_,_,_,e,h4,h5⟩=>⟨_,⟨_,_,_,_,_,_,e,rfl⟩,Ex h4 (Ex h5 (ad))⟩
structure SB where
 Young:(List SD)
 Old:(List SD)
 deriving DecidableEq,Inhabited
def QB:Rep SB where
 sz:=2
 rel S w vs x:= ∃A0 n0 c0 A1 n1 c1,vs=[O A0 n0 c0,O A1 n1 c1]∧SlR du S w (O A0 n0 c0) x.Young∧SlR du S w (O A1 n1 c1) x.Old
 loc:=fun h ⟨_,_,_,_,_,_,e,h0,h1⟩=>⟨_,_,_,_,_,_,e,h0.loc h,h1.loc h⟩
 mono:=fun h ⟨_,_,_,_,_,_,e,h0,h1⟩=>⟨_,_,_,_,_,_,e,h0.mono h,h1.mono h⟩
 len:=fun ⟨_,_,_,_,_,_,e,_⟩=>by rw [e];rfl
 one:=fun ⟨_,_,_,_,_,_,e,_⟩=>by rw [e];rfl
structure SK where
 m_:SB
 roots_:(List SG)
 pending_:(List SG)
 set_:SH
 deriving DecidableEq,Inhabited
structure SE where
 Kind:Int
 N:Int
 C:SD
 V:SG
 deriving DecidableEq,Inhabited
def RE:Rep SE where
 sz:=11
 rel S w vs x:= ∃A6 n6 c6 A7 n7 c7,vs=[iV x.Kind,iV x.N,iV x.C.Kind,iV x.C.Shape,iV x.C.Flags,iV x.C.Age,O A6 n6 c6,O A7 n7 c7,iV x.V.Kind,iV x.V.N,.string x.V.S]∧SlR bv S w (O A6 n6 c6) x.C.Slots∧SlR bv S w (O A7 n7 c7) x.C.More
 loc:=fun h ⟨_,_,_,_,_,_,e,h6,h7⟩=>⟨_,_,_,_,_,_,e,h6.loc h,h7.loc h⟩
 mono:=fun h ⟨_,_,_,_,_,_,e,h6,h7⟩=>⟨_,_,_,_,_,_,e,h6.mono h,h7.mono h⟩
 len:=fun ⟨_,_,_,_,_,_,e,_⟩=>by rw [e];rfl
 one:=fun ⟨_,_,_,_,_,_,e,_⟩=>by rw [e];rfl
structure SA where
 m_:SB
 kept_:(List Int)
 met_:(List Int)
 seen_:(List (Int×Bool))
 next_:Int
 deriving DecidableEq,Inhabited
structure SI where
 m_:SB
 all_:(List Int)
 met_:(List (Int×Unit))
 done_:Int
 deriving DecidableEq,Inhabited
structure Sz where
 N:Int
 E:Int
 Ok:Bool
 C:SD
 V:SG
 L:(List SG)
 deriving DecidableEq,Inhabited
def Q4:Rep Sz where
 sz:=13
 rel S w vs x:= ∃A7 n7 c7 A8 n8 c8 A12 n12 c12,vs=[iV x.N,iV x.E,.bool x.Ok,iV x.C.Kind,iV x.C.Shape,iV x.C.Flags,iV x.C.Age,O A7 n7 c7,O A8 n8 c8,iV x.V.Kind,iV x.V.N,.string x.V.S,O A12 n12 c12]∧SlR bv S w (O A7 n7 c7) x.C.Slots∧SlR bv S w (O A8 n8 c8) x.C.More∧SlR bv S w (O A12 n12 c12) x.L
 loc:=fun h ⟨_,_,_,_,_,_,_,_,_,e,h7,h8,h12⟩=>⟨_,_,_,_,_,_,_,_,_,e,h7.loc h,h8.loc h,h12.loc h⟩
 mono:=fun h ⟨_,_,_,_,_,_,_,_,_,e,h7,h8,h12⟩=>⟨_,_,_,_,_,_,_,_,_,e,h7.mono h,h8.mono h,h12.mono h⟩
 len:=fun ⟨_,_,_,_,_,_,_,_,_,e,_⟩=>by rw [e];rfl
 one:=fun ⟨_,_,_,_,_,_,_,_,_,e,_⟩=>by rw [e];rfl
structure SF where
 M:SB
 Order:(List Int)
 deriving DecidableEq,Inhabited
def Q5:Rep SF where
 sz:=3
 rel S w vs x:= ∃A0 n0 c0 A1 n1 c1 A2 n2 c2,vs=[O A0 n0 c0,O A1 n1 c1,O A2 n2 c2]∧SlR du S w (O A0 n0 c0) x.M.Young∧SlR du S w (O A1 n1 c1) x.M.Old∧SlR (fW .i64) S w (O A2 n2 c2) x.Order
 loc:=fun h ⟨_,_,_,_,_,_,_,_,_,e,h0,h1,h2⟩=>⟨_,_,_,_,_,_,_,_,_,e,h0.loc h,h1.loc h,h2.loc h⟩
 mono:=fun h ⟨_,_,_,_,_,_,_,_,_,e,h0,h1,h2⟩=>⟨_,_,_,_,_,_,_,_,_,e,h0.mono h,h1.mono h,h2.mono h⟩
 len:=fun ⟨_,_,_,_,_,_,_,_,_,e,_⟩=>by rw [e];rfl
 one:=fun ⟨_,_,_,_,_,_,_,_,_,e,_⟩=>by rw [e];rfl
structure Sy where
 Kind:Int
 I:Int
 J:Int
 deriving DecidableEq,Inhabited
def F2:Rep Sy:=.flat 3 (fun x=> [iV x.Kind,iV x.I,iV x.J]) (fun _=>rfl) (fun _=>rfl)
abbrev bo (A:Option Addr)(n c:Nat):=tT bv (.slice A n c)
abbrev bC (A:Option Addr)(n c:Nat):=tT du (.slice A n c)
abbrev bL (A:Option Addr)(n c:Nat):=gK bv 52 (.slice A n c)
abbrev cI (A:Option Addr)(n c:Nat):=gK du 47 (.slice A n c)
abbrev dl (A:Option Addr)(n c:Nat):=gK (fW .i64) 3 (.slice A n c)
abbrev dw (A:Option Addr)(n c:Nat):=tT (fW .i64) (.slice A n c)
theorem I1:aw Tryz.prog 14:=⟨Tryz.f14,Tryz.func14,rfl,rfl⟩
theorem Nu:aw Tryz.prog 15:=⟨Tryz.f15,Tryz.func15,rfl,rfl⟩
theorem GL:aw Tryz.prog 16:=⟨Tryz.f16,Tryz.func16,rfl,rfl⟩
theorem Nt:aw Tryz.prog 17:=⟨Tryz.f17,Tryz.func17,rfl,rfl⟩
theorem Ns:aw Tryz.prog 18:=⟨Tryz.f18,Tryz.func18,rfl,rfl⟩
theorem Qm:aw Tryz.prog 19:=⟨Tryz.f19,Tryz.func19,rfl,rfl⟩
theorem Nr:aw Tryz.prog 20:=⟨Tryz.f20,Tryz.func20,rfl,rfl⟩
theorem GJ:aw Tryz.prog 21:=⟨Tryz.f21,Tryz.func21,rfl,rfl⟩
theorem Ee:aw Tryz.prog 22:=⟨Tryz.f22,Tryz.func22,rfl,rfl⟩
theorem Ed:aw Tryz.prog 23:=⟨Tryz.f23,Tryz.func23,rfl,rfl⟩
theorem yo:aw Tryz.prog 27:=⟨Tryz.f27,Tryz.func27,rfl,rfl⟩
theorem Ec:aw Tryz.prog 28:=⟨Tryz.f28,Tryz.func28,rfl,rfl⟩
theorem I0:aw Tryz.prog 30:=⟨Tryz.f30,Tryz.func30,rfl,rfl⟩
theorem GH:aw Tryz.prog 31:=⟨Tryz.f31,Tryz.func31,rfl,rfl⟩
theorem Ql:aw Tryz.prog 37:=⟨Tryz.f37,Tryz.func37,rfl,rfl⟩
theorem Qk:aw Tryz.prog 39:=⟨Tryz.f39,Tryz.func39,rfl,rfl⟩
theorem Qj:aw Tryz.prog 40:=⟨Tryz.f40,Tryz.func40,rfl,rfl⟩
theorem Nq:aw Tryz.prog 44:=⟨Tryz.f44,Tryz.func44,rfl,rfl⟩
theorem Np:aw Tryz.prog 55:=⟨Tryz.f55,Tryz.func55,rfl,rfl⟩
theorem Qi:aw Tryz.prog 56:=⟨Tryz.f56,Tryz.func56,rfl,rfl⟩
theorem Nn:aw Tryz.prog 57:=⟨Tryz.f57,Tryz.func57,rfl,rfl⟩
theorem Nm:aw Tryz.prog 58:=⟨Tryz.f58,Tryz.func58,rfl,rfl⟩
theorem Nl:aw Tryz.prog 59:=⟨Tryz.f59,Tryz.func59,rfl,rfl⟩
theorem Qh:aw Tryz.prog 66:=⟨Tryz.f66,Tryz.func66,rfl,rfl⟩
theorem IZ:aw Tryz.prog 67:=⟨Tryz.f67,Tryz.func67,rfl,rfl⟩
theorem Nk:aw Tryz.prog 68:=⟨Tryz.f68,Tryz.func68,rfl,rfl⟩
theorem Qg:aw Tryz.prog 69:=⟨Tryz.f69,Tryz.func69,rfl,rfl⟩
theorem Qf:aw Tryz.prog 70:=⟨Tryz.f70,Tryz.func70,rfl,rfl⟩
theorem Nj:aw Tryz.prog 71:=⟨Tryz.f71,Tryz.func71,rfl,rfl⟩
theorem Ni:aw Tryz.prog 72:=⟨Tryz.f72,Tryz.func72,rfl,rfl⟩
theorem qg:aw Tryz.prog 73:=⟨Tryz.f73,Tryz.func73,rfl,rfl⟩
theorem Nh:aw Tryz.prog 74:=⟨Tryz.f74,Tryz.func74,rfl,rfl⟩
theorem rK:aw Tryz.prog 75:=⟨Tryz.f75,Tryz.func75,rfl,rfl⟩
theorem Qe:aw Tryz.prog 76:=⟨Tryz.f76,Tryz.func76,rfl,rfl⟩
theorem Qd:aw Tryz.prog 77:=⟨Tryz.f77,Tryz.func77,rfl,rfl⟩
theorem Ng:aw Tryz.prog 78:=⟨Tryz.f78,Tryz.func78,rfl,rfl⟩
theorem Qc:aw Tryz.prog 79:=⟨Tryz.f79,Tryz.func79,rfl,rfl⟩
theorem Qb:aw Tryz.prog 80:=⟨Tryz.f80,Tryz.func80,rfl,rfl⟩
theorem Nf:aw Tryz.prog 81:=⟨Tryz.f81,Tryz.func81,rfl,rfl⟩
theorem IY:aw Tryz.prog 82:=⟨Tryz.f82,Tryz.func82,rfl,rfl⟩
theorem Nd:aw Tryz.prog 83:=⟨Tryz.f83,Tryz.func83,rfl,rfl⟩
theorem Nc:aw Tryz.prog 84:=⟨Tryz.f84,Tryz.func84,rfl,rfl⟩
theorem wo:aw Tryz.prog 85:=⟨Tryz.f85,Tryz.func85,rfl,rfl⟩
theorem Nb:aw Tryz.prog 86:=⟨Tryz.f86,Tryz.func86,rfl,rfl⟩
theorem wn:aw Tryz.prog 87:=⟨Tryz.f87,Tryz.func87,rfl,rfl⟩
theorem Na:aw Tryz.prog 90:=⟨Tryz.f90,Tryz.func90,rfl,rfl⟩
theorem uu:aw Tryz.prog 91:=⟨Tryz.f91,Tryz.func91,rfl,rfl⟩
theorem Qa:aw Tryz.prog 92:=⟨Tryz.f92,Tryz.func92,rfl,rfl⟩
theorem Bj:aw Tryz.prog 94:=⟨Tryz.f94,Tryz.func94,rfl,rfl⟩
theorem Bi:aw Tryz.prog 95:=⟨Tryz.f95,Tryz.func95,rfl,rfl⟩
theorem yn:aw Tryz.prog 96:=⟨Tryz.f96,Tryz.func96,rfl,rfl⟩
theorem GG:aw Tryz.prog 97:=⟨Tryz.f97,Tryz.func97,rfl,rfl⟩
theorem Pp:aw Tryz.prog 100:=⟨Tryz.f100,Tryz.func100,rfl,rfl⟩
theorem Po:aw Tryz.prog 101:=⟨Tryz.f101,Tryz.func101,rfl,rfl⟩
theorem Pn:aw Tryz.prog 103:=⟨Tryz.f103,Tryz.func103,rfl,rfl⟩
theorem Ka:aw Tryz.prog 105:=⟨Tryz.f105,Tryz.func105,rfl,rfl⟩
theorem GP:aw Tryz.prog 106:=⟨Tryz.f106,Tryz.func106,rfl,rfl⟩
theorem Pm:aw Tryz.prog 107:=⟨Tryz.f107,Sd,rfl,rfl⟩
theorem Pk:aw Tryz.prog 108:=⟨Tryz.f108,Tryz.func108,rfl,rfl⟩
theorem J9:aw Tryz.prog 109:=⟨Tryz.f109,Tryz.func109,rfl,rfl⟩
theorem Pj:aw Tryz.prog 110:=⟨Tryz.f110,Tryz.func110,rfl,rfl⟩
theorem Pi:aw Tryz.prog 116:=⟨Tryz.f116,Tryz.func116,rfl,rfl⟩
theorem J8:aw Tryz.prog 117:=⟨Tryz.f117,Tryz.func117,rfl,rfl⟩
theorem J7:aw Tryz.prog 118:=⟨Tryz.f118,Tryz.func118,rfl,rfl⟩
theorem J6:aw Tryz.prog 119:=⟨Tryz.f119,Tryz.func119,rfl,rfl⟩
theorem CE:aw Tryz.prog 120:=⟨Tryz.f120,Tryz.func120,rfl,rfl⟩
theorem Ph:aw Tryz.prog 122:=⟨Tryz.f122,Tryz.func122,rfl,rfl⟩
theorem GO:aw Tryz.prog 130:=⟨Tryz.f130,Tryz.func130,rfl,rfl⟩
theorem Pg:aw Tryz.prog 131:=⟨Tryz.f131,Tryz.func131,rfl,rfl⟩
theorem Pf:aw Tryz.prog 133:=⟨Tryz.f133,Tryz.func133,rfl,rfl⟩
theorem Pe:aw Tryz.prog 134:=⟨Tryz.f134,Tryz.func134,rfl,rfl⟩
theorem Pd:aw Tryz.prog 135:=⟨Tryz.f135,Tryz.func135,rfl,rfl⟩
theorem GN:aw Tryz.prog 136:=⟨Tryz.f136,Tryz.func136,rfl,rfl⟩
theorem Pc:aw Tryz.prog 137:=⟨Tryz.f137,Tryz.func137,rfl,rfl⟩
theorem J5:aw Tryz.prog 138:=⟨Tryz.f138,Tryz.func138,rfl,rfl⟩
theorem CD:aw Tryz.prog 139:=⟨Tryz.f139,Tryz.func139,rfl,rfl⟩
theorem J4:aw Tryz.prog 140:=⟨Tryz.f140,Tryz.func140,rfl,rfl⟩
theorem GM:aw Tryz.prog 141:=⟨Tryz.f141,Tryz.func141,rfl,rfl⟩
theorem Ae:aw Tryz.prog 142:=⟨Tryz.f142,Tryz.func142,rfl,rfl⟩
theorem Ad:aw Tryz.prog 143:=⟨Tryz.f143,Tryz.func143,rfl,rfl⟩
theorem J3:aw Tryz.prog 144:=⟨Tryz.f144,Tryz.func144,rfl,rfl⟩
theorem Pb:aw Tryz.prog 145:=⟨Tryz.f145,Tryz.func145,rfl,rfl⟩
theorem Pa:aw Tryz.prog 148:=⟨Tryz.f148,Tryz.func148,rfl,rfl⟩
theorem sC:aw Tryz.prog 154:=⟨Tryz.f154,Tryz.func154,rfl,rfl⟩
theorem CC:aw Tryz.prog 155:=⟨Tryz.f155,Tryz.func155,rfl,rfl⟩
theorem CB:aw Tryz.prog 156:=⟨Tryz.f156,Tryz.func156,rfl,rfl⟩
theorem O9:aw Tryz.prog 157:=⟨Tryz.f157,Tryz.func157,rfl,rfl⟩
theorem O8:aw Tryz.prog 158:=⟨Tryz.f158,Tryz.func158,rfl,rfl⟩
theorem O7:aw Tryz.prog 159:=⟨Tryz.f159,Tryz.func159,rfl,rfl⟩
theorem O6:aw Tryz.prog 160:=⟨Tryz.f160,Tryz.func160,rfl,rfl⟩
theorem J2:aw Tryz.prog 161:=⟨Tryz.f161,Tryz.func161,rfl,rfl⟩
theorem O5:aw Tryz.prog 162:=⟨Tryz.f162,Tryz.func162,rfl,rfl⟩
theorem J1:aw Tryz.prog 163:=⟨Tryz.f163,Tryz.func163,rfl,rfl⟩
theorem O4:aw Tryz.prog 164:=⟨Tryz.f164,Tryz.func164,rfl,rfl⟩
theorem J0:aw Tryz.prog 165:=⟨Tryz.f165,Tryz.func165,rfl,rfl⟩
theorem JZ:aw Tryz.prog 166:=⟨Tryz.f166,Tryz.func166,rfl,rfl⟩
theorem JY:aw Tryz.prog 167:=⟨Tryz.f167,Tryz.func167,rfl,rfl⟩
theorem JX:aw Tryz.prog 168:=⟨Tryz.f168,Tryz.func168,rfl,rfl⟩
theorem O3:aw Tryz.prog 169:=⟨Tryz.f169,Tryz.func169,rfl,rfl⟩
theorem O2:aw Tryz.prog 170:=⟨Tryz.f170,Tryz.func170,rfl,rfl⟩
theorem O1:aw Tryz.prog 171:=⟨Tryz.f171,Tryz.func171,rfl,rfl⟩
theorem O0:aw Tryz.prog 172:=⟨Tryz.f172,Tryz.func172,rfl,rfl⟩
theorem JW:aw Tryz.prog 173:=⟨Tryz.f173,Tryz.func173,rfl,rfl⟩
theorem OZ:aw Tryz.prog 176:=⟨Tryz.f176,Tryz.func176,rfl,rfl⟩
theorem GK:aw Tryz.prog 177:=⟨Tryz.f177,Tryz.func177,rfl,rfl⟩
theorem OY:aw Tryz.prog 178:=⟨Tryz.f178,Tryz.func178,rfl,rfl⟩
theorem JV:aw Tryz.prog 181:=⟨Tryz.f181,Tryz.func181,rfl,rfl⟩
theorem JU:aw Tryz.prog 182:=⟨Tryz.f182,Tryz.func182,rfl,rfl⟩
theorem OX:aw Tryz.prog 187:=⟨Tryz.f187,Tryz.func187,rfl,rfl⟩
theorem JT:aw Tryz.prog 188:=⟨Tryz.f188,Tryz.func188,rfl,rfl⟩
theorem JS:aw Tryz.prog 189:=⟨Tryz.f189,Tryz.func189,rfl,rfl⟩
theorem OW:aw Tryz.prog 190:=⟨Tryz.f190,Tryz.func190,rfl,rfl⟩
theorem OV:aw Tryz.prog 191:=⟨Tryz.f191,Tryz.func191,rfl,rfl⟩
theorem OU:aw Tryz.prog 192:=⟨Tryz.f192,Tryz.func192,rfl,rfl⟩
theorem OT:aw Tryz.prog 193:=⟨Tryz.f193,Tryz.func193,rfl,rfl⟩
theorem OS:aw Tryz.prog 194:=⟨Tryz.f194,Tryz.func194,rfl,rfl⟩
theorem OR:aw Tryz.prog 195:=⟨Tryz.f195,Tryz.func195,rfl,rfl⟩
theorem JR:aw Tryz.prog 201:=⟨Tryz.f201,Tryz.func201,rfl,rfl⟩
theorem OQ:aw Tryz.prog 202:=⟨Tryz.f202,Tryz.func202,rfl,rfl⟩
theorem OP:aw Tryz.prog 203:=⟨Tryz.f203,Tryz.func203,rfl,rfl⟩
theorem JQ:aw Tryz.prog 204:=⟨Tryz.f204,Tryz.func204,rfl,rfl⟩
theorem OO:aw Tryz.prog 205:=⟨Tryz.f205,Tryz.func205,rfl,rfl⟩
theorem ON:aw Tryz.prog 206:=⟨Tryz.f206,Tryz.func206,rfl,rfl⟩
theorem JP:aw Tryz.prog 207:=⟨Tryz.f207,Tryz.func207,rfl,rfl⟩
theorem OM:aw Tryz.prog 208:=⟨Tryz.f208,Tryz.func208,rfl,rfl⟩
theorem JO:aw Tryz.prog 209:=⟨Tryz.f209,Tryz.func209,rfl,rfl⟩
theorem CA:aw Tryz.prog 210:=⟨Tryz.f210,Tryz.func210,rfl,rfl⟩
theorem JN:aw Tryz.prog 211:=⟨Tryz.f211,Tryz.func211,rfl,rfl⟩
theorem OL:aw Tryz.prog 212:=⟨Tryz.f212,Tryz.func212,rfl,rfl⟩
theorem OK:aw Tryz.prog 213:=⟨Tryz.f213,Sh,rfl,rfl⟩
theorem GI:aw Tryz.prog 214:=⟨Tryz.f214,Tryz.func214,rfl,rfl⟩
theorem OJ:aw Tryz.prog 219:=⟨Tryz.f219,Tryz.func219,rfl,rfl⟩
theorem OI:aw Tryz.prog 220:=⟨Tryz.f220,Se,rfl,rfl⟩
theorem JM:aw Tryz.prog 221:=⟨Tryz.f221,Si,rfl,rfl⟩
theorem JL:aw Tryz.prog 222:=⟨Tryz.f222,Tryz.func222,rfl,rfl⟩
theorem JK:aw Tryz.prog 223:=⟨Tryz.f223,Tryz.func223,rfl,rfl⟩
theorem OH:aw Tryz.prog 224:=⟨Tryz.f224,Tryz.func224,rfl,rfl⟩
theorem wW:aw Tryz.prog 225:=⟨Tryz.f225,Tryz.func225,rfl,rfl⟩
theorem wV:aw Tryz.prog 226:=⟨Tryz.f226,Tryz.func226,rfl,rfl⟩
theorem JJ:aw Tryz.prog 227:=⟨Tryz.f227,Tryz.func227,rfl,rfl⟩
theorem JI:aw Tryz.prog 239:=⟨Tryz.f239,Tryz.func239,rfl,rfl⟩
theorem OG:aw Tryz.prog 240:=⟨Tryz.f240,Tryz.func240,rfl,rfl⟩
theorem OF:aw Tryz.prog 241:=⟨Tryz.f241,Tryz.func241,rfl,rfl⟩
theorem OE:aw Tryz.prog 242:=⟨Tryz.f242,Tryz.func242,rfl,rfl⟩
theorem wU:aw Tryz.prog 243:=⟨Tryz.f243,Tryz.func243,rfl,rfl⟩
theorem wT:aw Tryz.prog 244:=⟨Tryz.f244,Tryz.func244,rfl,rfl⟩
theorem JH:aw Tryz.prog 245:=⟨Tryz.f245,Tryz.func245,rfl,rfl⟩
theorem OD:aw Tryz.prog 246:=⟨Tryz.f246,Tryz.func246,rfl,rfl⟩
theorem JG:aw Tryz.prog 254:=⟨Tryz.f254,Sc,rfl,rfl⟩
theorem OC:aw Tryz.prog 255:=⟨Tryz.f255,Tryz.func255,rfl,rfl⟩
theorem JF:aw Tryz.prog 261:=⟨Tryz.f261,Tryz.func261,rfl,rfl⟩
theorem OB:aw Tryz.prog 265:=⟨Tryz.f265,Tryz.func265,rfl,rfl⟩
theorem Ox (b o:Nat)(w:World):(Instr.fieldAt 29 (pV b o) 0).run Tryz.prog w=.ok (pV b o) w:=by kernel_rfl
theorem Jz (b o:Nat)(w:World):(Instr.fieldAt 29 (pV b o) 1).run Tryz.prog w=.ok (.pointer (some ⟨b,o+1,none⟩)) w:=by kernel_rfl
theorem Jy (b o:Nat)(w:World):(Instr.fieldAt 29 (pV b o) 2).run Tryz.prog w=.ok (.pointer (some ⟨b,o+2,none⟩)) w:=by kernel_rfl
theorem ul (b o:Nat)(w:World):(Instr.fieldAt 36 (pV b o) 0).run Tryz.prog w=.ok (pV b o) w:=by kernel_rfl
theorem sv (b o:Nat)(w:World):(Instr.fieldAt 36 (pV b o) 1).run Tryz.prog w=.ok (.pointer (some ⟨b,o+1,none⟩)) w:=by kernel_rfl
theorem Ow (b o:Nat)(w:World):(Instr.fieldAt 47 (pV b o) 0).run Tryz.prog w=.ok (pV b o) w:=by kernel_rfl
theorem Ov (b o:Nat)(w:World):(Instr.fieldAt 47 (pV b o) 1).run Tryz.prog w=.ok (.pointer (some ⟨b,o+1,none⟩)) w:=by kernel_rfl
theorem Ou (b o:Nat)(w:World):(Instr.fieldAt 47 (pV b o) 2).run Tryz.prog w=.ok (.pointer (some ⟨b,o+2,none⟩)) w:=by kernel_rfl
theorem zS (b o:Nat)(w:World):(Instr.fieldAt 47 (pV b o) 3).run Tryz.prog w=.ok (.pointer (some ⟨b,o+3,none⟩)) w:=by kernel_rfl
theorem zQ (b o:Nat)(w:World):(Instr.fieldAt 47 (pV b o) 4).run Tryz.prog w=.ok (.pointer (some ⟨b,o+4,none⟩)) w:=by kernel_rfl
theorem iD (b o:Nat)(w:World):(Instr.fieldAt 47 (pV b o) 5).run Tryz.prog w=.ok (.pointer (some ⟨b,o+5,none⟩)) w:=by kernel_rfl
theorem fR (b o:Nat)(w:World):(Instr.fieldAt 52 (pV b o) 0).run Tryz.prog w=.ok (pV b o) w:=by kernel_rfl
theorem jB (b o:Nat)(w:World):(Instr.fieldAt 52 (pV b o) 1).run Tryz.prog w=.ok (.pointer (some ⟨b,o+1,none⟩)) w:=by kernel_rfl
theorem GB (b o:Nat)(w:World):(Instr.fieldAt 52 (pV b o) 2).run Tryz.prog w=.ok (.pointer (some ⟨b,o+2,none⟩)) w:=by kernel_rfl
theorem jd (b o:Nat)(w:World):(Instr.fieldAt 86 (pV b o) 0).run Tryz.prog w=.ok (pV b o) w:=by kernel_rfl
theorem ox (b o:Nat)(w:World):(Instr.fieldAt 86 (pV b o) 1).run Tryz.prog w=.ok (.pointer (some ⟨b,o+2,none⟩)) w:=by kernel_rfl
theorem su (b o:Nat)(w:World):(Instr.fieldAt 86 (pV b o) 2).run Tryz.prog w=.ok (.pointer (some ⟨b,o+3,none⟩)) w:=by kernel_rfl
theorem uk (b o:Nat)(w:World):(Instr.fieldAt 86 (pV b o) 3).run Tryz.prog w=.ok (.pointer (some ⟨b,o+4,none⟩)) w:=by kernel_rfl
theorem tL (b o:Nat)(w:World):(Instr.fieldAt 103 (pV b o) 0).run Tryz.prog w=.ok (pV b o) w:=by kernel_rfl
theorem rv (b o:Nat)(w:World):(Instr.fieldAt 103 (pV b o) 1).run Tryz.prog w=.ok (.pointer (some ⟨b,o+2,none⟩)) w:=by kernel_rfl
theorem HL (b o:Nat)(w:World):(Instr.fieldAt 128 (pV b o) 0).run Tryz.prog w=.ok (pV b o) w:=by kernel_rfl
theorem zT (b o:Nat)(w:World):(Instr.fieldAt 128 (pV b o) 1).run Tryz.prog w=.ok (.pointer (some ⟨b,o+2,none⟩)) w:=by kernel_rfl
theorem ML (b o:Nat)(w:World):(Instr.fieldAt 128 (pV b o) 2).run Tryz.prog w=.ok (.pointer (some ⟨b,o+3,none⟩)) w:=by kernel_rfl
theorem D0 (b o:Nat)(w:World):(Instr.fieldAt 128 (pV b o) 3).run Tryz.prog w=.ok (.pointer (some ⟨b,o+4,none⟩)) w:=by kernel_rfl
theorem HK (b o:Nat)(w:World):(Instr.fieldAt 153 (pV b o) 0).run Tryz.prog w=.ok (pV b o) w:=by kernel_rfl
theorem HJ (b o:Nat)(w:World):(Instr.fieldAt 153 (pV b o) 1).run Tryz.prog w=.ok (.pointer (some ⟨b,o+2,none⟩)) w:=by kernel_rfl
theorem pI (b o:Nat)(w:World):(Instr.fieldAt 153 (pV b o) 2).run Tryz.prog w=.ok (.pointer (some ⟨b,o+3,none⟩)) w:=by kernel_rfl
theorem MK (b o:Nat)(w:World):(Instr.fieldAt 153 (pV b o) 3).run Tryz.prog w=.ok (.pointer (some ⟨b,o+4,none⟩)) w:=by kernel_rfl
theorem DZ (b o:Nat)(w:World):(Instr.fieldAt 153 (pV b o) 4).run Tryz.prog w=.ok (.pointer (some ⟨b,o+5,none⟩)) w:=by kernel_rfl
theorem MJ (b o:Nat)(w:World):(Instr.fieldAt 157 (pV b o) 0).run Tryz.prog w=.ok (pV b o) w:=by kernel_rfl
theorem cX:ly Tryz.prog 3=true:=by kernel_rfl
theorem Hr:ly Tryz.prog 4=true:=by kernel_rfl
theorem PQ:ly Tryz.prog 9=true:=by kernel_rfl
theorem js:ly Tryz.prog 23=true:=by kernel_rfl
theorem Hs:ly Tryz.prog 24=true:=by kernel_rfl
theorem lL:ly Tryz.prog 34=true:=by kernel_rfl
theorem eu:ly Tryz.prog 38=true:=by kernel_rfl
theorem BD:ly Tryz.prog 66=true:=by kernel_rfl
theorem QD:ly Tryz.prog 97=true:=by kernel_rfl
theorem PS:ly Tryz.prog 126=true:=by kernel_rfl
theorem PR:ly Tryz.prog 129=true:=by kernel_rfl
theorem AO:ly Tryz.prog 137=true:=by kernel_rfl
theorem ID:ly Tryz.prog 151=true:=by kernel_rfl
theorem PH:yq Tryz.prog 29 3=true:=by kernel_rfl
theorem cU:yq Tryz.prog 36 2=true:=by kernel_rfl
theorem bh:yq Tryz.prog 47 6=true:=by kernel_rfl
theorem bY:yq Tryz.prog 52 3=true:=by kernel_rfl
theorem yr:yq Tryz.prog 103 3=true:=by kernel_rfl
theorem dp:fM Tryz.prog 3 1=true:=by kernel_rfl
theorem Bq:fM Tryz.prog 4 1=true:=by kernel_rfl
theorem sJ:fM Tryz.prog 23 1=true:=by kernel_rfl
theorem LQ:fM Tryz.prog 29 3=true:=by kernel_rfl
theorem sI:fM Tryz.prog 34 1=true:=by kernel_rfl
theorem eF:fM Tryz.prog 36 2=true:=by kernel_rfl
theorem dA:fM Tryz.prog 38 1=true:=by kernel_rfl
theorem bF:fM Tryz.prog 47 6=true:=by kernel_rfl
theorem aP:fM Tryz.prog 52 3=true:=by kernel_rfl
theorem FY:fM Tryz.prog 103 3=true:=by kernel_rfl
theorem N4:fM Tryz.prog 129 1=true:=by kernel_rfl
theorem N3:fM Tryz.prog 137 1=true:=by kernel_rfl
theorem N2:fM Tryz.prog 151 1=true:=by kernel_rfl
theorem Ji:fM Tryz.prog 210 0=true:=by kernel_rfl
theorem I8 (w:World):(zeroValue 3).run Tryz.prog w=.ok (iV 0) w:=by kernel_rfl
theorem GY (w:World):(zeroValue 4).run Tryz.prog w=.ok (.bool false) w:=by kernel_rfl
theorem Ic (w:World):(zeroValue 23).run Tryz.prog w=.ok (O none 0 0) w:=by kernel_rfl
theorem nh (w:World):(zeroValue 36).run Tryz.prog w=.ok (.agg #[O none 0 0,O none 0 0]) w:=by kernel_rfl
theorem LH (w:World):(zeroValue 38).run Tryz.prog w=.ok (O none 0 0) w:=by kernel_rfl
theorem dI (w:World):(zeroValue 47).run Tryz.prog w=.ok (.agg #[iV 0,iV 0,iV 0,iV 0,O none 0 0,O none 0 0]) w:=by kernel_rfl
theorem jD (w:World):(zeroValue 52).run Tryz.prog w=.ok (.agg #[iV 0,iV 0,.string ⟨#[]⟩]) w:=by kernel_rfl
theorem FQ (w:World):(zeroValue 103).run Tryz.prog w=.ok (.agg #[O none 0 0,O none 0 0,O none 0 0]) w:=by kernel_rfl
theorem NU (w:World):(zeroValue 129).run Tryz.prog w=.ok (.pointer none) w:=by kernel_rfl
theorem NT (w:World):(zeroValue 137).run Tryz.prog w=.ok (.map none) w:=by kernel_rfl
theorem NS (w:World):(zeroValue 151).run Tryz.prog w=.ok (.map none) w:=by kernel_rfl
theorem Cm (w:World):(zeroValue 210).run Tryz.prog w=.ok (.agg #[]) w:=by kernel_rfl
theorem MH (x0_:Int)(x1_:Int)(x2_:Int)(x3_:Int)(x4_a:Option Addr)(x4_n x4_c:Nat)(x5_a:Option Addr)(x5_n x5_c:Nat)(w:World):(Instr.field 47 (.agg #[iV x0_,iV x1_,iV x2_,iV x3_,.slice x4_a x4_n x4_c,.slice x5_a x5_n x5_c]) 3).run Tryz.prog w=.ok (iV x3_) w:=by kernel_rfl
theorem MG (x0_:Int)(x1_:Int)(x2_:Int)(x3_:Int)(x4_a:Option Addr)(x4_n x4_c:Nat)(x5_a:Option Addr)(x5_n x5_c:Nat)(w:World):(Instr.field 47 (.agg #[iV x0_,iV x1_,iV x2_,iV x3_,.slice x4_a x4_n x4_c,.slice x5_a x5_n x5_c]) 5).run Tryz.prog w=.ok (.slice x5_a x5_n x5_c) w:=by kernel_rfl
theorem Kb  (w:World):(Instr.build 29 #[]).run Tryz.prog w=.ok (.agg #[iV 0,iV 0,iV 0]) w:=by kernel_rfl
theorem GR  (w:World):(Instr.build 36 #[]).run Tryz.prog w=.ok (.agg #[O none 0 0,O none 0 0]) w:=by kernel_rfl
theorem Ei (x0_a:Option Addr)(x0_n x0_c:Nat)(x1_a:Option Addr)(x1_n x1_c:Nat)(w:World):(Instr.build 36 #[(0,.slice x0_a x0_n x0_c),(1,.slice x1_a x1_n x1_c)]).run Tryz.prog w=.ok (.agg #[.slice x0_a x0_n x0_c,.slice x1_a x1_n x1_c]) w:=by kernel_rfl
theorem wY  (w:World):(Instr.build 47 #[]).run Tryz.prog w=.ok (.agg #[iV 0,iV 0,iV 0,iV 0,O none 0 0,O none 0 0]) w:=by kernel_rfl
theorem Eh (x0_:Int)(x1_:Int)(x2_:Int)(x3_:Int)(w:World):(Instr.build 47 #[(0,iV x0_),(1,iV x1_),(2,iV x2_),(3,iV x3_)]).run Tryz.prog w=.ok (.agg #[iV x0_,iV x1_,iV x2_,iV x3_,O none 0 0,O none 0 0]) w:=by kernel_rfl
theorem Eg (x0_:Int)(x2_:Int)(x4_a:Option Addr)(x4_n x4_c:Nat)(x5_a:Option Addr)(x5_n x5_c:Nat)(w:World):(Instr.build 47 #[(0,iV x0_),(2,iV x2_),(4,.slice x4_a x4_n x4_c),(5,.slice x5_a x5_n x5_c)]).run Tryz.prog w=.ok (.agg #[iV x0_,iV 0,iV x2_,iV 0,.slice x4_a x4_n x4_c,.slice x5_a x5_n x5_c]) w:=by kernel_rfl
theorem I2 (x0_:Int)(x5_a:Option Addr)(x5_n x5_c:Nat)(w:World):(Instr.build 47 #[(0,iV x0_),(5,.slice x5_a x5_n x5_c)]).run Tryz.prog w=.ok (.agg #[iV x0_,iV 0,iV 0,iV 0,O none 0 0,.slice x5_a x5_n x5_c]) w:=by kernel_rfl
theorem ND (x5_a:Option Addr)(x5_n x5_c:Nat)(w:World):(Instr.build 47 #[(5,.slice x5_a x5_n x5_c)]).run Tryz.prog w=.ok (.agg #[iV 0,iV 0,iV 0,iV 0,O none 0 0,.slice x5_a x5_n x5_c]) w:=by kernel_rfl
theorem wX  (w:World):(Instr.build 52 #[]).run Tryz.prog w=.ok (.agg #[iV 0,iV 0,.string ⟨#[]⟩]) w:=by kernel_rfl
theorem NC (x0_:Int)(w:World):(Instr.build 52 #[(0,iV x0_)]).run Tryz.prog w=.ok (.agg #[iV x0_,iV 0,.string ⟨#[]⟩]) w:=by kernel_rfl
theorem yp (x0_:Int)(x1_:Int)(w:World):(Instr.build 52 #[(0,iV x0_),(1,iV x1_)]).run Tryz.prog w=.ok (.agg #[iV x0_,iV x1_,.string ⟨#[]⟩]) w:=by kernel_rfl
theorem NB (x3_:Option Addr)(w:World):(Instr.build 86 #[(3,.pointer x3_)]).run Tryz.prog w=.ok (.agg #[O none 0 0,O none 0 0,O none 0 0,O none 0 0,.pointer x3_]) w:=by kernel_rfl
theorem H3 (x0_0_a:Option Addr)(x0_0_n x0_0_c:Nat)(x0_1_a:Option Addr)(x0_1_n x0_1_c:Nat)(x1_a:Option Addr)(x1_n x1_c:Nat)(w:World):(Instr.build 103 #[(0,.agg #[.slice x0_0_a x0_0_n x0_0_c,.slice x0_1_a x0_1_n x0_1_c]),(1,.slice x1_a x1_n x1_c)]).run Tryz.prog w=.ok (.agg #[.slice x0_0_a x0_0_n x0_0_c,.slice x0_1_a x0_1_n x0_1_c,.slice x1_a x1_n x1_c]) w:=by kernel_rfl
theorem H2 (x0_0_a:Option Addr)(x0_0_n x0_0_c:Nat)(x0_1_a:Option Addr)(x0_1_n x0_1_c:Nat)(x2_:Option Nat)(w:World):(Instr.build 128 #[(0,.agg #[.slice x0_0_a x0_0_n x0_0_c,.slice x0_1_a x0_1_n x0_1_c]),(2,.map x2_)]).run Tryz.prog w=.ok (.agg #[.slice x0_0_a x0_0_n x0_0_c,.slice x0_1_a x0_1_n x0_1_c,O none 0 0,.map x2_,iV 0]) w:=by kernel_rfl
theorem EL (x0_0_a:Option Addr)(x0_0_n x0_0_c:Nat)(x0_1_a:Option Addr)(x0_1_n x0_1_c:Nat)(x1_a:Option Addr)(x1_n x1_c:Nat)(x3_:Option Nat)(w:World):(Instr.build 153 #[(0,.agg #[.slice x0_0_a x0_0_n x0_0_c,.slice x0_1_a x0_1_n x0_1_c]),(1,.slice x1_a x1_n x1_c),(3,.map x3_)]).run Tryz.prog w=.ok (.agg #[.slice x0_0_a x0_0_n x0_0_c,.slice x0_1_a x0_1_n x0_1_c,.slice x1_a x1_n x1_c,O none 0 0,.map x3_,iV 0]) w:=by kernel_rfl
theorem Ls (x0_:Option Nat)(w:World):(Instr.build 157 #[(0,.map x0_)]).run Tryz.prog w=.ok (.agg #[.map x0_]) w:=by kernel_rfl
theorem H1  (w:World):(Instr.build 210 #[]).run Tryz.prog w=.ok (.agg #[]) w:=by kernel_rfl
theorem NA  (w:World):(Instr.buildSlice 23 0 #[]).run Tryz.prog w=.ok (.slice (some ⟨w.heap.size,0,none⟩) 0 0) (w.alloc (.cells #[] 3)):=by kernel_rfl
theorem iy (x0_:Int)(w:World):(Instr.buildSlice 23 1 #[(0,iV x0_)]).run Tryz.prog w=.ok (.slice (some ⟨w.heap.size,0,none⟩) 1 1) (w.alloc (.cells #[iV x0_] 3)):=by kernel_rfl
theorem Nz (x0_:Int)(x1_:Int)(w:World):(Instr.buildSlice 23 2 #[(0,iV x0_),(1,iV x1_)]).run Tryz.prog w=.ok (.slice (some ⟨w.heap.size,0,none⟩) 2 2) (w.alloc (.cells #[iV x0_,iV x1_] 3)):=by kernel_rfl
theorem Ny  (w:World):(Instr.buildSlice 34 0 #[]).run Tryz.prog w=.ok (.slice (some ⟨w.heap.size,0,none⟩) 0 0) (w.alloc (.cells #[] 47)):=by kernel_rfl
theorem rM (x0_0_:Int)(x0_1_:Int)(x0_2_:Int)(x0_3_:Int)(x0_4_a:Option Addr)(x0_4_n x0_4_c:Nat)(x0_5_a:Option Addr)(x0_5_n x0_5_c:Nat)(w:World):(Instr.buildSlice 34 1 #[(0,.agg #[iV x0_0_,iV x0_1_,iV x0_2_,iV x0_3_,.slice x0_4_a x0_4_n x0_4_c,.slice x0_5_a x0_5_n x0_5_c])]).run Tryz.prog w=.ok (.slice (some ⟨w.heap.size,0,none⟩) 1 1) (w.alloc (.cells #[iV x0_0_,iV x0_1_,iV x0_2_,iV x0_3_,.slice x0_4_a x0_4_n x0_4_c,.slice x0_5_a x0_5_n x0_5_c] 47)):=by kernel_rfl
theorem Ef  (w:World):(Instr.buildSlice 38 0 #[]).run Tryz.prog w=.ok (.slice (some ⟨w.heap.size,0,none⟩) 0 0) (w.alloc (.cells #[] 52)):=by kernel_rfl
theorem rL (x0_0_:Int)(x0_1_:Int)(x0_2_:ByteArray)(w:World):(Instr.buildSlice 38 1 #[(0,.agg #[iV x0_0_,iV x0_1_,.string x0_2_])]).run Tryz.prog w=.ok (.slice (some ⟨w.heap.size,0,none⟩) 1 1) (w.alloc (.cells #[iV x0_0_,iV x0_1_,.string x0_2_] 52)):=by kernel_rfl
theorem Af (x0_0_:Int)(x0_1_:Int)(x0_2_:ByteArray)(x1_0_:Int)(x1_1_:Int)(x1_2_:ByteArray)(w:World):(Instr.buildSlice 38 2 #[(0,.agg #[iV x0_0_,iV x0_1_,.string x0_2_]),(1,.agg #[iV x1_0_,iV x1_1_,.string x1_2_])]).run Tryz.prog w=.ok (.slice (some ⟨w.heap.size,0,none⟩) 2 2) (w.alloc (.cells #[iV x0_0_,iV x0_1_,.string x0_2_,iV x1_0_,iV x1_1_,.string x1_2_] 52)):=by kernel_rfl
theorem Nx (x0_0_:Int)(x0_1_:Int)(x0_2_:ByteArray)(x1_0_:Int)(x1_1_:Int)(x1_2_:ByteArray)(x2_0_:Int)(x2_1_:Int)(x2_2_:ByteArray)(w:World):(Instr.buildSlice 38 3 #[(0,.agg #[iV x0_0_,iV x0_1_,.string x0_2_]),(1,.agg #[iV x1_0_,iV x1_1_,.string x1_2_]),(2,.agg #[iV x2_0_,iV x2_1_,.string x2_2_])]).run Tryz.prog w=.ok (.slice (some ⟨w.heap.size,0,none⟩) 3 3) (w.alloc (.cells #[iV x0_0_,iV x0_1_,.string x0_2_,iV x1_0_,iV x1_1_,.string x1_2_,iV x2_0_,iV x2_1_,.string x2_2_] 52)):=by kernel_rfl
theorem Nw (x0_0_:Int)(x0_1_:Int)(x0_2_:ByteArray)(x1_0_:Int)(x1_1_:Int)(x1_2_:ByteArray)(x2_0_:Int)(x2_1_:Int)(x2_2_:ByteArray)(x3_0_:Int)(x3_1_:Int)(x3_2_:ByteArray)(w:World):(Instr.buildSlice 38 4 #[(0,.agg #[iV x0_0_,iV x0_1_,.string x0_2_]),(1,.agg #[iV x1_0_,iV x1_1_,.string x1_2_]),(2,.agg #[iV x2_0_,iV x2_1_,.string x2_2_]),(3,.agg #[iV x3_0_,iV x3_1_,.string x3_2_])]).run Tryz.prog w=.ok (.slice (some ⟨w.heap.size,0,none⟩) 4 4) (w.alloc (.cells #[iV x0_0_,iV x0_1_,.string x0_2_,iV x1_0_,iV x1_1_,.string x1_2_,iV x2_0_,iV x2_1_,.string x2_2_,iV x3_0_,iV x3_1_,.string x3_2_] 52)):=by kernel_rfl
theorem Bk (x0_a:Option Addr)(x0_n x0_c:Nat)(x1_a:Option Addr)(x1_n x1_c:Nat)(w:World):(Instr.buildSlice 117 2 #[(0,.slice x0_a x0_n x0_c),(1,.slice x1_a x1_n x1_c)]).run Tryz.prog w=.ok (.slice (some ⟨w.heap.size,0,none⟩) 2 2) (w.alloc (.cells #[.slice x0_a x0_n x0_c,.slice x1_a x1_n x1_c] 34)):=by kernel_rfl
theorem kV (x0_a:Option Addr)(x0_n x0_c:Nat)(x1_a:Option Addr)(x1_n x1_c:Nat)(w:World):(Instr.buildSlice 171 2 #[(0,.slice x0_a x0_n x0_c),(1,.slice x1_a x1_n x1_c)]).run Tryz.prog w=.ok (.slice (some ⟨w.heap.size,0,none⟩) 2 2) (w.alloc (.cells #[.slice x0_a x0_n x0_c,.slice x1_a x1_n x1_c] 38)):=by kernel_rfl
theorem Lq (x0_:Bool)(w:World):(Instr.buildSlice 195 1 #[(0,.bool x0_)]).run Tryz.prog w=.ok (.slice (some ⟨w.heap.size,0,none⟩) 1 1) (w.alloc (.cells #[.bool x0_] 4)):=by kernel_rfl
theorem FH (x0_a:Option Addr)(x0_n x0_c:Nat)(x1_a:Option Addr)(x1_n x1_c:Nat)(w:World):(Instr.buildSlice 203 2 #[(0,.slice x0_a x0_n x0_c),(1,.slice x1_a x1_n x1_c)]).run Tryz.prog w=.ok (.slice (some ⟨w.heap.size,0,none⟩) 2 2) (w.alloc (.cells #[.slice x0_a x0_n x0_c,.slice x1_a x1_n x1_c] 23)):=by kernel_rfl
theorem Es:xq Tryz.prog 3 1 8=true:=by kernel_rfl
theorem Rz:xq Tryz.prog 4 1 1=true:=by kernel_rfl
theorem Er:xq Tryz.prog 47 6 80=true:=by kernel_rfl
theorem ta:xq Tryz.prog 52 3 32=true:=by kernel_rfl
instance:Fc (ly Tryz.prog 3=true):=⟨cX⟩
instance:Fc (ly Tryz.prog 4=true):=⟨Hr⟩
instance:Fc (ly Tryz.prog 9=true):=⟨PQ⟩
instance:Fc (ly Tryz.prog 23=true):=⟨js⟩
instance:Fc (ly Tryz.prog 24=true):=⟨Hs⟩
instance:Fc (ly Tryz.prog 34=true):=⟨lL⟩
instance:Fc (ly Tryz.prog 38=true):=⟨eu⟩
instance:Fc (ly Tryz.prog 66=true):=⟨BD⟩
instance:Fc (ly Tryz.prog 97=true):=⟨QD⟩
instance:Fc (ly Tryz.prog 126=true):=⟨PS⟩
instance:Fc (ly Tryz.prog 129=true):=⟨PR⟩
instance:Fc (ly Tryz.prog 137=true):=⟨AO⟩
instance:Fc (ly Tryz.prog 151=true):=⟨ID⟩
instance:FcA0 Tryz.prog 29 0:=⟨Ox⟩
instance:FcA Tryz.prog 29 1 1:=⟨Jz⟩
instance:FcA Tryz.prog 29 2 2:=⟨Jy⟩
instance:FcA0 Tryz.prog 36 0:=⟨ul⟩
instance:FcA Tryz.prog 36 1 1:=⟨sv⟩
instance:FcA0 Tryz.prog 47 0:=⟨Ow⟩
instance:FcA Tryz.prog 47 1 1:=⟨Ov⟩
instance:FcA Tryz.prog 47 2 2:=⟨Ou⟩
instance:FcA Tryz.prog 47 3 3:=⟨zS⟩
instance:FcA Tryz.prog 47 4 4:=⟨zQ⟩
instance:FcA Tryz.prog 47 5 5:=⟨iD⟩
instance:FcA0 Tryz.prog 52 0:=⟨fR⟩
instance:FcA Tryz.prog 52 1 1:=⟨jB⟩
instance:FcA Tryz.prog 52 2 2:=⟨GB⟩
instance:FcA0 Tryz.prog 86 0:=⟨jd⟩
instance:FcA Tryz.prog 86 1 2:=⟨ox⟩
instance:FcA Tryz.prog 86 2 3:=⟨su⟩
instance:FcA Tryz.prog 86 3 4:=⟨uk⟩
instance:FcA0 Tryz.prog 103 0:=⟨tL⟩
instance:FcA Tryz.prog 103 1 2:=⟨rv⟩
instance:FcA0 Tryz.prog 128 0:=⟨HL⟩
instance:FcA Tryz.prog 128 1 2:=⟨zT⟩
instance:FcA Tryz.prog 128 2 3:=⟨ML⟩
instance:FcA Tryz.prog 128 3 4:=⟨D0⟩
instance:FcA0 Tryz.prog 153 0:=⟨HK⟩
instance:FcA Tryz.prog 153 1 2:=⟨HJ⟩
instance:FcA Tryz.prog 153 2 3:=⟨pI⟩
instance:FcA Tryz.prog 153 3 4:=⟨MK⟩
instance:FcA Tryz.prog 153 4 5:=⟨DZ⟩
instance:FcA0 Tryz.prog 157 0:=⟨MJ⟩
theorem K8:Tryz.prog.eqGuardType Tryz.prog.depth 52=false:=by kernel_rfl
theorem Oz (x y:SG)(w:World):(Op.equalIn 10000 52 (.agg #[iV x.Kind,iV x.N,.string x.S]) (.agg #[iV y.Kind,iV y.N,.string y.S])).run Tryz.prog w=.ok (decide (x=y)) w:=by
 obtain ⟨xKind,xN,xS⟩:=x;obtain ⟨yKind,yN,yS⟩:=y;show (Op.equalIn 10000 52 (.agg #[iV xKind,iV xN,.string xS]) (.agg #[iV yKind,iV yN,.string yS])).run Tryz.prog w=_
 go_simp
 simp only [Nv];by_cases h0:xKind=yKind<;>by_cases h1:xN=yN<;>by_cases h2:xS=yS<;>simp [h0,h1,h2]
theorem Lg {s:cB}{C:World→Prop}{d:Option Nat}{ty u:TypeId}{pos:String}{af:Array Edge}{gd:Option (Nat×Bool)}{a b:Operand}{x y:SG}(hx:cJ s a=some (.agg #[iV x.Kind,iV x.N,.string x.S]))(hy:cJ s b=some (.agg #[iV y.Kind,iV y.N,.string y.S])):Ev Tryz.prog s C ⟨d,.binOp .neq 52 a b u,ty,pos,af,gd⟩ (.bool (!decide (x=y))):=
 jN hx hy fun w=>by
  rw [Sem.run_bind,run_eqGuard_agg w _ _ _ _ _ _ K8];simp only [Result.andThen_ok];rw [run_neq_struct,Oz];rfl
def qt (N:Nat):Option SH:=
 some (⟨([]:(List (Int×Bool)))⟩:SH)
theorem Eu {N:Nat}{r:SH}(h:qt N=some r):Okc Tryz.prog 56 [] ([]) (fun u post=> ∃B0 M1,u=pV B0 0∧post=[ax B0 157 [.map (some M1)],bq cC ee M1 r.at_]):=by
 refine bz Tryz.func56 U U ?_;simp only [aR];refine D ?_;refine gD (ue (ek:=cC) (ev:=ee)) ?_;rintro _ _ ⟨M1,rfl,rfl⟩;refine gE (cq U (Ls _)) ?_;refine gD (bd U U) ?_;rintro _ _ ⟨B2,rfl,rfl⟩;refine D ?_;obtain rfl:=ao h;exact aD U U (cS [0,1] 2) ⟨_,_,U,U⟩
def oY (N:Nat):Option SK:=
 (qt N).bind fun y1=>some (⟨(⟨[],[]⟩:SB),[],[],y1⟩:SK)
theorem vX {N:Nat}{r:SK}(h:oY N=some r):Okc Tryz.prog 14 [] ([]) (fun u post=> ∃B0 A1 n1 c1 A2 n2 c2 A3 n3 c3 A4 n4 c4 B5 M6,u=pV B0 0∧post=[ax B0 86 [O A1 n1 c1,O A2 n2 c2,O A3 n3 c3,O A4 n4 c4,pV B5 0],cI A1 n1 c1 r.m_.Young,cI A2 n2 c2 r.m_.Old,bL A3 n3 c3 r.roots_,bL A4 n4 c4 r.pending_,ax B5 157 [.map (some M6)],bq cC ee M6 r.set_.at_]):=by
 refine bz Tryz.func14 U U ?_;simp only [aR];refine D ?_;obtain ⟨y1,hy1,h⟩:=aa h;refine gD (aX (Eu hy1) Qi U (aJ [] [] [] 0 U)) ?_;rintro _ _ ⟨_,⟨B2,M3,rfl,rfl⟩,rfl⟩;refine gE (cq U (NB _)) ?_;refine gD (bd U U) ?_;rintro _ _ ⟨B4,rfl,rfl⟩;refine D ?_;obtain rfl:=ao h;exact aD U U ((ce du 47 _).trans ((ce du 47 _).trans ((ce bv 52 _).trans ((ce bv 52 _).trans (cS [4,3,2,1,0,5,6] 7))))) ⟨_,_,_,_,_,_,_,_,_,_,_,_,_,_,_,U,U⟩
def aW (N:Nat)(a0:SK):Option Bool:=
 some false
theorem cj {N:Nat}{a0:SK}{r:Bool}(h:aW N a0=some r):Okc Tryz.prog 73 [pV B1 0] ([bE B1 86 [O A2 n2 c2,O A3 n3 c3,O A4 n4 c4,O A5 n5 c5,pV B6 0],bC A2 n2 c2 a0.m_.Young,bC A3 n3 c3 a0.m_.Old,bo A4 n4 c4 a0.roots_,bo A5 n5 c5 a0.pending_,bE B6 157 [.map (some M7)],nQ cC ee M7 a0.set_.at_]) (fun u post=>u=.bool r∧post=[]):=by
 refine bz Tryz.func73 U U ?_;simp only [aR];refine D ?_;refine gE (nJ U Sk) ?_;refine D ?_;refine gR (bI 0 U U BD U) ?_;refine gE (nJ U Sm) ?_;refine D ?_;obtain rfl:=ao h;exact aD U U (cS [] 7) ⟨U,U⟩
theorem bT {r:Bool}: ∀v post,((fun (u:Value) (post:List Chunk)=>u=.bool r∧post=[])) v post→ ∀c∈post,cn c:=by
 rintro _ _ ⟨rfl,rfl⟩;exact ad
def kK (N:Nat){σ:Type}(fy:(Bool×SG)→σ→Option (Bool×σ))(a1:SD):Nat→Int→σ→Option σ
 |0,_,_=>none
 |m15+1,p16,p17=>bif decide (p16<(a1.More.length:Int)) then ((aM a1.More p16).bind fun x19=>(bif !decide (a1.Kind=8) then ((bif !decide (a1.Kind=10) then (some true) else (some (decide (p16.tmod 2=0)))).bind fun b22=>some b22) else (some false)).bind fun b21=>(fy (b21,x19) p17).bind fun y23=>bif !y23.1 then (some y23.2) else (bG (in64 (p16+1)) ((kK N fy a1 m15) (p16+1) y23.2))) else (some p17)
def rD (N:Nat){σ:Type}(fy:(Bool×SG)→σ→Option (Bool×σ))(a1:SD)(p5:σ):Option σ:=
 kK N fy a1 N 0 p5
def jR (N:Nat){σ:Type}(fy:(Bool×SG)→σ→Option (Bool×σ))(a1:SD):Nat→Int→σ→Option σ
 |0,_,_=>none
 |m6+1,p7,p8=>bif decide (p7<(a1.Slots.length:Int)) then ((aM a1.Slots p7).bind fun x10=>(fy (true,x10) p8).bind fun y12=>bif !y12.1 then (some y12.2) else (bG (in64 (p7+1)) ((jR N fy a1 m6) (p7+1) y12.2))) else (rD N fy a1 p8)
def mY (N:Nat){σ:Type}(a1:SD)(fy:(Bool×SG)→σ→Option (Bool×σ))(s0:σ):Option σ:=
 jR N fy a1 N 0 s0
theorem wl {N:Nat}{σ:Type}{a1:SD}{fy:(Bool×SG)→σ→Option (Bool×σ)}{s0:σ}{r:σ}(h:mY N a1 fy s0=some r){l:Nat}{G:σ→List Chunk}(hY:sD Tryz.prog l G (fun x=> [.bool x.1,.agg #[iV x.2.Kind,iV x.2.N,.string x.2.S]]) fy):Okc Tryz.prog 223 [.func (.yield l) #[] #[],pV B1 0] (bE B1 47 [iV a1.Kind,iV a1.Shape,iV a1.Flags,iV a1.Age,O A2 n2 c2,O A3 n3 c3]::bo A2 n2 c2 a1.Slots::bo A3 n3 c3 a1.More::(G s0)) (fun u post=>u=.tuple #[]∧post=G r):=by
 refine bz Tryz.func223 U U ?_;simp only [aR];refine aO (fun s L=> ∃p5,rD N fy a1 p5=some r∧s=[(0,.func (.yield l) #[] #[]),(1,pV B1 0)]∧L=bo A2 n2 c2 a1.Slots::bo A3 n3 c3 a1.More::bE B1 47 [iV a1.Kind,iV a1.Shape,iV a1.Flags,iV a1.Age,O A2 n2 c2,O A3 n3 c3]::(G p5)) ?_ ?_
 ·refine D ?_;refine gR (bI 0 U U eu U) ?_;refine gR (aK 1 U aj U Sn) ?_;refine D ?_;refine bp (fun m s L=> ∃p7 p8,jR N fy a1 m p7 p8=some r∧s=[(0,.func (.yield l) #[] #[]),(1,pV B1 0),(9,O A2 n2 c2),(10,iV (a1.Slots.length:Int)),(11,iV p7)]∧L=bo A2 n2 c2 a1.Slots::bo A3 n3 c3 a1.More::bE B1 47 [iV a1.Kind,iV a1.Shape,iV a1.Flags,iV a1.Age,O A2 n2 c2,O A3 n3 c3]::(G p8)) N _ _ ⟨0,s0,h,U,U⟩ sA (cS [1,2,0] 3) ?_;rintro (_|m6) _ _ ⟨p7,p8,h,rfl,rfl⟩
  ·exact aC h
  rw [jR.eq_2] at h;refine D ?_;refine az ?_;refine av U (fun g9=> ?_) (fun g9=> ?_)
  ·replace h:=ae g9 h;refine D ?_;refine az ?_;refine D ?_;obtain ⟨x10,hx10,h⟩:=aa h;obtain ⟨lx10,ux10,hx10⟩:=aq hx10;refine gR (aH 0 U aj U U Sn aP lx10 ux10) ?_;refine gR (bm (us:=[iV x10.Kind,iV x10.N,.string x10.S]) 0 U aj U hx10 bY (fun _ _ _ h=>by rw [show _=_ from h];rfl)) ?_;refine gD (aN jD U) ?_;rintro _ _ ⟨B11,rfl,rfl⟩;refine gO (au (us:=[iV x10.Kind,iV x10.N,.string x10.S]) (cs':=[iV x10.Kind,iV x10.N,.string x10.S]) 0 U U U U aP U U U) ?_;rintro _ _ rfl;refine D ?_;refine gR (aA (us:=[iV x10.Kind,iV x10.N,.string x10.S]) 0 U U bY U) ?_;obtain ⟨y12,hy12,h⟩:=aa h;refine gD (wH (a:=(true,x10)) [ax B11 52 [iV x10.Kind,iV x10.N,.string x10.S],bo A2 n2 c2 a1.Slots,bo A3 n3 c3 a1.More,bE B1 47 [iV a1.Kind,iV a1.Shape,iV a1.Flags,iV a1.Age,O A2 n2 c2,O A3 n3 c3]] hY hy12 U U) ?_;rintro _ _ ⟨rfl,rfl⟩;refine D ?_;refine av U (fun g13=> ?_) (fun g13=> ?_)
   ·replace h:=ae g13 h;refine D ?_;obtain rfl:=ao h;exact FB U (cS [] 4) ⟨U,U⟩
   replace h:=ag g13 h;refine D ?_;obtain ⟨q14,h⟩:=ap h;refine gE (aU U U q14.1 q14.2) ?_;refine D ?_;exact ⟨m6,_,_,SP _,⟨p7+1,y12.2,h,U,U⟩,sA,cS [1,2,3] 4⟩
  replace h:=ag g9 h;refine D ?_;exact ⟨_,_,⟨p8,h,U,U⟩,sA,cS [0,1,2] 3⟩
 rintro _ _ ⟨p5,h,rfl,rfl⟩;refine D ?_;refine gR (bI 2 U U eu U) ?_;refine gR (aK 1 U aj U Sn) ?_;refine D ?_;refine bp (fun m s L=> ∃p16 p17,kK N fy a1 m p16 p17=some r∧s=[(0,.func (.yield l) #[] #[]),(1,pV B1 0),(21,O A3 n3 c3),(22,iV (a1.More.length:Int)),(23,iV p16)]∧L=bo A3 n3 c3 a1.More::bo A2 n2 c2 a1.Slots::bE B1 47 [iV a1.Kind,iV a1.Shape,iV a1.Flags,iV a1.Age,O A2 n2 c2,O A3 n3 c3]::(G p17)) N _ _ ⟨0,p5,h,U,U⟩ sA (cS [1,0,2] 3) ?_;rintro (_|m15) _ _ ⟨p16,p17,h,rfl,rfl⟩
 ·exact aC h
 rw [kK.eq_2] at h;refine D ?_;refine az ?_;refine av U (fun g18=> ?_) (fun g18=> ?_)
 ·replace h:=ae g18 h;refine D ?_;refine az ?_;refine D ?_;obtain ⟨x19,hx19,h⟩:=aa h;obtain ⟨lx19,ux19,hx19⟩:=aq hx19;refine gR (aH 0 U aj U U Sn aP lx19 ux19) ?_;refine gR (bm (us:=[iV x19.Kind,iV x19.N,.string x19.S]) 0 U aj U hx19 bY (fun _ _ _ h=>by rw [show _=_ from h];rfl)) ?_;refine gD (aN jD U) ?_;rintro _ _ ⟨B20,rfl,rfl⟩;refine D ?_;refine gO (au (us:=[iV x19.Kind,iV x19.N,.string x19.S]) (cs':=[iV x19.Kind,iV x19.N,.string x19.S]) 0 U U U U aP U U U) ?_;rintro _ _ rfl;refine cN ?_;refine D ?_;refine gR (bI 3 U U cX U) ?_;refine D ?_;obtain ⟨b21,hb21,h⟩:=aa h;refine aE 9 40 b21 ?_ ?_
  ·clear h;refine aB 31 U (fun g21=> ?_) (fun g21=> ?_)
   ·have h:=ae g21 hb21;refine D ?_;refine bM (bI 3 U U cX U) U (aS g21 U) U ?_;refine D ?_;obtain ⟨b22,hb22,h⟩:=aa h;refine aE 4 39 b22 ?_ ?_
    ·clear h;refine aB 35 U (fun g22=> ?_) (fun g22=> ?_)
     ·have h:=ae g22 hb22;refine D ?_;obtain rfl:=ao h;exact ab sA (cS [0,1,2,3] 4)
     have h:=ag g22 hb22;refine D ?_;refine pN (lY U U (by decide)) U (cu g22 U) U ?_;refine D ?_;obtain rfl:=ao h;exact ab sA (cS [0,1,2,3] 4)
    refine D ?_;obtain rfl:=ao h;exact ab sA (cS [0,1,2,3] 4)
   have h:=ag g21 hb21;refine D ?_;obtain rfl:=ao h;exact ab sA (cS [0,1,2,3] 4)
  refine D ?_;refine gR (aA (us:=[iV x19.Kind,iV x19.N,.string x19.S]) 0 U U bY U) ?_;obtain ⟨y23,hy23,h⟩:=aa h;refine gD (wH (a:=(b21,x19)) [ax B20 52 [iV x19.Kind,iV x19.N,.string x19.S],bo A3 n3 c3 a1.More,bo A2 n2 c2 a1.Slots,bE B1 47 [iV a1.Kind,iV a1.Shape,iV a1.Flags,iV a1.Age,O A2 n2 c2,O A3 n3 c3]] hY hy23 U U) ?_;rintro _ _ ⟨rfl,rfl⟩;refine D ?_;refine av U (fun g24=> ?_) (fun g24=> ?_)
  ·replace h:=ae g24 h;refine D ?_;obtain rfl:=ao h;exact FB U (cS [] 4) ⟨U,U⟩
  replace h:=ag g24 h;refine D ?_;obtain ⟨q25,h⟩:=ap h;refine gE (aU U U q25.1 q25.2) ?_;refine D ?_;exact ⟨m15,_,_,SP _,⟨p16+1,y23.2,h,U,U⟩,sA,cS [1,2,3] 4⟩
 replace h:=ag g18 h;refine D ?_;obtain rfl:=ao h;exact iF U (cS [] 3) ⟨U,U⟩
def rE (N:Nat)(a0:SD):Option Unit:=
 some ()
theorem BQ {N:Nat}{a0:SD}{r:Unit}(h:rE N a0=some r):Okc Tryz.prog 168 [.agg #[iV a0.Kind,iV a0.Shape,iV a0.Flags,iV a0.Age,O A1 n1 c1,O A2 n2 c2]] ([bo A1 n1 c1 a0.Slots,bo A2 n2 c2 a0.More]) (fun u post=> ∃B900,u=.func (.func 223) #[] #[pV B900 0]∧post=[ax B900 47 [iV a0.Kind,iV a0.Shape,iV a0.Flags,iV a0.Age,O A1 n1 c1,O A2 n2 c2]]):=by
 refine bz Tryz.func168 U U ?_;simp only [aR];refine D ?_;refine gD (bd U U) ?_;rintro _ _ ⟨B3,rfl,rfl⟩;refine D ?_;refine gE (eQ U) ?_;refine D ?_;obtain rfl:=ao h;exact aD U U (cS [0] 3) ⟨_,U,U⟩
theorem xK {a0:SD}{A1:Option Addr}{n1:Nat}{c1:Nat}{A2:Option Addr}{n2:Nat}{c2:Nat}: ∀v post,((fun (u:Value) (post:List Chunk)=> ∃B900,u=.func (.func 223) #[] #[pV B900 0]∧post=[ax B900 47 [iV a0.Kind,iV a0.Shape,iV a0.Flags,iV a0.Age,O A1 n1 c1,O A2 n2 c2]])) v post→ ∀c∈post,cn c:=by
 rintro _ _ ⟨_,rfl,rfl⟩;exact Ex pH (ad)
def pK (N:Nat)(a0:SG)(p10:Bool):Option Bool:=
 bif p10 then (some (decide (1≤a0.N))) else ((bif decide (a0.N=0) then (some (decide (0≤a0.Kind))) else (some false)).bind fun b14=>(bif b14 then (some (decide (a0.Kind≤9))) else (some false)).bind fun b15=>some b15)
def ur (N:Nat)(a0:SG):Option Bool:=
 bif decide (a0.Kind=5) then ((bif decide (a0.N=0) then (some (decide ((a0.S.size:Int)≤65536))) else (some false)).bind fun b3=>some b3) else (bif !(a0.S.toList==(⟨#[]⟩:ByteArray).toList) then (some false) else (bif decide (a0.Kind=2) then ((bif decide (a0.N=0) then (some true) else (some (decide (a0.N=1)))).bind fun b6=>some b6) else (bif decide (a0.Kind=3) then ((bif decide ((-9007199254740992)≤a0.N) then (some (decide (a0.N≤9007199254740992))) else (some false)).bind fun b8=>some b8) else (bif decide (a0.Kind=6) then (pK N a0 (decide (a0.Kind=6))) else (bif decide (a0.Kind=7) then (pK N a0 (decide (a0.Kind=7))) else (pK N a0 (decide (a0.Kind=9))))))))
theorem HY {N:Nat}{a0:SG}{r:Bool}(h:ur N a0=some r):Okc Tryz.prog 169 [.agg #[iV a0.Kind,iV a0.N,.string a0.S]] ([]) (fun u post=>u=.bool r∧post=[]):=by
 refine bz Tryz.func169 U U ?_;simp only [aR];refine D ?_;refine gD (bd U U) ?_;rintro _ _ ⟨B1,rfl,rfl⟩;refine D ?_;refine az ?_;refine D ?_;refine av U (fun g2=> ?_) (fun g2=> ?_)
 ·replace h:=ae g2 h;refine D ?_;obtain ⟨b3,hb3,h⟩:=aa h;refine aE 5 14 b3 ?_ ?_
  ·clear h;refine aB 9 U (fun g3=> ?_) (fun g3=> ?_)
   ·have h:=ae g3 hb3;refine D ?_;refine pN (JA U R7) U (aS g3 U) U ?_;refine D ?_;obtain rfl:=ao h;exact ab sA (cS [0] 1)
   have h:=ag g3 hb3;refine D ?_;obtain rfl:=ao h;exact ab sA (cS [0] 1)
  refine D ?_;obtain rfl:=ao h;exact aD U U (cS [] 1) ⟨U,U⟩
 replace h:=ag g2 h;refine D ?_;refine az ?_;refine D ?_;refine gE (D1 U U) ?_;refine D ?_;refine av U (fun g4=> ?_) (fun g4=> ?_)
 ·replace h:=ae g4 h;refine D ?_;obtain rfl:=ao h;exact aD U U (cS [] 1) ⟨U,U⟩
 replace h:=ag g4 h;refine D ?_;refine az ?_;refine D ?_;refine av U (fun g5=> ?_) (fun g5=> ?_)
 ·replace h:=ae g5 h;refine D ?_;obtain ⟨b6,hb6,h⟩:=aa h;refine aE 4 29 b6 ?_ ?_
  ·clear h;refine aB 25 U (fun g6=> ?_) (fun g6=> ?_)
   ·have h:=ae g6 hb6;refine D ?_;obtain rfl:=ao h;exact ab sA (cS [0] 1)
   have h:=ag g6 hb6;refine D ?_;obtain rfl:=ao h;exact ab sA (cS [0] 1)
  refine D ?_;obtain rfl:=ao h;exact aD U U (cS [] 1) ⟨U,U⟩
 replace h:=ag g5 h;refine D ?_;refine av U (fun g7=> ?_) (fun g7=> ?_)
 ·replace h:=ae g7 h;refine D ?_;obtain ⟨b8,hb8,h⟩:=aa h;refine aE 4 39 b8 ?_ ?_
  ·clear h;refine aB 35 U (fun g8=> ?_) (fun g8=> ?_)
   ·have h:=ae g8 hb8;refine D ?_;obtain rfl:=ao h;exact ab sA (cS [0] 1)
   have h:=ag g8 hb8;refine D ?_;obtain rfl:=ao h;exact ab sA (cS [0] 1)
  refine D ?_;obtain rfl:=ao h;exact aD U U (cS [] 1) ⟨U,U⟩
 replace h:=ag g7 h;refine aO (fun s L=> ∃p10,pK N a0 p10=some r∧s=[(1,pV B1 0),(2,.bool false),(40,.bool p10)]∧L=[ax B1 52 [iV a0.Kind,iV a0.N,.string a0.S]]) ?_ ?_
 ·refine D ?_;refine av U (fun g11=> ?_) (fun g11=> ?_)
  ·replace h:=ae g11 h;refine D ?_;exact ⟨_,_,⟨decide (a0.Kind=6),h,U,U⟩,sA,cS [0] 1⟩
  replace h:=ag g11 h;refine D ?_;refine av U (fun g12=> ?_) (fun g12=> ?_)
  ·replace h:=ae g12 h;refine D ?_;exact ⟨_,_,⟨decide (a0.Kind=7),h,U,U⟩,sA,cS [0] 1⟩
  replace h:=ag g12 h;refine D ?_;exact ⟨_,_,⟨decide (a0.Kind=9),h,U,U⟩,sA,cS [0] 1⟩
 rintro _ _ ⟨p10,h,rfl,rfl⟩;refine av U (fun g13=> ?_) (fun g13=> ?_)
 ·replace h:=ae g13 h;refine D ?_;obtain rfl:=ao h;exact aD U U (cS [] 1) ⟨U,U⟩
 replace h:=ag g13 h;refine D ?_;obtain ⟨b14,hb14,h⟩:=aa h;refine aE 4 54 b14 ?_ ?_
 ·clear h;refine aB 50 U (fun g14=> ?_) (fun g14=> ?_)
  ·have h:=ae g14 hb14;refine D ?_;obtain rfl:=ao h;exact ab sA (cS [0] 1)
  have h:=ag g14 hb14;refine D ?_;obtain rfl:=ao h;exact ab sA (cS [0] 1)
 refine D ?_;obtain ⟨b15,hb15,h⟩:=aa h;refine aE 4 59 b15 ?_ ?_
 ·clear h;refine aB 55 U (fun g15=> ?_) (fun g15=> ?_)
  ·have h:=ae g15 hb15;refine D ?_;obtain rfl:=ao h;exact ab sA (cS [0] 1)
  have h:=ag g15 hb15;refine D ?_;obtain rfl:=ao h;exact ab sA (cS [0] 1)
 refine D ?_;obtain rfl:=ao h;exact aD U U (cS [] 1) ⟨U,U⟩
theorem EJ {r:Bool}: ∀v post,((fun (u:Value) (post:List Chunk)=>u=.bool r∧post=[])) v post→ ∀c∈post,cn c:=by
 rintro _ _ ⟨rfl,rfl⟩;exact ad
def jg (N:Nat)(p2:Bool):Option Bool:=
 bif p2 then (some true) else (some false)
def ut (N:Nat)(a0:Int):Option Bool:=
 bif decide (a0=1) then (jg N (decide (a0=1))) else (bif decide (a0=2) then (jg N (decide (a0=2))) else (bif decide (a0=3) then (jg N (decide (a0=3))) else (bif decide (a0=6) then (jg N (decide (a0=6))) else (bif decide (a0=8) then (jg N (decide (a0=8))) else (bif decide (a0=9) then (jg N (decide (a0=9))) else (jg N (decide (a0=10))))))))
theorem HZ {N:Nat}{a0:Int}{r:Bool}(h:ut N a0=some r):Okc Tryz.prog 224 [iV a0] ([]) (fun u post=>u=.bool r∧post=[]):=by
 refine bz Tryz.func224 U U ?_;simp only [aR];refine D ?_;refine az ?_;refine D ?_;refine aO (fun s L=> ∃p2,jg N p2=some r∧s=[(2,.bool false),(4,.bool p2)]∧L=[]) ?_ ?_
 ·refine D ?_;refine av U (fun g3=> ?_) (fun g3=> ?_)
  ·replace h:=ae g3 h;refine D ?_;exact ⟨_,_,⟨decide (a0=1),h,U,U⟩,sA,cS [] 0⟩
  replace h:=ag g3 h;refine D ?_;refine av U (fun g4=> ?_) (fun g4=> ?_)
  ·replace h:=ae g4 h;refine D ?_;exact ⟨_,_,⟨decide (a0=2),h,U,U⟩,sA,cS [] 0⟩
  replace h:=ag g4 h;refine D ?_;refine av U (fun g5=> ?_) (fun g5=> ?_)
  ·replace h:=ae g5 h;refine D ?_;exact ⟨_,_,⟨decide (a0=3),h,U,U⟩,sA,cS [] 0⟩
  replace h:=ag g5 h;refine D ?_;refine av U (fun g6=> ?_) (fun g6=> ?_)
  ·replace h:=ae g6 h;refine D ?_;exact ⟨_,_,⟨decide (a0=6),h,U,U⟩,sA,cS [] 0⟩
  replace h:=ag g6 h;refine D ?_;refine av U (fun g7=> ?_) (fun g7=> ?_)
  ·replace h:=ae g7 h;refine D ?_;exact ⟨_,_,⟨decide (a0=8),h,U,U⟩,sA,cS [] 0⟩
  replace h:=ag g7 h;refine D ?_;refine av U (fun g8=> ?_) (fun g8=> ?_)
  ·replace h:=ae g8 h;refine D ?_;exact ⟨_,_,⟨decide (a0=9),h,U,U⟩,sA,cS [] 0⟩
  replace h:=ag g8 h;refine D ?_;exact ⟨_,_,⟨decide (a0=10),h,U,U⟩,sA,cS [] 0⟩
 rintro _ _ ⟨p2,h,rfl,rfl⟩;refine av U (fun g9=> ?_) (fun g9=> ?_)
 ·replace h:=ae g9 h;refine D ?_;obtain rfl:=ao h;exact aD U U (cS [] 0) ⟨U,U⟩
 replace h:=ag g9 h;refine D ?_;obtain rfl:=ao h;exact aD U U (cS [] 0) ⟨U,U⟩
theorem EK {r:Bool}: ∀v post,((fun (u:Value) (post:List Chunk)=>u=.bool r∧post=[])) v post→ ∀c∈post,cn c:=by
 rintro _ _ ⟨rfl,rfl⟩;exact ad
def gW (N:Nat)(a0:SG)(a1:Int):Option Bool:=
 (bif decide (a0.Kind=0) then (some true) else (some (decide (a0.Kind=a1)))).bind fun b2=>some b2
theorem jO {N:Nat}{a0:SG}{a1:Int}{r:Bool}(h:gW N a0 a1=some r):Okc Tryz.prog 225 [.agg #[iV a0.Kind,iV a0.N,.string a0.S],iV a1] ([]) (fun u post=>u=.bool r∧post=[]):=by
 refine bz Tryz.func225 U U ?_;simp only [aR];refine D ?_;refine gD (bd U U) ?_;rintro _ _ ⟨B1,rfl,rfl⟩;refine D ?_;obtain ⟨b2,hb2,h⟩:=aa h;refine aE 5 13 b2 ?_ ?_
 ·clear h;refine aB 8 U (fun g2=> ?_) (fun g2=> ?_)
  ·have h:=ae g2 hb2;refine D ?_;obtain rfl:=ao h;exact ab sA (cS [0] 1)
  have h:=ag g2 hb2;refine D ?_;obtain rfl:=ao h;exact ab sA (cS [0] 1)
 refine D ?_;obtain rfl:=ao h;exact aD U U (cS [] 1) ⟨U,U⟩
theorem il {r:Bool}: ∀v post,((fun (u:Value) (post:List Chunk)=>u=.bool r∧post=[])) v post→ ∀c∈post,cn c:=by
 rintro _ _ ⟨rfl,rfl⟩;exact ad
def jf (N:Nat)(a0:SD):Option Bool:=
 (ut N a0.Kind).bind fun y4=>(bif y4 then (some true) else ((bif decide (a0.Kind=7) then (some (decide (0<(a0.Slots.length:Int)))) else (some false)).bind fun b6=>some b6)).bind fun b5=>bif b5 then ((bif decide (1≤(a0.Slots.length:Int)) then (some (decide ((a0.Slots.length:Int)≤1025))) else (some false)).bind fun b8=>(bif b8 then ((aM a0.Slots 0).bind fun x10=>(bif decide (x10.Kind=1) then (some true) else ((aM a0.Slots 0).bind fun x12=>some (decide (x12.Kind=7)))).bind fun b11=>some b11) else (some false)).bind fun b9=>some b9) else (bif decide (a0.Kind=7) then (some (decide (a0.Shape=0))) else ((bif !decide (a0.Shape=0) then (some true) else (some (!decide (a0.Flags=0)))).bind fun b14=>bif b14 then (some false) else (bif decide (a0.Kind=5) then ((bif decide ((a0.Slots.length:Int)=2) then ((aM a0.Slots 0).bind fun x18=>(gW N x18 7).bind fun y19=>some y19) else (some false)).bind fun b17=>(bif b17 then ((aM a0.Slots 1).bind fun x21=>(gW N x21 7).bind fun y22=>some y22) else (some false)).bind fun b20=>some b20) else (some (decide ((a0.Slots.length:Int)=0))))))
theorem ym {N:Nat}{a0:SD}{r:Bool}(h:jf N a0=some r):Okc Tryz.prog 170 [.agg #[iV a0.Kind,iV a0.Shape,iV a0.Flags,iV a0.Age,O A1 n1 c1,O A2 n2 c2]] ([bo A1 n1 c1 a0.Slots,bo A2 n2 c2 a0.More]) (fun u post=>u=.bool r∧post=[]):=by
 refine bz Tryz.func170 U U ?_;simp only [aR];refine D ?_;refine gD (bd U U) ?_;rintro _ _ ⟨B3,rfl,rfl⟩;refine D ?_;refine az ?_;refine D ?_;obtain ⟨y4,hy4,h⟩:=aa h;refine gD (ak (HZ hy4) OH U (ad) EK) ?_;rintro _ _ ⟨_,⟨rfl,rfl⟩,rfl⟩;refine D ?_;obtain ⟨b5,hb5,h⟩:=aa h;refine aE 10 16 b5 ?_ ?_
 ·clear h;refine aB 6 U (fun g5=> ?_) (fun g5=> ?_)
  ·have h:=ae g5 hb5;refine D ?_;obtain rfl:=ao h;exact ab sA (cS [0,1,2] 3)
  have h:=ag g5 hb5;refine D ?_;obtain ⟨b6,hb6,h⟩:=aa h;refine aE 5 15 b6 ?_ ?_
  ·clear h;refine aB 10 U (fun g6=> ?_) (fun g6=> ?_)
   ·have h:=ae g6 hb6;refine D ?_;refine bM (aK 1 U aj U Sn) U (aS g6 U) U ?_;refine D ?_;obtain rfl:=ao h;exact ab sA (cS [0,1,2] 3)
   have h:=ag g6 hb6;refine D ?_;obtain rfl:=ao h;exact ab sA (cS [0,1,2] 3)
  refine D ?_;obtain rfl:=ao h;exact ab sA (cS [0,1,2] 3)
 refine D ?_;refine av U (fun g7=> ?_) (fun g7=> ?_)
 ·replace h:=ae g7 h;refine D ?_;refine gR (aK 1 U aj U Sn) ?_;refine D ?_;obtain ⟨b8,hb8,h⟩:=aa h;refine aE 5 26 b8 ?_ ?_
  ·clear h;refine aB 21 U (fun g8=> ?_) (fun g8=> ?_)
   ·have h:=ae g8 hb8;refine D ?_;refine bM (aK 1 U aj U Sn) U (aS g8 U) U ?_;refine D ?_;obtain rfl:=ao h;exact ab sA (cS [0,1,2] 3)
   have h:=ag g8 hb8;refine D ?_;obtain rfl:=ao h;exact ab sA (cS [0,1,2] 3)
  refine D ?_;obtain ⟨b9,hb9,h⟩:=aa h;refine aE 15 42 b9 ?_ ?_
  ·clear h;refine aB 27 U (fun g9=> ?_) (fun g9=> ?_)
   ·have h:=ae g9 hb9;refine D ?_;obtain ⟨x10,hx10,h⟩:=aa h;obtain ⟨lx10,ux10,hx10⟩:=aq hx10;refine bM (aH 1 U aj U U Sn aP lx10 ux10) U (aS g9 U) U ?_;refine bM (mH 1 U aj U (bx lx10 ux10) fR) U (aS g9 U) U ?_;refine bM (aT (u:=iV x10.Kind) 1 U aj U hx10 cX (fun _ _ _ h=>by rw [show _=_ from h];rfl)) U (aS g9 U) U ?_;refine D ?_;obtain ⟨b11,hb11,h⟩:=aa h;refine aE 7 41 b11 ?_ ?_
    ·clear h;refine aB 34 U (fun g11=> ?_) (fun g11=> ?_)
     ·have h:=ae g11 hb11;refine D ?_;obtain rfl:=ao h;exact ab sA (cS [0,1,2] 3)
     have h:=ag g11 hb11;refine D ?_;obtain ⟨x12,hx12,h⟩:=aa h;obtain ⟨lx12,ux12,hx12⟩:=aq hx12;refine bM (aH 1 U aj U U Sn aP lx12 ux12) U (cu g11 U) U ?_;refine bM (mH 1 U aj U (bx lx12 ux12) fR) U (cu g11 U) U ?_;refine bM (aT (u:=iV x12.Kind) 1 U aj U hx12 cX (fun _ _ _ h=>by rw [show _=_ from h];rfl)) U (cu g11 U) U ?_;refine D ?_;obtain rfl:=ao h;exact ab sA (cS [0,1,2] 3)
    refine D ?_;obtain rfl:=ao h;exact ab sA (cS [0,1,2] 3)
   have h:=ag g9 hb9;refine D ?_;obtain rfl:=ao h;exact ab sA (cS [0,1,2] 3)
  refine D ?_;obtain rfl:=ao h;exact aD U U (cS [] 3) ⟨U,U⟩
 replace h:=ag g7 h;refine D ?_;refine az ?_;refine D ?_;refine av U (fun g13=> ?_) (fun g13=> ?_)
 ·replace h:=ae g13 h;refine D ?_;obtain rfl:=ao h;exact aD U U (cS [] 3) ⟨U,U⟩
 replace h:=ag g13 h;refine D ?_;refine az ?_;refine D ?_;obtain ⟨b14,hb14,h⟩:=aa h;refine aE 4 56 b14 ?_ ?_
 ·clear h;refine aB 52 U (fun g14=> ?_) (fun g14=> ?_)
  ·have h:=ae g14 hb14;refine D ?_;obtain rfl:=ao h;exact ab sA (cS [0,1,2] 3)
  have h:=ag g14 hb14;refine D ?_;obtain rfl:=ao h;exact ab sA (cS [0,1,2] 3)
 refine D ?_;refine av U (fun g15=> ?_) (fun g15=> ?_)
 ·replace h:=ae g15 h;refine D ?_;obtain rfl:=ao h;exact aD U U (cS [] 3) ⟨U,U⟩
 replace h:=ag g15 h;refine D ?_;refine az ?_;refine D ?_;refine av U (fun g16=> ?_) (fun g16=> ?_)
 ·replace h:=ae g16 h;refine D ?_;refine gR (aK 1 U aj U Sn) ?_;refine D ?_;obtain ⟨b17,hb17,h⟩:=aa h;refine aE 6 70 b17 ?_ ?_
  ·clear h;refine aB 64 U (fun g17=> ?_) (fun g17=> ?_)
   ·have h:=ae g17 hb17;refine D ?_;obtain ⟨x18,hx18,h⟩:=aa h;obtain ⟨lx18,ux18,hx18⟩:=aq hx18;refine bM (aH 1 U aj U U Sn aP lx18 ux18) U (aS g17 U) U ?_;refine bM (bm (us:=[iV x18.Kind,iV x18.N,.string x18.S]) 1 U aj U hx18 bY (fun _ _ _ h=>by rw [show _=_ from h];rfl)) U (aS g17 U) U ?_;obtain ⟨y19,hy19,h⟩:=aa h;refine ca (ak (jO hy19) wW U (ad) il) U (aS g17 U) U ?_;rintro _ _ ⟨_,⟨rfl,rfl⟩,rfl⟩;refine D ?_;obtain rfl:=ao h;exact ab sA (cS [0,1,2] 3)
   have h:=ag g17 hb17;refine D ?_;obtain rfl:=ao h;exact ab sA (cS [0,1,2] 3)
  refine D ?_;obtain ⟨b20,hb20,h⟩:=aa h;refine aE 6 77 b20 ?_ ?_
  ·clear h;refine aB 71 U (fun g20=> ?_) (fun g20=> ?_)
   ·have h:=ae g20 hb20;refine D ?_;obtain ⟨x21,hx21,h⟩:=aa h;obtain ⟨lx21,ux21,hx21⟩:=aq hx21;refine bM (aH 1 U aj U U Sn aP lx21 ux21) U (aS g20 U) U ?_;refine bM (bm (us:=[iV x21.Kind,iV x21.N,.string x21.S]) 1 U aj U hx21 bY (fun _ _ _ h=>by rw [show _=_ from h];rfl)) U (aS g20 U) U ?_;obtain ⟨y22,hy22,h⟩:=aa h;refine ca (ak (jO hy22) wW U (ad) il) U (aS g20 U) U ?_;rintro _ _ ⟨_,⟨rfl,rfl⟩,rfl⟩;refine D ?_;obtain rfl:=ao h;exact ab sA (cS [0,1,2] 3)
   have h:=ag g20 hb20;refine D ?_;obtain rfl:=ao h;exact ab sA (cS [0,1,2] 3)
  refine D ?_;obtain rfl:=ao h;exact aD U U (cS [] 3) ⟨U,U⟩
 replace h:=ag g16 h;refine D ?_;refine gR (aK 1 U aj U Sn) ?_;refine D ?_;obtain rfl:=ao h;exact aD U U (cS [] 3) ⟨U,U⟩
theorem wk {r:Bool}: ∀v post,((fun (u:Value) (post:List Chunk)=>u=.bool r∧post=[])) v post→ ∀c∈post,cn c:=by
 rintro _ _ ⟨rfl,rfl⟩;exact ad
def gX (N:Nat)(a0:SG)(a1:Int)(a2:Int):Option Bool:=
 (bif decide (a0.Kind=3) then (some (decide (a1≤a0.N))) else (some false)).bind fun b2=>(bif b2 then (some (decide (a0.N≤a2))) else (some false)).bind fun b3=>some b3
theorem jP {N:Nat}{a0:SG}{a1:Int}{a2:Int}{r:Bool}(h:gX N a0 a1 a2=some r):Okc Tryz.prog 226 [.agg #[iV a0.Kind,iV a0.N,.string a0.S],iV a1,iV a2] ([]) (fun u post=>u=.bool r∧post=[]):=by
 refine bz Tryz.func226 U U ?_;simp only [aR];refine D ?_;refine gD (bd U U) ?_;rintro _ _ ⟨B1,rfl,rfl⟩;refine D ?_;obtain ⟨b2,hb2,h⟩:=aa h;refine aE 5 15 b2 ?_ ?_
 ·clear h;refine aB 10 U (fun g2=> ?_) (fun g2=> ?_)
  ·have h:=ae g2 hb2;refine D ?_;obtain rfl:=ao h;exact ab sA (cS [0] 1)
  have h:=ag g2 hb2;refine D ?_;obtain rfl:=ao h;exact ab sA (cS [0] 1)
 refine D ?_;obtain ⟨b3,hb3,h⟩:=aa h;refine aE 5 21 b3 ?_ ?_
 ·clear h;refine aB 16 U (fun g3=> ?_) (fun g3=> ?_)
  ·have h:=ae g3 hb3;refine D ?_;obtain rfl:=ao h;exact ab sA (cS [0] 1)
  have h:=ag g3 hb3;refine D ?_;obtain rfl:=ao h;exact ab sA (cS [0] 1)
 refine D ?_;obtain rfl:=ao h;exact aD U U (cS [] 1) ⟨U,U⟩
theorem im {r:Bool}: ∀v post,((fun (u:Value) (post:List Chunk)=>u=.bool r∧post=[])) v post→ ∀c∈post,cn c:=by
 rintro _ _ ⟨rfl,rfl⟩;exact ad
def iH (N:Nat){σ:Type}(fy:(List SG)→σ→Option (Bool×σ))(a1:(List SG))(a2:Int):Nat→Int→σ→Option σ
 |0,_,_=>none
 |m4+1,p5,p6=>bif decide (p5<(a1.length:Int)) then (bG ((0:Int)≤p5∧p5.toNat≤a1.length∧a1.length≤a1.length) (bG (in64 (p5+(min a2 (((a1.drop p5.toNat).take (a1.length - p5.toNat)).length:Int)))) (bG (in64 (p5+(min a2 (((a1.drop p5.toNat).take (a1.length - p5.toNat)).length:Int)))) (bG ((0:Int)≤p5∧(0:Int)≤p5+(min a2 (((a1.drop p5.toNat).take (a1.length - p5.toNat)).length:Int))∧p5.toNat≤(p5+(min a2 (((a1.drop p5.toNat).take (a1.length - p5.toNat)).length:Int))).toNat∧(p5+(min a2 (((a1.drop p5.toNat).take (a1.length - p5.toNat)).length:Int))).toNat≤a1.length) ((fy ((a1.drop p5.toNat).take ((p5+(min a2 (((a1.drop p5.toNat).take (a1.length - p5.toNat)).length:Int))).toNat - p5.toNat)) p6).bind fun y14=>bif !y14.1 then (some y14.2) else (bG (in64 (p5+a2)) ((iH N fy a1 a2 m4) (p5+a2) y14.2))))))) else (some p6)
def qQ (N:Nat){σ:Type}(a1:(List SG))(a2:Int)(fy:(List SG)→σ→Option (Bool×σ))(s0:σ):Option σ:=
 iH N fy a1 a2 N 0 s0
theorem BW {N:Nat}{σ:Type}{a1:(List SG)}{a2:Int}{fy:(List SG)→σ→Option (Bool×σ)}{s0:σ}{r:σ}(h:qQ N a1 a2 fy s0=some r){l:Nat}{G:σ→List Chunk}(hY:tO Tryz.prog l G (fun (x:(List SG)) vs cs=> ∃A0 n0 c0,vs=[O A0 n0 c0]∧cs=[bo A0 n0 c0 x]) fy):Okc Tryz.prog 265 [.func (.yield l) #[] #[],pV B1 0,pV B3 0] (bE B1 38 [O A2 n2 c2]::bo A2 n2 c2 a1::bE B3 3 [iV a2]::(G s0)) (fun u post=>u=.tuple #[]∧post=G r):=by
 refine bz Tryz.func265 U U ?_;simp only [aR];refine D ?_;refine bp (fun m s L=> ∃p5 p6,iH N fy a1 a2 m p5 p6=some r∧s=[(0,.func (.yield l) #[] #[]),(1,pV B1 0),(2,pV B3 0),(4,iV p5)]∧L=bo A2 n2 c2 a1::bE B1 38 [O A2 n2 c2]::bE B3 3 [iV a2]::(G p6)) N _ _ ⟨0,s0,h,U,U⟩ sA (cS [1,0,2] 3) ?_;rintro (_|m4) _ _ ⟨p5,p6,h,rfl,rfl⟩
 ·exact aC h
 rw [iH.eq_2] at h;refine az ?_;refine D ?_;refine gR (bI 1 U U eu U) ?_;refine gR (aK 0 U aj U Sn) ?_;refine D ?_;refine av U (fun g7=> ?_) (fun g7=> ?_)
 ·replace h:=ae g7 h;refine D ?_;refine az ?_;refine iE ?_;refine az ?_;refine cv Y _ (ah _) ?_;refine zR 0 U (bI 2 U U cX U) ?_;refine zR 1 U (bI 1 U U eu U) ?_;refine zE 2 U (ay U) ?_;obtain ⟨q8,h⟩:=ap h;refine En 0 U (l:=p5.toNat) (h:=a1.length) q8.2.1 q8.2.2 ?_;rintro A9 n9 c9 e9;refine zR 3 U (yQ 1 U e9 U Sn aP U (by rw [Int.toNat_of_nonneg q8.1];rfl) q8.2.1) ?_;refine zR 4 U (aK 0 U aj U Sn) ?_;refine zE 5 U (P5 U U R4 R4) ?_;refine zE 6 U (aI U) ?_;refine bH Y ?_;refine D ?_;refine gR (bI 2 U U eu U) ?_;refine D ?_;obtain ⟨q10,h⟩:=ap h;refine gE (aU U U q10.1 q10.2) ?_;refine D ?_;obtain ⟨q11,h⟩:=ap h;refine gE (aU U U q11.1 q11.2) ?_;obtain ⟨q12,h⟩:=ap h;refine NO 1 U (l:=p5.toNat) (h:=(p5+(min a2 (((a1.drop p5.toNat).take (a1.length - p5.toNat)).length:Int))).toNat) q12.2.2.1 q12.2.2.2 ?_;rintro A13 n13 c13 e13;refine gR (Jn 2 U e13 U Sn aP U (by rw [Int.toNat_of_nonneg q12.1];rfl) (by rw [Int.toNat_of_nonneg q12.2.1];rfl) (by rw [Int.toNat_of_nonneg q12.2.1];rfl) q12.2.2.1 q12.2.2.2) ?_;obtain ⟨y14,hy14,h⟩:=aa h
  refine gD (Fd (a:=(a1.drop p5.toNat).take ((p5+(min a2 (((a1.drop p5.toNat).take (a1.length - p5.toNat)).length:Int))).toNat - p5.toNat)) [bo A13 n13 c13 ((a1.drop p5.toNat).take ((p5+(min a2 (((a1.drop p5.toNat).take (a1.length - p5.toNat)).length:Int))).toNat - p5.toNat)),bo A9 n9 c9 ((a1.drop p5.toNat).take (a1.length - p5.toNat)),bo A2 n2 c2 a1,bE B1 38 [O A2 n2 c2],bE B3 3 [iV a2]] hY hy14 U U ⟨_,_,_,U,U⟩ (IT 0 U U)) ?_;rintro _ _ ⟨rfl,rfl⟩;refine D ?_;refine av U (fun g15=> ?_) (fun g15=> ?_)
  ·replace h:=ae g15 h;refine D ?_;obtain rfl:=ao h;exact FB U (cS [] 5) ⟨U,U⟩
  replace h:=ag g15 h;refine D ?_;refine gR (bI 4 U U cX U) ?_;obtain ⟨q16,h⟩:=ap h;refine gE (aU U U q16.1 q16.2) ?_;refine D ?_;exact ⟨m4,_,_,SP _,⟨p5+a2,y14.2,h,U,U⟩,sA,cS [2,3,4] 5⟩
 replace h:=ag g7 h;refine D ?_;obtain rfl:=ao h;exact iF U (cS [] 3) ⟨U,U⟩
def kg (N:Nat)(a0:(List SG))(a1:Int):Option Unit:=
 bif decide (a1<1) then none else (some ())
theorem xf {N:Nat}{a0:(List SG)}{a1:Int}{r:Unit}(h:kg N a0 a1=some r):Okc Tryz.prog 255 [O A1 n1 c1,iV a1] ([bo A1 n1 c1 a0]) (fun u post=> ∃B900 B901,u=.func (.func 265) #[] #[pV B900 0,pV B901 0]∧post=[ax B900 38 [O A1 n1 c1],ax B901 3 [iV a1]]):=by
 refine bz Tryz.func255 U U ?_;simp only [aR];refine D ?_;refine gD (bd U U) ?_;rintro _ _ ⟨B2,rfl,rfl⟩;refine gD (bd U U) ?_;rintro _ _ ⟨B3,rfl,rfl⟩;refine D ?_;refine az ?_;refine D ?_;refine av U (fun g4=> ?_) (fun g4=> ?_)
 ·replace h:=ae g4 h;exact aC h
 replace h:=ag g4 h;refine D ?_;refine gE (eQ U) ?_;refine D ?_;obtain rfl:=ao h;exact aD U U (cS [1,0] 3) ⟨_,_,U,U⟩
theorem uS {a1:Int}{A1:Option Addr}{n1:Nat}{c1:Nat}: ∀v post,((fun (u:Value) (post:List Chunk)=> ∃B900 B901,u=.func (.func 265) #[] #[pV B900 0,pV B901 0]∧post=[ax B900 38 [O A1 n1 c1],ax B901 3 [iV a1]])) v post→ ∀c∈post,cn c:=by
 rintro _ _ ⟨_,_,rfl,rfl⟩;exact Ex pH (Ex pH (ad))
def cx (N:Nat)(a1:Int)(x9:(List SG)):(Unit)→Option (Option Exit×Unit)
 |()=>(aM x9 0).bind fun x12=>(bif !decide (x12.Kind=7) then (some true) else ((aM x9 1).bind fun x14=>some (decide (x14.Kind=8)))).bind fun b13=>bif b13 then (some (some .ret,())) else ((bif decide (a1=4) then ((aM x9 2).bind fun x17=>(gW N x17 7).bind fun y18=>(bif !y18 then (some true) else ((aM x9 3).bind fun x20=>(gX N x20 0 9007199254740992).bind fun y21=>some (!y21))).bind fun b19=>some b19) else (some false)).bind fun b16=>bif b16 then (some (some .ret,())) else (some (none,())))
def dT (N:Nat)(a0:(List SG))(a1:Int):Option Bool:=
 bG (a1≠0) (bif !decide ((a0.length:Int).tmod a1=0) then (some false) else ((kg N a0 a1).bind fun y6=>(qQ N a0 a1 (dk (fun x st=>cx N a1 x st)) (none,())).bind fun y11=>oL y11.1 (some true) (some false) (fun _=>none)))
theorem pL {N:Nat}{a0:(List SG)}{a1:Int}{r:Bool}(h:dT N a0 a1=some r):Okc Tryz.prog 227 [O A1 n1 c1,iV a1] ([bo A1 n1 c1 a0]) (fun u post=>u=.bool r∧post=[]):=by
 refine bz Tryz.func227 U U ?_;simp only [aR];refine D ?_;refine gD (bd U U) ?_;rintro _ _ ⟨B2,rfl,rfl⟩;refine gD (aN GY U) ?_;rintro _ _ ⟨B3,rfl,rfl⟩;refine D ?_;refine az ?_;refine D ?_;refine gR (aK 2 U aj U Sn) ?_;refine D ?_;obtain ⟨q4,h⟩:=ap h;refine gE (lY U U q4) ?_;refine D ?_;refine av U (fun g5=> ?_) (fun g5=> ?_)
 ·replace h:=ae g5 h;refine D ?_;refine gO (au (us:=[.bool false]) (cs':=[.bool false]) 0 U U U U Bq U U U) ?_;rintro _ _ rfl;refine D ?_;obtain rfl:=ao h;exact dB (rs:=[.cell 4 4]) (vs:=[.bool false]) U (.cons (rW 0 U U Hr) .nil) U (cS [] 3) ⟨U,U⟩
 replace h:=ag g5 h;refine D ?_;refine az ?_;refine D ?_;obtain ⟨y6,hy6,h⟩:=aa h;refine gD (ak (xf hy6) OC U (Ex (ac (i:=2) U U) ad) uS) ?_;rintro _ _ ⟨_,⟨B7,B8,rfl,rfl⟩,rfl⟩;refine tS ?_;refine gL ?_;refine gZ ?_ bU (ik 0 U);refine gZ ?_ bU (ik 1 U);refine EN ?_;obtain ⟨y11,hy11,h⟩:=aa h;refine FP (R:=(fun (x:(List SG)) vs cs=> ∃A0 n0 c0,vs=[O A0 n0 c0]∧cs=[bo A0 n0 c0 x])) (fun x st=>cx N a1 x st) (fun (st:Unit) (mz:Unit)=> [ax B2 3 [iV a1],ax B3 4 [.bool false]]) [bE B7 38 [O A1 n1 c1],bo A1 n1 c1 a0,bE B8 3 [iV a1]] (()) (()) U U OB U (by rintro _ _ _ ⟨_,_,_,rfl,rfl⟩;rfl) (fun l G hY=>(BW hy11 hY).mono fun _ _ hh=>hh.2) (aJ [0,4,1] [] [3,2] 5 U) h ?_ ?_ ?_ ?_
 ·rintro l x9 _ je sr9 _ h _ _ ⟨A10,n10,c10,rfl,rfl⟩;replace h:cx N a1 x9 ()=some (je,sr9):=h;simp only [zZ,List.zip_cons_cons,List.zip_nil_left,List.zip_nil_right,List.reverse_cons,List.reverse_nil,List.nil_append,List.cons_append];refine D ?_;refine az ?_;refine D ?_;obtain ⟨x12,hx12,h⟩:=aa h;obtain ⟨lx12,ux12,hx12⟩:=aq hx12;refine gR (aH 0 U aj U U Sn aP lx12 ux12) ?_;refine gR (mH 0 U aj U (bx lx12 ux12) fR) ?_;refine gR (aT (u:=iV x12.Kind) 0 U aj U hx12 cX (fun _ _ _ h=>by rw [show _=_ from h];rfl)) ?_;refine D ?_;obtain ⟨b13,hb13,h⟩:=aa h;refine aE 6 26 b13 ?_ ?_
  ·clear h;refine aB 20 U (fun g13=> ?_) (fun g13=> ?_)
   ·have h:=ae g13 hb13;refine D ?_;obtain rfl:=ao h;exact ab sA (cS [0,1,2] 3)
   have h:=ag g13 hb13;refine D ?_;obtain ⟨x14,hx14,h⟩:=aa h;obtain ⟨lx14,ux14,hx14⟩:=aq hx14;refine bM (aH 0 U aj U U Sn aP lx14 ux14) U (cu g13 U) U ?_;refine bM (mH 0 U aj U (bx lx14 ux14) fR) U (cu g13 U) U ?_;refine bM (aT (u:=iV x14.Kind) 0 U aj U hx14 cX (fun _ _ _ h=>by rw [show _=_ from h];rfl)) U (cu g13 U) U ?_;refine D ?_;obtain rfl:=ao h;exact ab sA (cS [0,1,2] 3)
  refine D ?_;refine av U (fun g15=> ?_) (fun g15=> ?_)
  ·replace h:=ae g15 h;refine D ?_;refine gO (au (us:=[.bool false]) (cs':=[.bool false]) 2 U U U U Bq U U U) ?_;rintro _ _ rfl;refine D ?_;obtain ⟨rfl,rfl⟩:=Prod.mk.inj (Option.some.inj h);exact I5 ((cS [1,2] 3).trans (gh () U))
  replace h:=ag g15 h;refine D ?_;obtain ⟨b16,hb16,h⟩:=aa h;refine aE 13 42 b16 ?_ ?_
  ·clear h;refine aB 29 U (fun g16=> ?_) (fun g16=> ?_)
   ·have h:=ae g16 hb16;refine D ?_;obtain ⟨x17,hx17,h⟩:=aa h;obtain ⟨lx17,ux17,hx17⟩:=aq hx17;refine bM (aH 0 U aj U U Sn aP lx17 ux17) U (aS g16 U) U ?_;refine bM (bm (us:=[iV x17.Kind,iV x17.N,.string x17.S]) 0 U aj U hx17 bY (fun _ _ _ h=>by rw [show _=_ from h];rfl)) U (aS g16 U) U ?_;obtain ⟨y18,hy18,h⟩:=aa h;refine ca (ak (jO hy18) wW U (ad) il) U (aS g16 U) U ?_;rintro _ _ ⟨_,⟨rfl,rfl⟩,rfl⟩;refine D ?_;obtain ⟨b19,hb19,h⟩:=aa h;refine aE 6 41 b19 ?_ ?_
    ·clear h;refine aB 35 U (fun g19=> ?_) (fun g19=> ?_)
     ·have h:=ae g19 hb19;refine D ?_;obtain rfl:=ao h;exact ab sA (cS [0,1,2] 3)
     have h:=ag g19 hb19;refine D ?_;obtain ⟨x20,hx20,h⟩:=aa h;obtain ⟨lx20,ux20,hx20⟩:=aq hx20;refine bM (aH 0 U aj U U Sn aP lx20 ux20) U (cu g19 U) U ?_;refine bM (bm (us:=[iV x20.Kind,iV x20.N,.string x20.S]) 0 U aj U hx20 bY (fun _ _ _ h=>by rw [show _=_ from h];rfl)) U (cu g19 U) U ?_;obtain ⟨y21,hy21,h⟩:=aa h;refine ca (ak (jP hy21) wV U (ad) im) U (cu g19 U) U ?_;rintro _ _ ⟨_,⟨rfl,rfl⟩,rfl⟩;refine D ?_;obtain rfl:=ao h;exact ab sA (cS [0,1,2] 3)
    refine D ?_;obtain rfl:=ao h;exact ab sA (cS [0,1,2] 3)
   have h:=ag g16 hb16;refine D ?_;obtain rfl:=ao h;exact ab sA (cS [0,1,2] 3)
  refine D ?_;refine av U (fun g22=> ?_) (fun g22=> ?_)
  ·replace h:=ae g22 h;refine D ?_;refine gO (au (us:=[.bool false]) (cs':=[.bool false]) 2 U U U U Bq U U U) ?_;rintro _ _ rfl;refine D ?_;obtain ⟨rfl,rfl⟩:=Prod.mk.inj (Option.some.inj h);exact I5 ((cS [1,2] 3).trans (gh () U))
  replace h:=ag g22 h;refine D ?_;obtain ⟨rfl,rfl⟩:=Prod.mk.inj (Option.some.inj h);exact Cj ((cS [1,2] 3).trans (gh () U))
 ·rintro _ h;refine pp ([ax B2 3 [iV a1],ax B3 4 [.bool false]]) U ?_;refine D ?_;refine gO (au (us:=[.bool true]) (cs':=[.bool true]) 1 U U U U Bq U U U) ?_;rintro _ _ rfl;refine cN ?_;refine D ?_;obtain rfl:=ao h;exact dB (rs:=[.cell 4 4]) (vs:=[.bool true]) U (.cons (rW 1 U U Hr) .nil) U (cS [] 2) ⟨U,U⟩
 ·rintro _ h;refine pp ([ax B2 3 [iV a1],ax B3 4 [.bool false]]) U ?_;refine D ?_;obtain rfl:=ao h;exact dB (rs:=[.cell 4 4]) (vs:=[.bool false]) U (.cons (rW 1 U U Hr) .nil) U (cS [] 2) ⟨U,U⟩
 rintro i _ h;exact aC h
theorem oC {r:Bool}: ∀v post,((fun (u:Value) (post:List Chunk)=>u=.bool r∧post=[])) v post→ ∀c∈post,cn c:=by
 rintro _ _ ⟨rfl,rfl⟩;exact ad
def lw (N:Nat)(a0:Int)(a1:(List SG))(p5:Bool):Option Bool:=
 bif p5 then (some (decide ((a1.length:Int)=0))) else (bif decide (a0=3) then ((bif decide ((a1.length:Int)=3) then ((aM a1 0).bind fun x10=>(gX N x10 0 9007199254740992).bind fun y11=>some y11) else (some false)).bind fun b9=>(bif b9 then ((aM a1 1).bind fun x13=>(gW N x13 9).bind fun y14=>some y14) else (some false)).bind fun b12=>some b12) else (bif decide (a0=4) then ((bif decide (1≤(a1.length:Int)) then (some (decide ((a1.length:Int)≤4097))) else (some false)).bind fun b16=>(bif b16 then ((aM a1 0).bind fun x18=>(gW N x18 9).bind fun y19=>some y19) else (some false)).bind fun b17=>some b17) else (bif decide (a0=6) then ((bif decide ((a1.length:Int)=2) then ((aM a1 0).bind fun x22=>(gX N x22 0 3).bind fun y23=>some y23) else (some false)).bind fun b21=>(bif b21 then ((aM a1 1).bind fun x25=>(gW N x25 9).bind fun y26=>some y26) else (some false)).bind fun b24=>some b24) else (bif decide (a0=7) then ((bif decide (4≤(a1.length:Int)) then ((aM a1 2).bind fun x29=>(gX N x29 0 1).bind fun y30=>some y30) else (some false)).bind fun b28=>(bif b28 then ((aM a1 3).bind fun x32=>(gX N x32 0 9007199254740992).bind fun y33=>some y33) else (some false)).bind fun b31=>some b31) else (bif decide (a0=8) then ((dT N a1 2).bind fun y35=>some y35) else (bif decide (a0=10) then ((bif decide (1≤(a1.length:Int)) then ((aM a1 0).bind fun x38=>some (decide (x38.Kind=7))) else (some false)).bind fun b37=>(bif b37 then (bG ((0:Int)≤1∧(1:Int).toNat≤a1.length∧a1.length≤a1.length) ((dT N ((a1.drop ((1:Int).toNat)).take (a1.length - (1:Int).toNat)) 4).bind fun y42=>some y42)) else (some false)).bind fun b39=>some b39) else (bif decide (a0=9) then ((bif decide (2≤(a1.length:Int)) then ((aM a1 0).bind fun x45=>(gX N x45 0 2).bind fun y46=>some y46) else (some false)).bind fun b44=>some b44) else (some true))))))))
def jQ (N:Nat)(a0:Int)(a1:(List SG)):Option Bool:=
 bif decide (1048576<(a1.length:Int)) then (some false) else (bif decide (a0=2) then (some (decide ((a1.length:Int)≤4096))) else (bif decide (a0=1) then (lw N a0 a1 (decide (a0=1))) else (lw N a0 a1 (decide (a0=5)))))
set_option maxHeartbeats 4000000 in
theorem Ac {N:Nat}{a0:Int}{a1:(List SG)}{r:Bool}(h:jQ N a0 a1=some r):Okc Tryz.prog 171 [iV a0,O A1 n1 c1] ([bo A1 n1 c1 a1]) (fun u post=>u=.bool r∧post=[]):=by
 refine bz Tryz.func171 U U ?_;simp only [aR];refine D ?_;refine az ?_;refine D ?_;refine gR (aK 0 U aj U Sn) ?_;refine D ?_;refine av U (fun g2=> ?_) (fun g2=> ?_)
 ·replace h:=ae g2 h;refine D ?_;obtain rfl:=ao h;exact aD U U (cS [] 1) ⟨U,U⟩
 replace h:=ag g2 h;refine D ?_;refine az ?_;refine D ?_;refine av U (fun g3=> ?_) (fun g3=> ?_)
 ·replace h:=ae g3 h;refine D ?_;refine gR (aK 0 U aj U Sn) ?_;refine D ?_;obtain rfl:=ao h;exact aD U U (cS [] 1) ⟨U,U⟩
 replace h:=ag g3 h;refine aO (fun s L=> ∃p5,lw N a0 a1 p5=some r∧s=[(1,O A1 n1 c1),(4,.bool false),(8,iV a0),(14,.bool p5)]∧L=[bo A1 n1 c1 a1]) ?_ ?_
 ·refine D ?_;refine av U (fun g6=> ?_) (fun g6=> ?_)
  ·replace h:=ae g6 h;refine D ?_;exact ⟨_,_,⟨decide (a0=1),h,U,U⟩,sA,cS [0] 1⟩
  replace h:=ag g6 h;refine D ?_;exact ⟨_,_,⟨decide (a0=5),h,U,U⟩,sA,cS [0] 1⟩
 rintro _ _ ⟨p5,h,rfl,rfl⟩;refine av U (fun g7=> ?_) (fun g7=> ?_)
 ·replace h:=ae g7 h;refine D ?_;refine gR (aK 0 U aj U Sn) ?_;refine D ?_;obtain rfl:=ao h;exact aD U U (cS [] 1) ⟨U,U⟩
 replace h:=ag g7 h;refine D ?_;refine av U (fun g8=> ?_) (fun g8=> ?_)
 ·replace h:=ae g8 h;refine D ?_;refine gR (aK 0 U aj U Sn) ?_;refine D ?_;obtain ⟨b9,hb9,h⟩:=aa h;refine aE 5 30 b9 ?_ ?_
  ·clear h;refine aB 25 U (fun g9=> ?_) (fun g9=> ?_)
   ·have h:=ae g9 hb9;refine D ?_;obtain ⟨x10,hx10,h⟩:=aa h;obtain ⟨lx10,ux10,hx10⟩:=aq hx10;refine bM (aH 0 U aj U U Sn aP lx10 ux10) U (aS g9 U) U ?_;refine bM (bm (us:=[iV x10.Kind,iV x10.N,.string x10.S]) 0 U aj U hx10 bY (fun _ _ _ h=>by rw [show _=_ from h];rfl)) U (aS g9 U) U ?_;obtain ⟨y11,hy11,h⟩:=aa h;refine ca (ak (jP hy11) wV U (ad) im) U (aS g9 U) U ?_;rintro _ _ ⟨_,⟨rfl,rfl⟩,rfl⟩;refine D ?_;obtain rfl:=ao h;exact ab sA (cS [0] 1)
   have h:=ag g9 hb9;refine D ?_;obtain rfl:=ao h;exact ab sA (cS [0] 1)
  refine D ?_;obtain ⟨b12,hb12,h⟩:=aa h;refine aE 5 36 b12 ?_ ?_
  ·clear h;refine aB 31 U (fun g12=> ?_) (fun g12=> ?_)
   ·have h:=ae g12 hb12;refine D ?_;obtain ⟨x13,hx13,h⟩:=aa h;obtain ⟨lx13,ux13,hx13⟩:=aq hx13;refine bM (aH 0 U aj U U Sn aP lx13 ux13) U (aS g12 U) U ?_;refine bM (bm (us:=[iV x13.Kind,iV x13.N,.string x13.S]) 0 U aj U hx13 bY (fun _ _ _ h=>by rw [show _=_ from h];rfl)) U (aS g12 U) U ?_;obtain ⟨y14,hy14,h⟩:=aa h;refine ca (ak (jO hy14) wW U (ad) il) U (aS g12 U) U ?_;rintro _ _ ⟨_,⟨rfl,rfl⟩,rfl⟩;refine D ?_;obtain rfl:=ao h;exact ab sA (cS [0] 1)
   have h:=ag g12 hb12;refine D ?_;obtain rfl:=ao h;exact ab sA (cS [0] 1)
  refine D ?_;obtain rfl:=ao h;exact aD U U (cS [] 1) ⟨U,U⟩
 replace h:=ag g8 h;refine D ?_;refine av U (fun g15=> ?_) (fun g15=> ?_)
 ·replace h:=ae g15 h;refine D ?_;refine gR (aK 0 U aj U Sn) ?_;refine D ?_;obtain ⟨b16,hb16,h⟩:=aa h;refine aE 4 46 b16 ?_ ?_
  ·clear h;refine aB 42 U (fun g16=> ?_) (fun g16=> ?_)
   ·have h:=ae g16 hb16;refine D ?_;refine bM (aK 0 U aj U Sn) U (aS g16 U) U ?_;refine D ?_;obtain rfl:=ao h;exact ab sA (cS [0] 1)
   have h:=ag g16 hb16;refine D ?_;obtain rfl:=ao h;exact ab sA (cS [0] 1)
  refine D ?_;obtain ⟨b17,hb17,h⟩:=aa h;refine aE 5 52 b17 ?_ ?_
  ·clear h;refine aB 47 U (fun g17=> ?_) (fun g17=> ?_)
   ·have h:=ae g17 hb17;refine D ?_;obtain ⟨x18,hx18,h⟩:=aa h;obtain ⟨lx18,ux18,hx18⟩:=aq hx18;refine bM (aH 0 U aj U U Sn aP lx18 ux18) U (aS g17 U) U ?_;refine bM (bm (us:=[iV x18.Kind,iV x18.N,.string x18.S]) 0 U aj U hx18 bY (fun _ _ _ h=>by rw [show _=_ from h];rfl)) U (aS g17 U) U ?_;obtain ⟨y19,hy19,h⟩:=aa h;refine ca (ak (jO hy19) wW U (ad) il) U (aS g17 U) U ?_;rintro _ _ ⟨_,⟨rfl,rfl⟩,rfl⟩;refine D ?_;obtain rfl:=ao h;exact ab sA (cS [0] 1)
   have h:=ag g17 hb17;refine D ?_;obtain rfl:=ao h;exact ab sA (cS [0] 1)
  refine D ?_;obtain rfl:=ao h;exact aD U U (cS [] 1) ⟨U,U⟩
 replace h:=ag g15 h;refine D ?_;refine av U (fun g20=> ?_) (fun g20=> ?_)
 ·replace h:=ae g20 h;refine D ?_;refine gR (aK 0 U aj U Sn) ?_;refine D ?_;obtain ⟨b21,hb21,h⟩:=aa h;refine aE 5 63 b21 ?_ ?_
  ·clear h;refine aB 58 U (fun g21=> ?_) (fun g21=> ?_)
   ·have h:=ae g21 hb21;refine D ?_;obtain ⟨x22,hx22,h⟩:=aa h;obtain ⟨lx22,ux22,hx22⟩:=aq hx22;refine bM (aH 0 U aj U U Sn aP lx22 ux22) U (aS g21 U) U ?_;refine bM (bm (us:=[iV x22.Kind,iV x22.N,.string x22.S]) 0 U aj U hx22 bY (fun _ _ _ h=>by rw [show _=_ from h];rfl)) U (aS g21 U) U ?_;obtain ⟨y23,hy23,h⟩:=aa h;refine ca (ak (jP hy23) wV U (ad) im) U (aS g21 U) U ?_;rintro _ _ ⟨_,⟨rfl,rfl⟩,rfl⟩;refine D ?_;obtain rfl:=ao h;exact ab sA (cS [0] 1)
   have h:=ag g21 hb21;refine D ?_;obtain rfl:=ao h;exact ab sA (cS [0] 1)
  refine D ?_;obtain ⟨b24,hb24,h⟩:=aa h;refine aE 5 69 b24 ?_ ?_
  ·clear h;refine aB 64 U (fun g24=> ?_) (fun g24=> ?_)
   ·have h:=ae g24 hb24;refine D ?_;obtain ⟨x25,hx25,h⟩:=aa h;obtain ⟨lx25,ux25,hx25⟩:=aq hx25;refine bM (aH 0 U aj U U Sn aP lx25 ux25) U (aS g24 U) U ?_;refine bM (bm (us:=[iV x25.Kind,iV x25.N,.string x25.S]) 0 U aj U hx25 bY (fun _ _ _ h=>by rw [show _=_ from h];rfl)) U (aS g24 U) U ?_;obtain ⟨y26,hy26,h⟩:=aa h;refine ca (ak (jO hy26) wW U (ad) il) U (aS g24 U) U ?_;rintro _ _ ⟨_,⟨rfl,rfl⟩,rfl⟩;refine D ?_;obtain rfl:=ao h;exact ab sA (cS [0] 1)
   have h:=ag g24 hb24;refine D ?_;obtain rfl:=ao h;exact ab sA (cS [0] 1)
  refine D ?_;obtain rfl:=ao h;exact aD U U (cS [] 1) ⟨U,U⟩
 replace h:=ag g20 h;refine D ?_;refine av U (fun g27=> ?_) (fun g27=> ?_)
 ·replace h:=ae g27 h;refine D ?_;refine gR (aK 0 U aj U Sn) ?_;refine D ?_;obtain ⟨b28,hb28,h⟩:=aa h;refine aE 5 80 b28 ?_ ?_
  ·clear h;refine aB 75 U (fun g28=> ?_) (fun g28=> ?_)
   ·have h:=ae g28 hb28;refine D ?_;obtain ⟨x29,hx29,h⟩:=aa h;obtain ⟨lx29,ux29,hx29⟩:=aq hx29;refine bM (aH 0 U aj U U Sn aP lx29 ux29) U (aS g28 U) U ?_;refine bM (bm (us:=[iV x29.Kind,iV x29.N,.string x29.S]) 0 U aj U hx29 bY (fun _ _ _ h=>by rw [show _=_ from h];rfl)) U (aS g28 U) U ?_;obtain ⟨y30,hy30,h⟩:=aa h;refine ca (ak (jP hy30) wV U (ad) im) U (aS g28 U) U ?_;rintro _ _ ⟨_,⟨rfl,rfl⟩,rfl⟩;refine D ?_;obtain rfl:=ao h;exact ab sA (cS [0] 1)
   have h:=ag g28 hb28;refine D ?_;obtain rfl:=ao h;exact ab sA (cS [0] 1)
  refine D ?_;obtain ⟨b31,hb31,h⟩:=aa h;refine aE 5 86 b31 ?_ ?_
  ·clear h;refine aB 81 U (fun g31=> ?_) (fun g31=> ?_)
   ·have h:=ae g31 hb31;refine D ?_;obtain ⟨x32,hx32,h⟩:=aa h;obtain ⟨lx32,ux32,hx32⟩:=aq hx32;refine bM (aH 0 U aj U U Sn aP lx32 ux32) U (aS g31 U) U ?_;refine bM (bm (us:=[iV x32.Kind,iV x32.N,.string x32.S]) 0 U aj U hx32 bY (fun _ _ _ h=>by rw [show _=_ from h];rfl)) U (aS g31 U) U ?_;obtain ⟨y33,hy33,h⟩:=aa h;refine ca (ak (jP hy33) wV U (ad) im) U (aS g31 U) U ?_;rintro _ _ ⟨_,⟨rfl,rfl⟩,rfl⟩;refine D ?_;obtain rfl:=ao h;exact ab sA (cS [0] 1)
   have h:=ag g31 hb31;refine D ?_;obtain rfl:=ao h;exact ab sA (cS [0] 1)
  refine D ?_;obtain rfl:=ao h;exact aD U U (cS [] 1) ⟨U,U⟩
 replace h:=ag g27 h;refine D ?_;refine av U (fun g34=> ?_) (fun g34=> ?_)
 ·replace h:=ae g34 h;refine D ?_;obtain ⟨y35,hy35,h⟩:=aa h;refine gD (ak (pL hy35) JJ U (Ex (ac (i:=0) U U) ad) oC) ?_;rintro _ _ ⟨_,⟨rfl,rfl⟩,rfl⟩;refine D ?_;obtain rfl:=ao h;exact aD U U (cS [] 1) ⟨U,U⟩
 replace h:=ag g34 h;refine D ?_;refine av U (fun g36=> ?_) (fun g36=> ?_)
 ·replace h:=ae g36 h;refine D ?_;refine gR (aK 0 U aj U Sn) ?_;refine D ?_;obtain ⟨b37,hb37,h⟩:=aa h;refine aE 6 102 b37 ?_ ?_
  ·clear h;refine aB 96 U (fun g37=> ?_) (fun g37=> ?_)
   ·have h:=ae g37 hb37;refine D ?_;obtain ⟨x38,hx38,h⟩:=aa h;obtain ⟨lx38,ux38,hx38⟩:=aq hx38;refine bM (aH 0 U aj U U Sn aP lx38 ux38) U (aS g37 U) U ?_;refine bM (mH 0 U aj U (bx lx38 ux38) fR) U (aS g37 U) U ?_;refine bM (aT (u:=iV x38.Kind) 0 U aj U hx38 cX (fun _ _ _ h=>by rw [show _=_ from h];rfl)) U (aS g37 U) U ?_;refine D ?_;obtain rfl:=ao h;exact ab sA (cS [0] 1)
   have h:=ag g37 hb37;refine D ?_;obtain rfl:=ao h;exact ab sA (cS [0] 1)
  refine D ?_;obtain ⟨b39,hb39,h⟩:=aa h;refine aE 4 107 b39 ?_ ?_
  ·clear h;refine aB 103 U (fun g39=> ?_) (fun g39=> ?_)
   ·have h:=ae g39 hb39;refine D ?_;obtain ⟨q40,h⟩:=ap h;refine NP 0 U (l:=(1:Int).toNat) (h:=a1.length) q40.2.1 q40.2.2 ?_;rintro A41 n41 c41 e41;refine bM (yQ 1 U e41 U Sn aP U (by rw [Int.toNat_of_nonneg q40.1];rfl) q40.2.1) U (aS g39 U) U ?_;obtain ⟨y42,hy42,h⟩:=aa h;refine ca (ak (pL hy42) JJ U (Ex (ac (i:=0) U U) ad) oC) U (aS g39 U) U ?_;rintro _ _ ⟨_,⟨rfl,rfl⟩,rfl⟩;refine D ?_;obtain rfl:=ao h;exact ab sA (cS [1] 2)
   have h:=ag g39 hb39;refine D ?_;obtain rfl:=ao h;exact ab sA (cS [0] 1)
  refine D ?_;obtain rfl:=ao h;exact aD U U (cS [] 1) ⟨U,U⟩
 replace h:=ag g36 h;refine D ?_;refine av U (fun g43=> ?_) (fun g43=> ?_)
 ·replace h:=ae g43 h;refine D ?_;refine gR (aK 0 U aj U Sn) ?_;refine D ?_;obtain ⟨b44,hb44,h⟩:=aa h;refine aE 5 118 b44 ?_ ?_
  ·clear h;refine aB 113 U (fun g44=> ?_) (fun g44=> ?_)
   ·have h:=ae g44 hb44;refine D ?_;obtain ⟨x45,hx45,h⟩:=aa h;obtain ⟨lx45,ux45,hx45⟩:=aq hx45;refine bM (aH 0 U aj U U Sn aP lx45 ux45) U (aS g44 U) U ?_;refine bM (bm (us:=[iV x45.Kind,iV x45.N,.string x45.S]) 0 U aj U hx45 bY (fun _ _ _ h=>by rw [show _=_ from h];rfl)) U (aS g44 U) U ?_;obtain ⟨y46,hy46,h⟩:=aa h;refine ca (ak (jP hy46) wV U (ad) im) U (aS g44 U) U ?_;rintro _ _ ⟨_,⟨rfl,rfl⟩,rfl⟩;refine D ?_;obtain rfl:=ao h;exact ab sA (cS [0] 1)
   have h:=ag g44 hb44;refine D ?_;obtain rfl:=ao h;exact ab sA (cS [0] 1)
  refine D ?_;obtain rfl:=ao h;exact aD U U (cS [] 1) ⟨U,U⟩
 replace h:=ag g43 h;refine D ?_;obtain rfl:=ao h;exact aD U U (cS [] 1) ⟨U,U⟩
theorem xp {r:Bool}: ∀v post,((fun (u:Value) (post:List Chunk)=>u=.bool r∧post=[])) v post→ ∀c∈post,cn c:=by
 rintro _ _ ⟨rfl,rfl⟩;exact ad
def gi (N:Nat)(a0:SD)(x14:Bool×SG):(Unit)→Option (Option Exit×Unit)
 |()=>(ur N x14.2).bind fun y17=>bif !y17 then (some (some .ret,())) else (some (none,()))
def dL (N:Nat)(a0:SD):Option Bool:=
 (bif decide (a0.Kind<1) then (some true) else (some (decide (11<a0.Kind)))).bind fun b5=>(bif b5 then (some true) else (some (decide (a0.Shape<0)))).bind fun b6=>(bif b6 then (some true) else (some (decide (a0.Flags<0)))).bind fun b7=>(bif b7 then (some true) else (some (decide (63<a0.Flags)))).bind fun b8=>(bif b8 then (some true) else ((bif !decide (a0.Age=0) then (some (!decide (a0.Age=1))) else (some false)).bind fun b10=>some b10)).bind fun b9=>bif b9 then (some false) else ((rE N a0).bind fun y12=>(mY N a0 (dk (fun x st=>gi N a0 x st)) (none,())).bind fun y15=>oL y15.1 ((jf N a0).bind fun y19=>(bif y19 then ((jQ N a0.Kind a0.More).bind fun y21=>some y21) else (some false)).bind fun b20=>some b20) (some false) (fun _=>none))
theorem kU {N:Nat}{a0:SD}{r:Bool}(h:dL N a0=some r):Okc Tryz.prog 94 [.agg #[iV a0.Kind,iV a0.Shape,iV a0.Flags,iV a0.Age,O A1 n1 c1,O A2 n2 c2]] ([bo A1 n1 c1 a0.Slots,bo A2 n2 c2 a0.More]) (fun u post=>u=.bool r∧post=[]):=by
 refine bz Tryz.func94 U U ?_;simp only [aR];refine D ?_;refine gD (bd U U) ?_;rintro _ _ ⟨B3,rfl,rfl⟩;refine gD (aN GY U) ?_;rintro _ _ ⟨B4,rfl,rfl⟩;refine D ?_;refine az ?_;refine D ?_;obtain ⟨b5,hb5,h⟩:=aa h;refine aE 4 12 b5 ?_ ?_
 ·clear h;refine aB 8 U (fun g5=> ?_) (fun g5=> ?_)
  ·have h:=ae g5 hb5;refine D ?_;obtain rfl:=ao h;exact ab sA (cS [0,1,2,3] 4)
  have h:=ag g5 hb5;refine D ?_;obtain rfl:=ao h;exact ab sA (cS [0,1,2,3] 4)
 refine D ?_;obtain ⟨b6,hb6,h⟩:=aa h;refine aE 4 17 b6 ?_ ?_
 ·clear h;refine aB 13 U (fun g6=> ?_) (fun g6=> ?_)
  ·have h:=ae g6 hb6;refine D ?_;obtain rfl:=ao h;exact ab sA (cS [0,1,2,3] 4)
  have h:=ag g6 hb6;refine D ?_;obtain rfl:=ao h;exact ab sA (cS [0,1,2,3] 4)
 refine D ?_;obtain ⟨b7,hb7,h⟩:=aa h;refine aE 4 22 b7 ?_ ?_
 ·clear h;refine aB 18 U (fun g7=> ?_) (fun g7=> ?_)
  ·have h:=ae g7 hb7;refine D ?_;obtain rfl:=ao h;exact ab sA (cS [0,1,2,3] 4)
  have h:=ag g7 hb7;refine D ?_;obtain rfl:=ao h;exact ab sA (cS [0,1,2,3] 4)
 refine D ?_;obtain ⟨b8,hb8,h⟩:=aa h;refine aE 4 27 b8 ?_ ?_
 ·clear h;refine aB 23 U (fun g8=> ?_) (fun g8=> ?_)
  ·have h:=ae g8 hb8;refine D ?_;obtain rfl:=ao h;exact ab sA (cS [0,1,2,3] 4)
  have h:=ag g8 hb8;refine D ?_;obtain rfl:=ao h;exact ab sA (cS [0,1,2,3] 4)
 refine D ?_;obtain ⟨b9,hb9,h⟩:=aa h;refine aE 9 37 b9 ?_ ?_
 ·clear h;refine aB 28 U (fun g9=> ?_) (fun g9=> ?_)
  ·have h:=ae g9 hb9;refine D ?_;obtain rfl:=ao h;exact ab sA (cS [0,1,2,3] 4)
  have h:=ag g9 hb9;refine D ?_;obtain ⟨b10,hb10,h⟩:=aa h;refine aE 4 36 b10 ?_ ?_
  ·clear h;refine aB 32 U (fun g10=> ?_) (fun g10=> ?_)
   ·have h:=ae g10 hb10;refine D ?_;obtain rfl:=ao h;exact ab sA (cS [0,1,2,3] 4)
   have h:=ag g10 hb10;refine D ?_;obtain rfl:=ao h;exact ab sA (cS [0,1,2,3] 4)
  refine D ?_;obtain rfl:=ao h;exact ab sA (cS [0,1,2,3] 4)
 refine D ?_;refine av U (fun g11=> ?_) (fun g11=> ?_)
 ·replace h:=ae g11 h;refine D ?_;refine gO (au (us:=[.bool false]) (cs':=[.bool false]) 0 U U U U Bq U U U) ?_;rintro _ _ rfl;refine D ?_;obtain rfl:=ao h;exact dB (rs:=[.cell 2 4]) (vs:=[.bool false]) U (.cons (rW 0 U U Hr) .nil) U (cS [] 4) ⟨U,U⟩
 replace h:=ag g11 h;refine D ?_;refine az ?_;refine D ?_;refine gR (aA (us:=[iV a0.Kind,iV a0.Shape,iV a0.Flags,iV a0.Age,O A1 n1 c1,O A2 n2 c2]) 1 U U bh U) ?_;obtain ⟨y12,hy12,h⟩:=aa h;refine gD (ak (BQ hy12) JX U (Ex (ac (i:=2) U U) (Ex (ac (i:=3) U U) ad)) xK) ?_;rintro _ _ ⟨_,⟨B13,rfl,rfl⟩,rfl⟩;refine tS ?_;refine gL ?_;refine gZ ?_ bU (ik 0 U);obtain ⟨y15,hy15,h⟩:=aa h;refine tR (en:=(fun x=> [.bool x.1,.agg #[iV x.2.Kind,iV x.2.N,.string x.2.S]])) (fun x st=>gi N a0 x st) (fun (st:Unit) (mz:Unit)=> [bo A1 n1 c1 a0.Slots,bo A2 n2 c2 a0.More,ax B3 47 [iV a0.Kind,iV a0.Shape,iV a0.Flags,iV a0.Age,O A1 n1 c1,O A2 n2 c2],ax B4 4 [.bool false]]) [bE B13 47 [iV a0.Kind,iV a0.Shape,iV a0.Flags,iV a0.Age,O A1 n1 c1,O A2 n2 c2],bo A1 n1 c1 a0.Slots,bo A2 n2 c2 a0.More] (()) (()) U U JK U (fun _=>U) (fun l G hY=>(wl hy15 hY).mono fun _ _ hh=>hh.2) (aJ [0,3,4] [] [3,4,2,1] 5 U) h ?_ ?_ ?_ ?_
 ·rintro l x14 _ je sr14 _ h;replace h:gi N a0 x14 ()=some (je,sr14):=h;simp only [zZ,List.zip_cons_cons,List.zip_nil_left,List.zip_nil_right,List.reverse_cons,List.reverse_nil,List.nil_append,List.cons_append];refine dq ?_;refine gD (aN jD U) ?_;rintro _ _ ⟨B16,rfl,rfl⟩;refine gO (au (us:=[iV x14.2.Kind,iV x14.2.N,.string x14.2.S]) (cs':=[iV x14.2.Kind,iV x14.2.N,.string x14.2.S]) 0 U U U U aP U U U) ?_;rintro _ _ rfl;refine cN ?_;refine D ?_;refine gR (aA (us:=[iV x14.2.Kind,iV x14.2.N,.string x14.2.S]) 0 U U bY U) ?_;obtain ⟨y17,hy17,h⟩:=aa h;refine gD (ak (HY hy17) O3 U (ad) EJ) ?_;rintro _ _ ⟨_,⟨rfl,rfl⟩,rfl⟩;refine D ?_;refine av U (fun g18=> ?_) (fun g18=> ?_)
  ·replace h:=ae g18 h;refine D ?_;refine gO (au (us:=[.bool false]) (cs':=[.bool false]) 4 U U U U Bq U U U) ?_;rintro _ _ rfl;refine D ?_;obtain ⟨rfl,rfl⟩:=Prod.mk.inj (Option.some.inj h);exact I5 ((cS [1,2,3,4] 5).trans (gh () U))
  replace h:=ag g18 h;refine D ?_;obtain ⟨rfl,rfl⟩:=Prod.mk.inj (Option.some.inj h);exact Cj ((cS [1,2,3,4] 5).trans (gh () U))
 ·rintro _ h;refine pp ([bo A1 n1 c1 a0.Slots,bo A2 n2 c2 a0.More,ax B3 47 [iV a0.Kind,iV a0.Shape,iV a0.Flags,iV a0.Age,O A1 n1 c1,O A2 n2 c2],ax B4 4 [.bool false]]) U ?_;refine D ?_;refine gR (aA (us:=[iV a0.Kind,iV a0.Shape,iV a0.Flags,iV a0.Age,O A1 n1 c1,O A2 n2 c2]) 2 U U bh U) ?_;obtain ⟨y19,hy19,h⟩:=aa h;refine gD (ak (ym hy19) O2 U (Ex (ac (i:=0) U U) (Ex (ac (i:=1) U U) ad)) wk) ?_;rintro _ _ ⟨_,⟨rfl,rfl⟩,rfl⟩;refine D ?_;obtain ⟨b20,hb20,h⟩:=aa h;refine aE 6 53 b20 ?_ ?_
  ·clear h;refine aB 47 U (fun g20=> ?_) (fun g20=> ?_)
   ·have h:=ae g20 hb20;refine D ?_;obtain ⟨y21,hy21,h⟩:=aa h;refine ca (ak (Ac hy21) O1 U (Ex (ac (i:=1) U U) ad) xp) U (aS g20 U) U ?_;rintro _ _ ⟨_,⟨rfl,rfl⟩,rfl⟩;refine D ?_;obtain rfl:=ao h;exact ab sA (cS [0,1,2,3] 4)
   have h:=ag g20 hb20;refine D ?_;obtain rfl:=ao h;exact ab sA (cS [0,1,2,3] 4)
  refine gO (au (us:=[.bool b20]) (cs':=[.bool b20]) 3 U U U U Bq U U U) ?_;rintro _ _ rfl;refine D ?_;obtain rfl:=ao h;exact dB (rs:=[.cell 2 4]) (vs:=[.bool b20]) U (.cons (rW 3 U U Hr) .nil) U (cS [] 4) ⟨U,U⟩
 ·rintro _ h;refine pp ([bo A1 n1 c1 a0.Slots,bo A2 n2 c2 a0.More,ax B3 47 [iV a0.Kind,iV a0.Shape,iV a0.Flags,iV a0.Age,O A1 n1 c1,O A2 n2 c2],ax B4 4 [.bool false]]) U ?_;refine D ?_;obtain rfl:=ao h;exact dB (rs:=[.cell 2 4]) (vs:=[.bool false]) U (.cons (rW 3 U U Hr) .nil) U (cS [] 4) ⟨U,U⟩
 rintro i _ h;exact aC h
theorem iL {r:Bool}: ∀v post,((fun (u:Value) (post:List Chunk)=>u=.bool r∧post=[])) v post→ ∀c∈post,cn c:=by
 rintro _ _ ⟨rfl,rfl⟩;exact ad
def df (N:Nat)(a0:(List SG)):Option (List SG):=
 bG (bZ (([]:List SG).length+a0.length)) (some (([]:List SG)++a0))
theorem fD {N:Nat}{a0:(List SG)}{r:(List SG)}(h:df N a0=some r):Okc Tryz.prog 85 [O A1 n1 c1] ([bo A1 n1 c1 a0]) (fun u post=> ∃A0 n0 c0,u=O A0 n0 c0∧post=[bL A0 n0 c0 r]):=by
 refine bz Tryz.func85 U U ?_;simp only [aR];refine D ?_;refine az ?_;refine D ?_;refine gE (HN U Sn) ?_;refine D ?_;refine av U (fun g2=> ?_) (fun g2=> ?_)
 ·replace g2:(A1).isNone=true:=by simpa using g2
  refine Pv 0 U aj g2 (fun hx=> ?_);subst hx;replace h:bG (bZ (([]:List SG).length+([]:List SG).length)) (some (([]:List SG)++([]:List SG)))=some r:=h
  replace h:some []=some r:=by simpa [bG] using h
  refine D ?_;obtain rfl:=ao h;exact aD U U ((ce bv 52 _).trans (cS [0] 2)) ⟨_,_,_,U,U⟩
 refine D ?_;refine gD (bw (R:=bv) (vss:=[]) (xs:=[]) U (Ef) U U (fun _ _ hr=>All2.nil)) ?_;rintro _ _ ⟨A4,n4,c4,rfl,rfl⟩;refine D ?_;obtain ⟨q5,h⟩:=ap h;refine gD (bj 0 1 U U aj U U Sn ta U U q5) ?_;rintro _ _ ⟨A6,n6,c6,rfl,rfl⟩;refine D ?_;obtain rfl:=ao h;exact aD U U (cS [0] 2) ⟨_,_,_,U,U⟩
theorem dV {r:(List SG)}: ∀v post,((fun (u:Value) (post:List Chunk)=> ∃A0 n0 c0,u=O A0 n0 c0∧post=[bL A0 n0 c0 r])) v post→ ∀c∈post,cn c:=by
 rintro _ _ ⟨_,_,_,rfl,rfl⟩;exact Ex bJ (ad)
def ed (N:Nat)(a0:SD):Option SD:=
 (df N a0.Slots).bind fun y5=>(df N a0.More).bind fun y7=>some (⟨a0.Kind,a0.Shape,a0.Flags,a0.Age,y5,y7⟩:SD)
theorem gP {N:Nat}{a0:SD}{r:SD}(h:ed N a0=some r):Okc Tryz.prog 91 [.agg #[iV a0.Kind,iV a0.Shape,iV a0.Flags,iV a0.Age,O A1 n1 c1,O A2 n2 c2]] ([bo A1 n1 c1 a0.Slots,bo A2 n2 c2 a0.More]) (fun u post=> ∃A0 n0 c0 A1 n1 c1,u=.agg #[iV r.Kind,iV r.Shape,iV r.Flags,iV r.Age,O A0 n0 c0,O A1 n1 c1]∧post=[bL A0 n0 c0 r.Slots,bL A1 n1 c1 r.More]):=by
 refine bz Tryz.func91 U U ?_;simp only [aR];refine D ?_;refine gD (bd U U) ?_;rintro _ _ ⟨B3,rfl,rfl⟩;refine gD (aN dI U) ?_;rintro _ _ ⟨B4,rfl,rfl⟩;refine D ?_;refine az ?_;refine cv Y _ (ah _) ?_;refine zE 0 U (bX U zQ) ?_;refine zR 1 U (bc 1 U U eu U) ?_;refine zE 3 U (bX U iD) ?_;refine zR 4 U (bc 1 U U eu U) ?_;obtain ⟨y5,hy5,h⟩:=aa h;refine zD 2 U (ak (fD hy5) wo U (Ex (ac (i:=2) U U) ad) dV) ?_;rintro _ _ ⟨_,⟨A6,n6,c6,rfl,rfl⟩,rfl⟩;refine bN (cS [1,2,3,4] 5) ?_;refine zE 6 U (bX U zQ) ?_;obtain ⟨y7,hy7,h⟩:=aa h;refine zD 5 U (ak (fD hy7) wo U (Ex (ac (i:=4) U U) ad) dV) ?_;rintro _ _ ⟨_,⟨A8,n8,c8,rfl,rfl⟩,rfl⟩;refine bN (cS [2,3,4,5] 6) ?_;refine lx 7 U Y Y (au (us:=[O A6 n6 c6]) (cs':=[iV a0.Kind,iV a0.Shape,iV a0.Flags,iV a0.Age,O A6 n6 c6,O A2 n2 c2]) 3 U U U U dA U U U) ?_;rintro _ _ rfl;refine zE 8 U (bX U iD) ?_;refine lx 9 U Y Y (au (us:=[O A8 n8 c8]) (cs':=[iV a0.Kind,iV a0.Shape,iV a0.Flags,iV a0.Age,O A6 n6 c6,O A8 n8 c8]) 3 U U U U dA U U U) ?_;rintro _ _ rfl;refine bH Y ?_;refine D ?_;refine gR (aA (us:=[iV a0.Kind,iV a0.Shape,iV a0.Flags,iV a0.Age,O A6 n6 c6,O A8 n8 c8]) 3 U U bh U) ?_
 refine gO (au (us:=[iV a0.Kind,iV a0.Shape,iV a0.Flags,iV a0.Age,O A6 n6 c6,O A8 n8 c8]) (cs':=[iV a0.Kind,iV a0.Shape,iV a0.Flags,iV a0.Age,O A6 n6 c6,O A8 n8 c8]) 2 U U U U bF U U U) ?_;rintro _ _ rfl;refine D ?_;obtain rfl:=ao h;exact dB (rs:=[.cell 2 47]) (vs:=[.agg #[iV a0.Kind,iV a0.Shape,iV a0.Flags,iV a0.Age,O A6 n6 c6,O A8 n8 c8]]) U (.cons (co 2 U U bh) .nil) U (cS [1,0] 6) ⟨_,_,_,_,_,_,U,U⟩
theorem fx {r:SD}: ∀v post,((fun (u:Value) (post:List Chunk)=> ∃A0 n0 c0 A1 n1 c1,u=.agg #[iV r.Kind,iV r.Shape,iV r.Flags,iV r.Age,O A0 n0 c0,O A1 n1 c1]∧post=[bL A0 n0 c0 r.Slots,bL A1 n1 c1 r.More])) v post→ ∀c∈post,cn c:=by
 rintro _ _ ⟨_,_,_,_,_,_,rfl,rfl⟩;exact Ex bJ (Ex bJ (ad))
end
section
variable {A1 A2 A3 A4 A5:Option Addr} {B1 B3 B6 M7 c1 c2 c3 c4 c5 n1 n2 n3 n4 n5:Nat}
open Go.RowKit Go.ChangeShapes Go.WideShapes Go.Deep
def Aq (x:SG):Prop:=(in64 x.Kind)∧(in64 x.N)∧(True)
def CK (x:SD):Prop:=(in64 x.Kind)∧(in64 x.Shape)∧(in64 x.Flags)∧(in64 x.Age)∧(Qq (fun z38=>Aq z38) x.Slots)∧(Qq (fun z38=>Aq z38) x.More)
def PK (x:SB):Prop:=(Qq (fun z34=>CK z34) x.Young)∧(Qq (fun z34=>CK z34) x.Old)
def Q2 (x:SE):Prop:=(in64 x.Kind)∧(in64 x.N)∧(CK x.C)∧(Aq x.V)
def G0 (x:Sy):Prop:=(in64 x.Kind)∧(in64 x.I)∧(in64 x.J)
set_option maxRecDepth 100000 in
theorem Iq:Pr Tryz.prog 29 F2 G0:=fun {_ enc w base spare held _ cs y} h hw=>by
 obtain ⟨xs,m, -,hy,hl,hx,hf⟩:=DataW.trod_struct So h
 have hc:Tryz.prog.cellsOf 29=3:=by kernel_rfl
 rw [hc] at hl
 match cs,hl,hf with
 | [c0,c1,c2],_,hf=>
  have k0:DataW.trod enc Tryz.prog w base spare held m 3 (List.take (Tryz.prog.cellsOf 3) (List.drop 0 [c0,c1,c2]))=xs[0]? :=hf 0 _ rfl
  have z0:Tryz.prog.cellsOf 3=1:=by kernel_rfl
  simp only [z0,List.drop_succ_cons,List.drop_zero,List.take_succ_cons,List.take_zero] at k0
  have l0:0<xs.length:=by rw [hx];decide
  obtain ⟨a0,r0,w0⟩:=(Rdr.w (Co R4)) (k0.trans (List.getElem?_eq_getElem l0)) (Ao So hy hw (i:=0) rfl (List.getElem?_eq_getElem l0));have k1:DataW.trod enc Tryz.prog w base spare held m 3 (List.take (Tryz.prog.cellsOf 3) (List.drop 1 [c0,c1,c2]))=xs[1]? :=hf 1 _ rfl
  have z1:Tryz.prog.cellsOf 3=1:=by kernel_rfl
  simp only [z1,List.drop_succ_cons,List.drop_zero,List.take_succ_cons,List.take_zero] at k1
  have l1:1<xs.length:=by rw [hx];decide
  obtain ⟨a1,r1,w1⟩:=(Rdr.w (Co R4)) (k1.trans (List.getElem?_eq_getElem l1)) (Ao So hy hw (i:=1) rfl (List.getElem?_eq_getElem l1));have k2:DataW.trod enc Tryz.prog w base spare held m 3 (List.take (Tryz.prog.cellsOf 3) (List.drop 2 [c0,c1,c2]))=xs[2]? :=hf 2 _ rfl
  have z2:Tryz.prog.cellsOf 3=1:=by kernel_rfl
  simp only [z2,List.drop_succ_cons,List.drop_zero,List.take_succ_cons,List.take_zero] at k2
  have l2:2<xs.length:=by rw [hx];decide
  obtain ⟨a2,r2,w2⟩:=(Rdr.w (Co R4)) (k2.trans (List.getElem?_eq_getElem l2)) (Ao So hy hw (i:=2) rfl (List.getElem?_eq_getElem l2));obtain ⟨rfl, -⟩:=List.cons.inj (show [c0]=[_] from r0);obtain ⟨rfl, -⟩:=List.cons.inj (show [c1]=[_] from r1);obtain ⟨rfl, -⟩:=List.cons.inj (show [c2]=[_] from r2);exact ⟨⟨a0,a1,a2⟩,U,⟨w0,w1,w2⟩⟩
set_option maxRecDepth 100000 in
theorem Qp {H:Type}{enc:TypeId×Value→H}{hJ:World}{r:Reach}{b0:Nat}{base:Nat}{spare:Nat→Bool}{held:Bool}{v:Value}{d:DataW H}{p:List MemPlace}
  (hv:Value.okWide Tryz.prog hJ r b0 22 v) (h:DataW.Trod enc Tryz.prog hJ base spare held 22 v d p) (hz:Light Tryz.prog 22 d): ∃(m:(List Sy)) (Aq_0:Option Addr) (nq_0 cq_0:Nat),v=O Aq_0 nq_0 cq_0∧(Qq (fun z22=>G0 z22) m)∧(tT F2 (O Aq_0 nq_0 cq_0) m).ok (fun _=>False) (fun q=>q<hJ.heap.size) hJ:=by
 obtain ⟨A,n,c,rfl⟩:=okWide_slice Sq hv;obtain ⟨fuel,hf⟩:=h;obtain ⟨m,⟨u,e,h1⟩,hw⟩:=(Jm Sq Y (by decide) (of_decide_eq_true Y) Iq) hf hz;obtain ⟨rfl, -⟩:=List.cons.inj (show [_]=[_] from e);exact ⟨m,A,n,c,U,hw,h1⟩
set_option maxRecDepth 100000 in
theorem NG {H:Type}{enc:TypeId×Value→H}{hJ:World}{r:Reach}{b0:Nat}{base:Nat}{spare:Nat→Bool}{held:Bool}{v:Value}{d:DataW H}{p:List MemPlace}
  (hv:Value.okWide Tryz.prog hJ r b0 23 v) (h:DataW.Trod enc Tryz.prog hJ base spare held 23 v d p) (hz:Light Tryz.prog 23 d): ∃(m:(List Int)) (Aq_0:Option Addr) (nq_0 cq_0:Nat),v=O Aq_0 nq_0 cq_0∧(Qq (fun z23=>in64 z23) m)∧(tT (fW .i64) (O Aq_0 nq_0 cq_0) m).ok (fun _=>False) (fun q=>q<hJ.heap.size) hJ:=by
 obtain ⟨A,n,c,rfl⟩:=okWide_slice Sg hv;obtain ⟨fuel,hf⟩:=h;obtain ⟨m,⟨u,e,h1⟩,hw⟩:=(Jm Sg Y (by decide) (of_decide_eq_true Y) (Rdr.w (Co R4))) hf hz;obtain ⟨rfl, -⟩:=List.cons.inj (show [_]=[_] from e);exact ⟨m,A,n,c,U,hw,h1⟩
end
end Go.Proofs.YtmimkglhbmcokaaGreat