/- Merged texts: part 3. No conditions of their own. -/
import Derived.Test.YtmimkglhbmcokaaGreatG2
import Derived.Test.YtmimkglhbmcokaaGreatChecked
import Derived.ProofKit
import Derived.Test.YtmimkglhbmcokaaGreatG1
namespace Go.Proofs.YtmimkglhbmcokaaGreat
theorem EM:type_of% Tryz.underlying36:=Tryz.underlying36
theorem Ex:type_of% Tryz.underlying47:=Tryz.underlying47
theorem z9:type_of% Tryz.underlying52:=Tryz.underlying52
theorem t9:type_of% Tryz.underlying9:=Tryz.underlying9
theorem t5:type_of% Tryz.underlying3:=Tryz.underlying3
theorem t0:type_of% Tryz.underlying126:=Tryz.underlying126
theorem hU:type_of% Tryz.underlying23:=Tryz.underlying23
theorem hP:type_of% Tryz.underlying34:=Tryz.underlying34
theorem hO:type_of% Tryz.underlying38:=Tryz.underlying38
variable {A1 A2 A3 A4 A5 A6:Option Addr} {B1 B2 B3 M5 M6 c1 c2 c3 c4 c5 c6 n1 n2 n3 n4 n5 n6:Nat}
open Go.RowKit Asn
set_option maxRecDepth 20000
structure Gu where
 Kind:Int
 N:Int
 S:ByteArray
 deriving DecidableEq,Inhabited
def aF:Rep Gu:=.flat 3 (fun x=> [iV x.Kind,iV x.N,.string x.S]) (fun _=>rfl) (fun _=>rfl)
structure Gw where
 Kind:Int
 Shape:Int
 Flags:Int
 Age:Int
 Slots:(List Gu)
 More:(List Gu)
 deriving DecidableEq,Inhabited
def bV:Rep Gw where
 sz:=6
 rel S w vs x:= ∃A4 n4 c4 A5 n5 c5,vs=[iV x.Kind,iV x.Shape,iV x.Flags,iV x.Age,I A4 n4 c4,I A5 n5 c5]∧SlR aF S w (I A4 n4 c4) x.Slots∧SlR aF S w (I A5 n5 c5) x.More
 loc:=fun h ⟨_,_,_,_,_,_,e,h4,h5⟩=>⟨_,_,_,_,_,_,e,h4.loc h,h5.loc h⟩
 mono:=fun h ⟨_,_,_,_,_,_,e,h4,h5⟩=>⟨_,_,_,_,_,_,e,h4.mono h,h5.mono h⟩
 len:=fun ⟨_,_,_,_,_,_,e,_⟩=>by rw [e];rfl
 one:=fun ⟨_,_,_,_,_,_,e,_⟩=>by rw [e];rfl
theorem cA (x:Gw):vD bV x fun vs cs=> ∃A4 n4 c4 A5 n5 c5,vs=[iV x.Kind,iV x.Shape,iV x.Flags,iV x.Age,I A4 n4 c4,I A5 n5 c5]∧cs=[iS aF (I A4 n4 c4) x.Slots,iS aF (I A5 n5 c5) x.More]:=fun S w vs ⟨_,_,_,_,_,_,e,h4,h5⟩=>⟨_,⟨_,_,_,_,_,_,e,rfl⟩,hJ h4 (hJ h5 (ai))⟩
structure Gx where
 Young:(List Gw)
 Old:(List Gw)
 deriving DecidableEq,Inhabited
def Bt:Rep Gx where
 sz:=2
 rel S w vs x:= ∃A0 n0 c0 A1 n1 c1,vs=[I A0 n0 c0,I A1 n1 c1]∧SlR bV S w (I A0 n0 c0) x.Young∧SlR bV S w (I A1 n1 c1) x.Old
 loc:=fun h ⟨_,_,_,_,_,_,e,h0,h1⟩=>⟨_,_,_,_,_,_,e,h0.loc h,h1.loc h⟩
 mono:=fun h ⟨_,_,_,_,_,_,e,h0,h1⟩=>⟨_,_,_,_,_,_,e,h0.mono h,h1.mono h⟩
 len:=fun ⟨_,_,_,_,_,_,e,_⟩=>by rw [e];rfl
 one:=fun ⟨_,_,_,_,_,_,e,_⟩=>by rw [e];rfl
structure Gy where
 m_:Gx
 all_:(List Int)
 met_:(List (Int×Unit))
 done_:Int
 deriving DecidableEq,Inhabited
abbrev aS (A:Option Addr)(n c:Nat):=iS aF (.slice A n c)
abbrev br (A:Option Addr)(n c:Nat):=iS bV (.slice A n c)
abbrev cc (A:Option Addr)(n c:Nat):=dQ (dn .i64) 3 (.slice A n c)
abbrev cB (A:Option Addr)(n c:Nat):=dQ aF 52 (.slice A n c)
abbrev eM (A:Option Addr)(n c:Nat):=iS (dn .i64) (.slice A n c)
abbrev tM (A:Option Addr)(n c:Nat):=dQ bV 47 (.slice A n c)
abbrev bd (x:Gu):Value:=.agg #[iV x.Kind,iV x.N,.string x.S]
abbrev ar (x:Gu):List Value:=[iV x.Kind,iV x.N,.string x.S]
theorem EP:av Tryz.prog 24:=⟨Tryz.f24,Tryz.func24,rfl,rfl⟩
theorem EO:av Tryz.prog 26:=⟨Tryz.f26,Tryz.func26,rfl,rfl⟩
theorem yW:av Tryz.prog 27:=⟨Tryz.f27,Tryz.func27,rfl,rfl⟩
theorem yV:av Tryz.prog 28:=⟨Tryz.f28,Tryz.func28,rfl,rfl⟩
theorem EN:av Tryz.prog 29:=⟨Tryz.f29,Tryz.func29,rfl,rfl⟩
theorem yU:av Tryz.prog 30:=⟨Tryz.f30,Tryz.func30,rfl,rfl⟩
theorem yT:av Tryz.prog 31:=⟨Tryz.f31,Tryz.func31,rfl,rfl⟩
theorem wy:av Tryz.prog 34:=⟨Tryz.f34,Tryz.func34,rfl,rfl⟩
theorem Cl:av Tryz.prog 37:=⟨Tryz.f37,Tryz.func37,rfl,rfl⟩
theorem Ck:av Tryz.prog 38:=⟨Tryz.f38,Tryz.func38,rfl,rfl⟩
theorem EL:av Tryz.prog 39:=⟨Tryz.f39,Tryz.func39,rfl,rfl⟩
theorem EK:av Tryz.prog 40:=⟨Tryz.f40,Tryz.func40,rfl,rfl⟩
theorem wx:av Tryz.prog 41:=⟨Tryz.f41,Tryz.func41,rfl,rfl⟩
theorem Cj:av Tryz.prog 43:=⟨Tryz.f43,Tryz.func43,rfl,rfl⟩
theorem yR:av Tryz.prog 44:=⟨Tryz.f44,Tryz.func44,rfl,rfl⟩
theorem EJ:av Tryz.prog 45:=⟨Tryz.f45,Tryz.func45,rfl,rfl⟩
theorem Ci:av Tryz.prog 46:=⟨Tryz.f46,Tryz.func46,rfl,rfl⟩
theorem Ch:av Tryz.prog 47:=⟨Tryz.f47,Tryz.func47,rfl,rfl⟩
theorem t6:av Tryz.prog 48:=⟨Tryz.f48,Tryz.func48,rfl,rfl⟩
theorem Cg:av Tryz.prog 55:=⟨Tryz.f55,Tryz.func55,rfl,rfl⟩
theorem yQ:av Tryz.prog 85:=⟨Tryz.f85,Tryz.func85,rfl,rfl⟩
theorem Cf:av Tryz.prog 89:=⟨Tryz.f89,Tryz.func89,rfl,rfl⟩
theorem Ce:av Tryz.prog 90:=⟨Tryz.f90,Tryz.func90,rfl,rfl⟩
theorem Cd:av Tryz.prog 91:=⟨Tryz.f91,Tryz.func91,rfl,rfl⟩
theorem EI:av Tryz.prog 92:=⟨Tryz.f92,Tryz.func92,rfl,rfl⟩
theorem yP:av Tryz.prog 94:=⟨Tryz.f94,Tryz.func94,rfl,rfl⟩
theorem EH:av Tryz.prog 95:=⟨Tryz.f95,Tryz.func95,rfl,rfl⟩
theorem Cc:av Tryz.prog 96:=⟨Tryz.f96,Tryz.func96,rfl,rfl⟩
theorem EG:av Tryz.prog 97:=⟨Tryz.f97,Tryz.func97,rfl,rfl⟩
theorem DW:av Tryz.prog 100:=⟨Tryz.f100,Tryz.func100,rfl,rfl⟩
theorem DV:av Tryz.prog 103:=⟨Tryz.f103,Tryz.func103,rfl,rfl⟩
theorem DU:av Tryz.prog 104:=⟨Tryz.f104,Tryz.func104,rfl,rfl⟩
theorem zX:av Tryz.prog 105:=⟨Tryz.f105,Tryz.func105,rfl,rfl⟩
theorem wF:av Tryz.prog 106:=⟨Tryz.f106,Tryz.func106,rfl,rfl⟩
theorem DT:av Tryz.prog 107:=⟨Tryz.f107,Tryz.func107,rfl,rfl⟩
theorem DS:av Tryz.prog 108:=⟨Tryz.f108,Tryz.func108,rfl,rfl⟩
theorem zW:av Tryz.prog 109:=⟨Tryz.f109,Tryz.func109,rfl,rfl⟩
theorem DR:av Tryz.prog 110:=⟨Tryz.f110,Tryz.func110,rfl,rfl⟩
theorem mO:av Tryz.prog 114:=⟨Tryz.f114,Tryz.func114,rfl,rfl⟩
theorem iP:av Tryz.prog 115:=⟨Tryz.f115,Tryz.func115,rfl,rfl⟩
theorem DQ:av Tryz.prog 116:=⟨Tryz.f116,Tryz.func116,rfl,rfl⟩
theorem wE:av Tryz.prog 117:=⟨Tryz.f117,Tryz.func117,rfl,rfl⟩
theorem DP:av Tryz.prog 118:=⟨Tryz.f118,Tryz.func118,rfl,rfl⟩
theorem DO:av Tryz.prog 119:=⟨Tryz.f119,Tryz.func119,rfl,rfl⟩
theorem sH:av Tryz.prog 120:=⟨Tryz.f120,Tryz.func120,rfl,rfl⟩
theorem DN:av Tryz.prog 121:=⟨Tryz.f121,Tryz.func121,rfl,rfl⟩
theorem DM:av Tryz.prog 122:=⟨Tryz.f122,Tryz.func122,rfl,rfl⟩
theorem DL:av Tryz.prog 123:=⟨Tryz.f123,Tryz.func123,rfl,rfl⟩
theorem zV:av Tryz.prog 124:=⟨Tryz.f124,Tryz.func124,rfl,rfl⟩
theorem zU:av Tryz.prog 125:=⟨Tryz.f125,Tryz.func125,rfl,rfl⟩
theorem wD:av Tryz.prog 130:=⟨Tryz.f130,Tryz.func130,rfl,rfl⟩
theorem wB:av Tryz.prog 131:=⟨Tryz.f131,Tryz.func131,rfl,rfl⟩
theorem DK:av Tryz.prog 132:=⟨Tryz.f132,Tryz.func132,rfl,rfl⟩
theorem zT:av Tryz.prog 139:=⟨Tryz.f139,Tryz.func139,rfl,rfl⟩
theorem zS:av Tryz.prog 168:=⟨Tryz.f168,Tryz.func168,rfl,rfl⟩
theorem DJ:av Tryz.prog 169:=⟨Tryz.f169,Tryz.func169,rfl,rfl⟩
theorem DI:av Tryz.prog 170:=⟨Tryz.f170,Tryz.func170,rfl,rfl⟩
theorem DH:av Tryz.prog 171:=⟨Tryz.f171,Tryz.func171,rfl,rfl⟩
theorem DG:av Tryz.prog 172:=⟨Tryz.f172,Tryz.func172,rfl,rfl⟩
theorem zQ:av Tryz.prog 173:=⟨Tryz.f173,Tryz.func173,rfl,rfl⟩
theorem DF:av Tryz.prog 176:=⟨Tryz.f176,Tryz.func176,rfl,rfl⟩
theorem wA:av Tryz.prog 177:=⟨Tryz.f177,Tryz.func177,rfl,rfl⟩
theorem DE:av Tryz.prog 178:=⟨Tryz.f178,Tryz.func178,rfl,rfl⟩
theorem DD:av Tryz.prog 181:=⟨Tryz.f181,Tryz.func181,rfl,rfl⟩
theorem zP:av Tryz.prog 182:=⟨Tryz.f182,Tryz.func182,rfl,rfl⟩
theorem DC:av Tryz.prog 187:=⟨Tryz.f187,Tryz.func187,rfl,rfl⟩
theorem wz:av Tryz.prog 188:=⟨Tryz.f188,Tryz.func188,rfl,rfl⟩
theorem zN:av Tryz.prog 189:=⟨Tryz.f189,Tryz.func189,rfl,rfl⟩
theorem DB:av Tryz.prog 190:=⟨Tryz.f190,Tryz.func190,rfl,rfl⟩
theorem DA:av Tryz.prog 191:=⟨Tryz.f191,Tryz.func191,rfl,rfl⟩
theorem Dz:av Tryz.prog 192:=⟨Tryz.f192,Tryz.func192,rfl,rfl⟩
theorem Dy:av Tryz.prog 193:=⟨Tryz.f193,Tryz.func193,rfl,rfl⟩
theorem Dx:av Tryz.prog 194:=⟨Tryz.f194,Tryz.func194,rfl,rfl⟩
theorem Dw:av Tryz.prog 195:=⟨Tryz.f195,Tryz.func195,rfl,rfl⟩
theorem Dv:av Tryz.prog 196:=⟨Tryz.f196,Tryz.func196,rfl,rfl⟩
theorem zM:av Tryz.prog 197:=⟨Tryz.f197,Tryz.func197,rfl,rfl⟩
theorem Du:av Tryz.prog 198:=⟨Tryz.f198,Tryz.func198,rfl,rfl⟩
theorem zL:av Tryz.prog 199:=⟨Tryz.f199,Tryz.func199,rfl,rfl⟩
theorem zK:av Tryz.prog 201:=⟨Tryz.f201,Tryz.func201,rfl,rfl⟩
theorem Dt:av Tryz.prog 202:=⟨Tryz.f202,Tryz.func202,rfl,rfl⟩
theorem Dr:av Tryz.prog 203:=⟨Tryz.f203,Tryz.func203,rfl,rfl⟩
theorem sG:av Tryz.prog 204:=⟨Tryz.f204,Tryz.func204,rfl,rfl⟩
theorem zJ:av Tryz.prog 205:=⟨Tryz.f205,Tryz.func205,rfl,rfl⟩
theorem Dq:av Tryz.prog 213:=⟨Tryz.f213,Tryz.func213,rfl,rfl⟩
theorem Dp:av Tryz.prog 214:=⟨Tryz.f214,Tryz.func214,rfl,rfl⟩
theorem zI:av Tryz.prog 223:=⟨Tryz.f223,Tryz.func223,rfl,rfl⟩
theorem Do:av Tryz.prog 224:=⟨Tryz.f224,Tryz.func224,rfl,rfl⟩
theorem oK:av Tryz.prog 225:=⟨Tryz.f225,Tryz.func225,rfl,rfl⟩
theorem oJ:av Tryz.prog 226:=⟨Tryz.f226,Tryz.func226,rfl,rfl⟩
theorem zH:av Tryz.prog 227:=⟨Tryz.f227,Tryz.func227,rfl,rfl⟩
theorem zG:av Tryz.prog 239:=⟨Tryz.f239,Tryz.func239,rfl,rfl⟩
theorem Dn:av Tryz.prog 240:=⟨Tryz.f240,Tryz.func240,rfl,rfl⟩
theorem Dm:av Tryz.prog 241:=⟨Tryz.f241,Tryz.func241,rfl,rfl⟩
theorem Dl:av Tryz.prog 242:=⟨Tryz.f242,Tryz.func242,rfl,rfl⟩
theorem oI:av Tryz.prog 243:=⟨Tryz.f243,Tryz.func243,rfl,rfl⟩
theorem oH:av Tryz.prog 244:=⟨Tryz.f244,Tryz.func244,rfl,rfl⟩
theorem zF:av Tryz.prog 245:=⟨Tryz.f245,Tryz.func245,rfl,rfl⟩
theorem Dk:av Tryz.prog 255:=⟨Tryz.f255,Tryz.func255,rfl,rfl⟩
theorem zC:av Tryz.prog 261:=⟨Tryz.f261,Tryz.func261,rfl,rfl⟩
theorem Dj:av Tryz.prog 265:=⟨Tryz.f265,Tryz.func265,rfl,rfl⟩
theorem oG (b o:Nat)(w:World):(Instr.fieldAt 36 (pV b o) 0).run Tryz.prog w=.ok (pV b o) w:=by kernel_rfl
theorem iN (b o:Nat)(w:World):(Instr.fieldAt 36 (pV b o) 1).run Tryz.prog w=.ok (.pointer (some ⟨b,o+1,none⟩)) w:=by kernel_rfl
theorem zv (b o:Nat)(w:World):(Instr.fieldAt 47 (pV b o) 0).run Tryz.prog w=.ok (pV b o) w:=by kernel_rfl
theorem zu (b o:Nat)(w:World):(Instr.fieldAt 47 (pV b o) 1).run Tryz.prog w=.ok (.pointer (some ⟨b,o+1,none⟩)) w:=by kernel_rfl
theorem zt (b o:Nat)(w:World):(Instr.fieldAt 47 (pV b o) 2).run Tryz.prog w=.ok (.pointer (some ⟨b,o+2,none⟩)) w:=by kernel_rfl
theorem zr (b o:Nat)(w:World):(Instr.fieldAt 47 (pV b o) 3).run Tryz.prog w=.ok (.pointer (some ⟨b,o+3,none⟩)) w:=by kernel_rfl
theorem iM (b o:Nat)(w:World):(Instr.fieldAt 47 (pV b o) 4).run Tryz.prog w=.ok (.pointer (some ⟨b,o+4,none⟩)) w:=by kernel_rfl
theorem ce (b o:Nat)(w:World):(Instr.fieldAt 47 (pV b o) 5).run Tryz.prog w=.ok (.pointer (some ⟨b,o+5,none⟩)) w:=by kernel_rfl
theorem eQ (b o:Nat)(w:World):(Instr.fieldAt 52 (pV b o) 0).run Tryz.prog w=.ok (pV b o) w:=by kernel_rfl
theorem iL (b o:Nat)(w:World):(Instr.fieldAt 52 (pV b o) 1).run Tryz.prog w=.ok (.pointer (some ⟨b,o+1,none⟩)) w:=by kernel_rfl
theorem Dc (b o:Nat)(w:World):(Instr.fieldAt 52 (pV b o) 2).run Tryz.prog w=.ok (.pointer (some ⟨b,o+2,none⟩)) w:=by kernel_rfl
theorem xD (b o:Nat)(w:World):(Instr.fieldAt 128 (pV b o) 0).run Tryz.prog w=.ok (pV b o) w:=by kernel_rfl
theorem qI (b o:Nat)(w:World):(Instr.fieldAt 128 (pV b o) 1).run Tryz.prog w=.ok (.pointer (some ⟨b,o+2,none⟩)) w:=by kernel_rfl
theorem BR (b o:Nat)(w:World):(Instr.fieldAt 128 (pV b o) 2).run Tryz.prog w=.ok (.pointer (some ⟨b,o+3,none⟩)) w:=by kernel_rfl
theorem tV (b o:Nat)(w:World):(Instr.fieldAt 128 (pV b o) 3).run Tryz.prog w=.ok (.pointer (some ⟨b,o+4,none⟩)) w:=by kernel_rfl
theorem cM:gk Tryz.prog 3=true:=by kernel_rfl
theorem xp:gk Tryz.prog 4=true:=by kernel_rfl
theorem Fv:gk Tryz.prog 9=true:=by kernel_rfl
theorem ln:gk Tryz.prog 23=true:=by kernel_rfl
theorem gK:gk Tryz.prog 34=true:=by kernel_rfl
theorem cz:gk Tryz.prog 38=true:=by kernel_rfl
theorem E4:gk Tryz.prog 97=true:=by kernel_rfl
theorem Eo:gk Tryz.prog 126=true:=by kernel_rfl
theorem En:gk Tryz.prog 129=true:=by kernel_rfl
theorem rc:gk Tryz.prog 137=true:=by kernel_rfl
theorem BE:gk Tryz.prog 151=true:=by kernel_rfl
theorem cu:rp Tryz.prog 36 2=true:=by kernel_rfl
theorem bo:rp Tryz.prog 47 6=true:=by kernel_rfl
theorem bn:rp Tryz.prog 52 3=true:=by kernel_rfl
theorem dj:dJ Tryz.prog 3 1=true:=by kernel_rfl
theorem rC:dJ Tryz.prog 4 1=true:=by kernel_rfl
theorem mp:dJ Tryz.prog 23 1=true:=by kernel_rfl
theorem yh:dJ Tryz.prog 34 1=true:=by kernel_rfl
theorem iX:dJ Tryz.prog 36 2=true:=by kernel_rfl
theorem eJ:dJ Tryz.prog 38 1=true:=by kernel_rfl
theorem bu:dJ Tryz.prog 47 6=true:=by kernel_rfl
theorem aI:dJ Tryz.prog 52 3=true:=by kernel_rfl
theorem CS:dJ Tryz.prog 129 1=true:=by kernel_rfl
theorem CR:dJ Tryz.prog 137 1=true:=by kernel_rfl
theorem CQ:dJ Tryz.prog 151 1=true:=by kernel_rfl
theorem zh:dJ Tryz.prog 210 0=true:=by kernel_rfl
theorem E0 (w:World):(zeroValue 3).run Tryz.prog w=.ok (iV 0) w:=by kernel_rfl
theorem zc (w:World):(zeroValue 4).run Tryz.prog w=.ok (.bool false) w:=by kernel_rfl
theorem sJ (w:World):(zeroValue 23).run Tryz.prog w=.ok (I none 0 0) w:=by kernel_rfl
theorem kj (w:World):(zeroValue 36).run Tryz.prog w=.ok (.agg #[I none 0 0,I none 0 0]) w:=by kernel_rfl
theorem Ba (w:World):(zeroValue 38).run Tryz.prog w=.ok (I none 0 0) w:=by kernel_rfl
theorem dD (w:World):(zeroValue 47).run Tryz.prog w=.ok (.agg #[iV 0,iV 0,iV 0,iV 0,I none 0 0,I none 0 0]) w:=by kernel_rfl
theorem gr (w:World):(zeroValue 52).run Tryz.prog w=.ok (.agg #[iV 0,iV 0,.string ⟨#[]⟩]) w:=by kernel_rfl
theorem CI (w:World):(zeroValue 129).run Tryz.prog w=.ok (.pointer none) w:=by kernel_rfl
theorem CH (w:World):(zeroValue 137).run Tryz.prog w=.ok (.map none) w:=by kernel_rfl
theorem CG (w:World):(zeroValue 151).run Tryz.prog w=.ok (.map none) w:=by kernel_rfl
theorem sx (w:World):(zeroValue 210).run Tryz.prog w=.ok (.agg #[]) w:=by kernel_rfl
theorem BP (x0_:Int)(x1_:Int)(x2_:Int)(x3_:Int)(x4_a:Option Addr)(x4_n x4_c:Nat)(x5_a:Option Addr)(x5_n x5_c:Nat)(w:World):(Instr.field 47 (.agg #[iV x0_,iV x1_,iV x2_,iV x3_,.slice x4_a x4_n x4_c,.slice x5_a x5_n x5_c]) 5).run Tryz.prog w=.ok (.slice x5_a x5_n x5_c) w:=by kernel_rfl
theorem wI  (w:World):(Instr.build 36 #[]).run Tryz.prog w=.ok (.agg #[I none 0 0,I none 0 0]) w:=by kernel_rfl
theorem ub (x0_a:Option Addr)(x0_n x0_c:Nat)(x1_a:Option Addr)(x1_n x1_c:Nat)(w:World):(Instr.build 36 #[(0,.slice x0_a x0_n x0_c),(1,.slice x1_a x1_n x1_c)]).run Tryz.prog w=.ok (.agg #[.slice x0_a x0_n x0_c,.slice x1_a x1_n x1_c]) w:=by kernel_rfl
theorem Cq (x1_a:Option Addr)(x1_n x1_c:Nat)(w:World):(Instr.build 36 #[(1,.slice x1_a x1_n x1_c)]).run Tryz.prog w=.ok (.agg #[I none 0 0,.slice x1_a x1_n x1_c]) w:=by kernel_rfl
theorem oL  (w:World):(Instr.build 47 #[]).run Tryz.prog w=.ok (.agg #[iV 0,iV 0,iV 0,iV 0,I none 0 0,I none 0 0]) w:=by kernel_rfl
theorem ob (x0_:Int)(x1_:Int)(x2_:Int)(x3_:Int)(w:World):(Instr.build 47 #[(0,iV x0_),(1,iV x1_),(2,iV x2_),(3,iV x3_)]).run Tryz.prog w=.ok (.agg #[iV x0_,iV x1_,iV x2_,iV x3_,I none 0 0,I none 0 0]) w:=by kernel_rfl
theorem pQ (x0_:Int)(x1_:Int)(x2_:Int)(x3_:Int)(x4_a:Option Addr)(x4_n x4_c:Nat)(x5_a:Option Addr)(x5_n x5_c:Nat)(w:World):(Instr.build 47 #[(0,iV x0_),(1,iV x1_),(2,iV x2_),(3,iV x3_),(4,.slice x4_a x4_n x4_c),(5,.slice x5_a x5_n x5_c)]).run Tryz.prog w=.ok (.agg #[iV x0_,iV x1_,iV x2_,iV x3_,.slice x4_a x4_n x4_c,.slice x5_a x5_n x5_c]) w:=by kernel_rfl
theorem wH (x0_:Int)(x4_a:Option Addr)(x4_n x4_c:Nat)(x5_a:Option Addr)(x5_n x5_c:Nat)(w:World):(Instr.build 47 #[(0,iV x0_),(4,.slice x4_a x4_n x4_c),(5,.slice x5_a x5_n x5_c)]).run Tryz.prog w=.ok (.agg #[iV x0_,iV 0,iV 0,iV 0,.slice x4_a x4_n x4_c,.slice x5_a x5_n x5_c]) w:=by kernel_rfl
theorem pO (x0_:Int)(x5_a:Option Addr)(x5_n x5_c:Nat)(w:World):(Instr.build 47 #[(0,iV x0_),(5,.slice x5_a x5_n x5_c)]).run Tryz.prog w=.ok (.agg #[iV x0_,iV 0,iV 0,iV 0,I none 0 0,.slice x5_a x5_n x5_c]) w:=by kernel_rfl
theorem wG  (w:World):(Instr.build 52 #[]).run Tryz.prog w=.ok (.agg #[iV 0,iV 0,.string ⟨#[]⟩]) w:=by kernel_rfl
theorem Cp (x0_:Int)(w:World):(Instr.build 52 #[(0,iV x0_)]).run Tryz.prog w=.ok (.agg #[iV x0_,iV 0,.string ⟨#[]⟩]) w:=by kernel_rfl
theorem pN (x0_:Int)(x1_:Int)(w:World):(Instr.build 52 #[(0,iV x0_),(1,iV x1_)]).run Tryz.prog w=.ok (.agg #[iV x0_,iV x1_,.string ⟨#[]⟩]) w:=by kernel_rfl
theorem xW (x0_0_a:Option Addr)(x0_0_n x0_0_c:Nat)(x0_1_a:Option Addr)(x0_1_n x0_1_c:Nat)(x2_:Option Nat)(w:World):(Instr.build 128 #[(0,.agg #[.slice x0_0_a x0_0_n x0_0_c,.slice x0_1_a x0_1_n x0_1_c]),(2,.map x2_)]).run Tryz.prog w=.ok (.agg #[.slice x0_0_a x0_0_n x0_0_c,.slice x0_1_a x0_1_n x0_1_c,I none 0 0,.map x2_,iV 0]) w:=by kernel_rfl
theorem xV  (w:World):(Instr.build 210 #[]).run Tryz.prog w=.ok (.agg #[]) w:=by kernel_rfl
theorem qO  (w:World):(Instr.buildSlice 23 0 #[]).run Tryz.prog w=.ok (.slice (some ⟨w.heap.size,0,none⟩) 0 0) (w.alloc (.cells #[] 3)):=by kernel_rfl
theorem dO (x0_:Int)(w:World):(Instr.buildSlice 23 1 #[(0,iV x0_)]).run Tryz.prog w=.ok (.slice (some ⟨w.heap.size,0,none⟩) 1 1) (w.alloc (.cells #[iV x0_] 3)):=by kernel_rfl
theorem ua (x0_:Int)(x1_:Int)(w:World):(Instr.buildSlice 23 2 #[(0,iV x0_),(1,iV x1_)]).run Tryz.prog w=.ok (.slice (some ⟨w.heap.size,0,none⟩) 2 2) (w.alloc (.cells #[iV x0_,iV x1_] 3)):=by kernel_rfl
theorem xU  (w:World):(Instr.buildSlice 34 0 #[]).run Tryz.prog w=.ok (.slice (some ⟨w.heap.size,0,none⟩) 0 0) (w.alloc (.cells #[] 47)):=by kernel_rfl
theorem t8 (x0_0_:Int)(x0_1_:Int)(x0_2_:Int)(x0_3_:Int)(x0_4_a:Option Addr)(x0_4_n x0_4_c:Nat)(x0_5_a:Option Addr)(x0_5_n x0_5_c:Nat)(w:World):(Instr.buildSlice 34 1 #[(0,.agg #[iV x0_0_,iV x0_1_,iV x0_2_,iV x0_3_,.slice x0_4_a x0_4_n x0_4_c,.slice x0_5_a x0_5_n x0_5_c])]).run Tryz.prog w=.ok (.slice (some ⟨w.heap.size,0,none⟩) 1 1) (w.alloc (.cells #[iV x0_0_,iV x0_1_,iV x0_2_,iV x0_3_,.slice x0_4_a x0_4_n x0_4_c,.slice x0_5_a x0_5_n x0_5_c] 47)):=by kernel_rfl
theorem xT (x0_0_:Int)(x0_1_:Int)(x0_2_:Int)(x0_3_:Int)(x0_4_a:Option Addr)(x0_4_n x0_4_c:Nat)(x0_5_a:Option Addr)(x0_5_n x0_5_c:Nat)(x1_0_:Int)(x1_1_:Int)(x1_2_:Int)(x1_3_:Int)(x1_4_a:Option Addr)(x1_4_n x1_4_c:Nat)(x1_5_a:Option Addr)(x1_5_n x1_5_c:Nat)(w:World):(Instr.buildSlice 34 2 #[(0,.agg #[iV x0_0_,iV x0_1_,iV x0_2_,iV x0_3_,.slice x0_4_a x0_4_n x0_4_c,.slice x0_5_a x0_5_n x0_5_c]),(1,.agg #[iV x1_0_,iV x1_1_,iV x1_2_,iV x1_3_,.slice x1_4_a x1_4_n x1_4_c,.slice x1_5_a x1_5_n x1_5_c])]).run Tryz.prog w=.ok (.slice (some ⟨w.heap.size,0,none⟩) 2 2) (w.alloc (.cells #[iV x0_0_,iV x0_1_,iV x0_2_,iV x0_3_,.slice x0_4_a x0_4_n x0_4_c,.slice x0_5_a x0_5_n x0_5_c,iV x1_0_,iV x1_1_,iV x1_2_,iV x1_3_,.slice x1_4_a x1_4_n x1_4_c,.slice x1_5_a x1_5_n x1_5_c] 47)):=by kernel_rfl
theorem Co (x0_0_:Int)(x0_1_:Int)(x0_2_:Int)(x0_3_:Int)(x0_4_a:Option Addr)(x0_4_n x0_4_c:Nat)(x0_5_a:Option Addr)(x0_5_n x0_5_c:Nat)(x1_0_:Int)(x1_1_:Int)(x1_2_:Int)(x1_3_:Int)(x1_4_a:Option Addr)(x1_4_n x1_4_c:Nat)(x1_5_a:Option Addr)(x1_5_n x1_5_c:Nat)(x2_0_:Int)(x2_1_:Int)(x2_2_:Int)(x2_3_:Int)(x2_4_a:Option Addr)(x2_4_n x2_4_c:Nat)(x2_5_a:Option Addr)(x2_5_n x2_5_c:Nat)(x3_0_:Int)(x3_1_:Int)(x3_2_:Int)(x3_3_:Int)(x3_4_a:Option Addr)(x3_4_n x3_4_c:Nat)(x3_5_a:Option Addr)(x3_5_n x3_5_c:Nat)(w:World):(Instr.buildSlice 34 4 #[(0,.agg #[iV x0_0_,iV x0_1_,iV x0_2_,iV x0_3_,.slice x0_4_a x0_4_n x0_4_c,.slice x0_5_a x0_5_n x0_5_c]),(1,.agg #[iV x1_0_,iV x1_1_,iV x1_2_,iV x1_3_,.slice x1_4_a x1_4_n x1_4_c,.slice x1_5_a x1_5_n x1_5_c]),(2,.agg #[iV x2_0_,iV x2_1_,iV x2_2_,iV x2_3_,.slice x2_4_a x2_4_n x2_4_c,.slice x2_5_a x2_5_n x2_5_c]),(3,.agg #[iV x3_0_,iV x3_1_,iV x3_2_,iV x3_3_,.slice x3_4_a x3_4_n x3_4_c,.slice x3_5_a x3_5_n x3_5_c])]).run Tryz.prog w=.ok (.slice (some ⟨w.heap.size,0,none⟩) 4 4) (w.alloc (.cells #[iV x0_0_,iV x0_1_,iV x0_2_,iV x0_3_,.slice x0_4_a x0_4_n x0_4_c,.slice x0_5_a x0_5_n x0_5_c,iV x1_0_,iV x1_1_,iV x1_2_,iV x1_3_,.slice x1_4_a x1_4_n x1_4_c,.slice x1_5_a x1_5_n x1_5_c,iV x2_0_,iV x2_1_,iV x2_2_,iV x2_3_,.slice x2_4_a x2_4_n x2_4_c,.slice x2_5_a x2_5_n x2_5_c,iV x3_0_,iV x3_1_,iV x3_2_,iV x3_3_,.slice x3_4_a x3_4_n x3_4_c,.slice x3_5_a x3_5_n x3_5_c] 47)):=by kernel_rfl
theorem oa  (w:World):(Instr.buildSlice 38 0 #[]).run Tryz.prog w=.ok (.slice (some ⟨w.heap.size,0,none⟩) 0 0) (w.alloc (.cells #[] 52)):=by kernel_rfl
theorem gN (x0_0_:Int)(x0_1_:Int)(x0_2_:ByteArray)(w:World):(Instr.buildSlice 38 1 #[(0,.agg #[iV x0_0_,iV x0_1_,.string x0_2_])]).run Tryz.prog w=.ok (.slice (some ⟨w.heap.size,0,none⟩) 1 1) (w.alloc (.cells #[iV x0_0_,iV x0_1_,.string x0_2_] 52)):=by kernel_rfl
theorem xR (x0_0_:Int)(x0_1_:Int)(x0_2_:ByteArray)(x1_0_:Int)(x1_1_:Int)(x1_2_:ByteArray)(w:World):(Instr.buildSlice 38 2 #[(0,.agg #[iV x0_0_,iV x0_1_,.string x0_2_]),(1,.agg #[iV x1_0_,iV x1_1_,.string x1_2_])]).run Tryz.prog w=.ok (.slice (some ⟨w.heap.size,0,none⟩) 2 2) (w.alloc (.cells #[iV x0_0_,iV x0_1_,.string x0_2_,iV x1_0_,iV x1_1_,.string x1_2_] 52)):=by kernel_rfl
theorem t7 (x0_0_:Int)(x0_1_:Int)(x0_2_:ByteArray)(x1_0_:Int)(x1_1_:Int)(x1_2_:ByteArray)(x2_0_:Int)(x2_1_:Int)(x2_2_:ByteArray)(w:World):(Instr.buildSlice 38 3 #[(0,.agg #[iV x0_0_,iV x0_1_,.string x0_2_]),(1,.agg #[iV x1_0_,iV x1_1_,.string x1_2_]),(2,.agg #[iV x2_0_,iV x2_1_,.string x2_2_])]).run Tryz.prog w=.ok (.slice (some ⟨w.heap.size,0,none⟩) 3 3) (w.alloc (.cells #[iV x0_0_,iV x0_1_,.string x0_2_,iV x1_0_,iV x1_1_,.string x1_2_,iV x2_0_,iV x2_1_,.string x2_2_] 52)):=by kernel_rfl
theorem xQ (x0_0_:Int)(x0_1_:Int)(x0_2_:ByteArray)(x1_0_:Int)(x1_1_:Int)(x1_2_:ByteArray)(x2_0_:Int)(x2_1_:Int)(x2_2_:ByteArray)(x3_0_:Int)(x3_1_:Int)(x3_2_:ByteArray)(w:World):(Instr.buildSlice 38 4 #[(0,.agg #[iV x0_0_,iV x0_1_,.string x0_2_]),(1,.agg #[iV x1_0_,iV x1_1_,.string x1_2_]),(2,.agg #[iV x2_0_,iV x2_1_,.string x2_2_]),(3,.agg #[iV x3_0_,iV x3_1_,.string x3_2_])]).run Tryz.prog w=.ok (.slice (some ⟨w.heap.size,0,none⟩) 4 4) (w.alloc (.cells #[iV x0_0_,iV x0_1_,.string x0_2_,iV x1_0_,iV x1_1_,.string x1_2_,iV x2_0_,iV x2_1_,.string x2_2_,iV x3_0_,iV x3_1_,.string x3_2_] 52)):=by kernel_rfl
theorem Cn (x0_0_:Int)(x0_1_:Int)(x0_2_:ByteArray)(x1_0_:Int)(x1_1_:Int)(x1_2_:ByteArray)(x2_0_:Int)(x2_1_:Int)(x2_2_:ByteArray)(x3_0_:Int)(x3_1_:Int)(x3_2_:ByteArray)(x4_0_:Int)(x4_1_:Int)(x4_2_:ByteArray)(w:World):(Instr.buildSlice 38 5 #[(0,.agg #[iV x0_0_,iV x0_1_,.string x0_2_]),(1,.agg #[iV x1_0_,iV x1_1_,.string x1_2_]),(2,.agg #[iV x2_0_,iV x2_1_,.string x2_2_]),(3,.agg #[iV x3_0_,iV x3_1_,.string x3_2_]),(4,.agg #[iV x4_0_,iV x4_1_,.string x4_2_])]).run Tryz.prog w=.ok (.slice (some ⟨w.heap.size,0,none⟩) 5 5) (w.alloc (.cells #[iV x0_0_,iV x0_1_,.string x0_2_,iV x1_0_,iV x1_1_,.string x1_2_,iV x2_0_,iV x2_1_,.string x2_2_,iV x3_0_,iV x3_1_,.string x3_2_,iV x4_0_,iV x4_1_,.string x4_2_] 52)):=by kernel_rfl
theorem AS (x0_a:Option Addr)(x0_n x0_c:Nat)(x1_a:Option Addr)(x1_n x1_c:Nat)(w:World):(Instr.buildSlice 117 2 #[(0,.slice x0_a x0_n x0_c),(1,.slice x1_a x1_n x1_c)]).run Tryz.prog w=.ok (.slice (some ⟨w.heap.size,0,none⟩) 2 2) (w.alloc (.cells #[.slice x0_a x0_n x0_c,.slice x1_a x1_n x1_c] 34)):=by kernel_rfl
theorem AR (x0_:Bool)(w:World):(Instr.buildSlice 195 1 #[(0,.bool x0_)]).run Tryz.prog w=.ok (.slice (some ⟨w.heap.size,0,none⟩) 1 1) (w.alloc (.cells #[.bool x0_] 4)):=by kernel_rfl
theorem uE:nm Tryz.prog 3 1 8=true:=by kernel_rfl
theorem FY:nm Tryz.prog 4 1 1=true:=by kernel_rfl
theorem Bb:nm Tryz.prog 47 6 80=true:=by kernel_rfl
theorem nn:nm Tryz.prog 52 3 32=true:=by kernel_rfl
instance:Fc (gk Tryz.prog 3=true):=⟨cM⟩
instance:Fc (gk Tryz.prog 4=true):=⟨xp⟩
instance:Fc (gk Tryz.prog 9=true):=⟨Fv⟩
instance:Fc (gk Tryz.prog 23=true):=⟨ln⟩
instance:Fc (gk Tryz.prog 34=true):=⟨gK⟩
instance:Fc (gk Tryz.prog 38=true):=⟨cz⟩
instance:Fc (gk Tryz.prog 97=true):=⟨E4⟩
instance:Fc (gk Tryz.prog 126=true):=⟨Eo⟩
instance:Fc (gk Tryz.prog 129=true):=⟨En⟩
instance:Fc (gk Tryz.prog 137=true):=⟨rc⟩
instance:Fc (gk Tryz.prog 151=true):=⟨BE⟩
instance:FcA0 Tryz.prog 36 0:=⟨oG⟩
instance:FcA Tryz.prog 36 1 1:=⟨iN⟩
instance:FcA0 Tryz.prog 47 0:=⟨zv⟩
instance:FcA Tryz.prog 47 1 1:=⟨zu⟩
instance:FcA Tryz.prog 47 2 2:=⟨zt⟩
instance:FcA Tryz.prog 47 3 3:=⟨zr⟩
instance:FcA Tryz.prog 47 4 4:=⟨iM⟩
instance:FcA Tryz.prog 47 5 5:=⟨ce⟩
instance:FcA0 Tryz.prog 52 0:=⟨eQ⟩
instance:FcA Tryz.prog 52 1 1:=⟨iL⟩
instance:FcA Tryz.prog 52 2 2:=⟨Dc⟩
instance:FcA0 Tryz.prog 128 0:=⟨xD⟩
instance:FcA Tryz.prog 128 1 2:=⟨qI⟩
instance:FcA Tryz.prog 128 2 3:=⟨BR⟩
instance:FcA Tryz.prog 128 3 4:=⟨tV⟩
theorem vj:Tryz.prog.eqGuardType Tryz.prog.depth 52=false:=by kernel_rfl
theorem zx (x y:Gu)(w:World):(Op.equalIn 10000 52 ((bd x)) ((bd y))).run Tryz.prog w=.ok (decide (x=y)) w:=by
 obtain ⟨xKind,xN,xS⟩:=x;obtain ⟨yKind,yN,yS⟩:=y;show (Op.equalIn 10000 52 (.agg #[iV xKind,iV xN,.string xS]) (.agg #[iV yKind,iV yN,.string yS])).run Tryz.prog w=_
 go_simp
 simp only [Cm];by_cases h0:xKind=yKind<;>by_cases h1:xN=yN<;>by_cases h2:xS=yS<;>simp [h0,h1,h2]
theorem xG {s:bE}{C:World→Prop}{d:Option Nat}{ty u:TypeId}{pos:String}{af:Array Edge}{gd:Option (Nat×Bool)}{a b:Operand}{x y:Gu}(hx:bK s a=some ((bd x)))(hy:bK s b=some ((bd y))):Ev Tryz.prog s C ⟨d,.binOp .eql 52 a b u,ty,pos,af,gd⟩ (.bool (decide (x=y))):=
 gw hx hy fun w=>by
  rw [Sem.run_bind,run_eqGuard_agg w _ _ _ _ _ _ vj];simp only [Result.andThen_ok];rw [run_eql_struct,zx];rfl
theorem AM {s:bE}{C:World→Prop}{d:Option Nat}{ty u:TypeId}{pos:String}{af:Array Edge}{gd:Option (Nat×Bool)}{a b:Operand}{x y:Gu}(hx:bK s a=some ((bd x)))(hy:bK s b=some ((bd y))):Ev Tryz.prog s C ⟨d,.binOp .neq 52 a b u,ty,pos,af,gd⟩ (.bool (!decide (x=y))):=
 gw hx hy fun w=>by
  rw [Sem.run_bind,run_eqGuard_agg w _ _ _ _ _ _ vj];simp only [Result.andThen_ok];rw [run_neq_struct,zx];rfl
def nJ (N:Nat)(p25:Int):Option Bool:=
 some (decide (p25≤600))
def jv (N:Nat)(a0:Gx):Nat→Int→Int→Option Bool
 |0,_,_=>none
 |m26+1,p27,p28=>(bif decide (p28<(a0.Old.length:Int)) then (some (decide (p27≤600))) else (some false)).bind fun b29=>bif b29 then (bD (in64 (p27+1)) ((aH a0.Old p28).bind fun x32=>bD (in64 ((p27+1)+(x32.Slots.length:Int))) ((aH a0.Old p28).bind fun x37=>bD (in64 (((p27+1)+(x32.Slots.length:Int))+(x37.More.length:Int))) (bD (in64 (p28+1)) ((jv N a0 m26) (((p27+1)+(x32.Slots.length:Int))+(x37.More.length:Int)) (p28+1)))))) else (nJ N p27)
def mw (N:Nat)(a0:Gx)(p6:Int):Option Bool:=
 jv N a0 N p6 0
def kC (N:Nat)(a0:Gx):Nat→Int→Int→Option Bool
 |0,_,_=>none
 |m7+1,p8,p9=>(bif decide (p9<(a0.Young.length:Int)) then (some (decide (p8≤600))) else (some false)).bind fun b10=>bif b10 then (bD (in64 (p8+1)) ((aH a0.Young p9).bind fun x13=>bD (in64 ((p8+1)+(x13.Slots.length:Int))) ((aH a0.Young p9).bind fun x18=>bD (in64 (((p8+1)+(x13.Slots.length:Int))+(x18.More.length:Int))) (bD (in64 (p9+1)) ((kC N a0 m7) (((p8+1)+(x13.Slots.length:Int))+(x18.More.length:Int)) (p9+1)))))) else (mw N a0 p8)
def gh (N:Nat)(a0:Gx)(a1:(List Gu)):Option Bool:=
 kC N a0 N (a1.length:Int) 0
set_option maxHeartbeats 4000000 in
theorem yn {N:Nat}{a0:Gx}{a1:(List Gu)}{r:Bool}(h:gh N a0 a1=some r):Okc Tryz.prog 24 [.agg #[I A1 n1 c1,I A2 n2 c2],I A3 n3 c3] ([br A1 n1 c1 a0.Young,br A2 n2 c2 a0.Old,aS A3 n3 c3 a1]) (fun u post=>u=.bool r∧post=[]):=by
 refine bx Tryz.func24 J J ?_;simp only [aU];refine V ?_;refine gD (aX J J) ?_;rintro _ _ ⟨B4,rfl,rfl⟩;refine V ?_;refine gR (aG 3 J ae J hO) ?_;refine V ?_;refine aP (fun s L=> ∃p6,mw N a0 p6=some r∧s=[(2,pV B4 0),(4,.bool false),(5,iV p6)]∧L=[br A1 n1 c1 a0.Young,br A2 n2 c2 a0.Old,aw B4 36 [I A1 n1 c1,I A2 n2 c2]]) ?_ ?_
 ·refine V ?_;refine aZ (fun m s L=> ∃p8 p9,kC N a0 m p8 p9=some r∧s=[(2,pV B4 0),(4,.bool false),(5,iV p8),(6,iV p9)]∧L=[br A1 n1 c1 a0.Young,br A2 n2 c2 a0.Old,aw B4 36 [I A1 n1 c1,I A2 n2 c2]]) N _ _ ⟨(a1.length:Int),0,h,J,J⟩ sA (cS [1,2,0] 4) ?_;rintro (_|m7) _ _ ⟨p8,p9,h,rfl,rfl⟩
  ·exact az h
  rw [kC.eq_2] at h;refine ay ?_;refine V ?_;refine gR (aG 0 J ae J hP) ?_;refine V ?_;obtain ⟨b10,hb10,h⟩:=aa h;refine aD 3 18 b10 ?_ ?_
  ·clear h;refine aE 15 J (fun g10=> ?_) (fun g10=> ?_)
   ·have h:=ag g10 hb10;refine V ?_;obtain rfl:=ao h;exact ad sA (cS [0,1,2] 3)
   have h:=ah g10 hb10;refine V ?_;obtain rfl:=ao h;exact ad sA (cS [0,1,2] 3)
  refine V ?_;refine aq J (fun g11=> ?_) (fun g11=> ?_)
  ·replace h:=ag g11 h;refine V ?_;refine ay ?_;refine cQ ?_;refine cy O _ (ab _) ?_;refine zE 0 J (ax J) ?_;obtain ⟨q12,h⟩:=am h;refine zE 1 J (aT J J q12.1 q12.2) ?_;refine zE 2 J (jN J oG) ?_;refine zR 3 J (aR 2 J J gK J) ?_;refine zE 4 J (ax J) ?_;obtain ⟨x13,hx13,h⟩:=aa h;obtain ⟨lx13,ux13,hx13⟩:=aj hx13;refine zR 5 J (aB 0 J ae J J hP bu lx13 ux13) ?_;refine zR 6 J (lc 0 J ae J (bB lx13 ux13) iM) ?_;refine ru 0 J hx13 (cA x13) ?_;rintro _ _ ⟨A14,n14,c14,A15,n15,c15,rfl,rfl⟩;refine zR 7 J (ox 0 J J cz J) ?_;refine zR 8 J (aG 1 J ae J hO) ?_;obtain ⟨q17,h⟩:=am h;refine zE 9 J (aT J J q17.1 q17.2) ?_;refine zE 10 J (jN J oG) ?_;refine zR 11 J (aR 5 J J gK J) ?_;refine zE 12 J (ax J) ?_;obtain ⟨x18,hx18,h⟩:=aa h;obtain ⟨lx18,ux18,hx18⟩:=aj hx18;refine zR 13 J (aB 3 J ae J J hP bu lx18 ux18) ?_;refine zR 14 J (lc 3 J ae J (bB lx18 ux18) ce) ?_;refine ru 3 J hx18 (cA x18) ?_;rintro _ _ ⟨A19,n19,c19,A20,n20,c20,rfl,rfl⟩;refine zR 15 J (ox 0 J J cz J) ?_;refine zR 16 J (aG 2 J ae J hO) ?_;obtain ⟨q22,h⟩:=am h;refine zE 17 J (aT J J q22.1 q22.2) ?_;refine zE 18 J (bz J) ?_;refine cx O ?_;refine V ?_;obtain ⟨q23,h⟩:=am h;refine gE (aT J J q23.1 q23.2) ?_;refine V ?_
   exact ⟨m7,_,_,GD _,⟨((p8+1)+(x13.Slots.length:Int))+(x18.More.length:Int),p9+1,h,J,J⟩,sA,cS [6,7,8] 9⟩
  replace h:=ah g11 h;refine V ?_;exact ⟨_,_,⟨p8,h,J,J⟩,sA,cS [0,1,2] 3⟩
 rintro _ _ ⟨p6,h,rfl,rfl⟩;refine aP (fun s L=> ∃p25,nJ N p25=some r∧s=[(4,.bool false),(5,iV p25)]∧L=[]) ?_ ?_
 ·refine V ?_;refine aZ (fun m s L=> ∃p27 p28,jv N a0 m p27 p28=some r∧s=[(2,pV B4 0),(4,.bool false),(5,iV p27),(7,iV p28)]∧L=[br A1 n1 c1 a0.Young,br A2 n2 c2 a0.Old,aw B4 36 [I A1 n1 c1,I A2 n2 c2]]) N _ _ ⟨p6,0,h,J,J⟩ sA (cS [0,1,2] 3) ?_;rintro (_|m26) _ _ ⟨p27,p28,h,rfl,rfl⟩
  ·exact az h
  rw [jv.eq_2] at h;refine ay ?_;refine V ?_;refine gR (aG 1 J ae J hP) ?_;refine V ?_;obtain ⟨b29,hb29,h⟩:=aa h;refine aD 3 47 b29 ?_ ?_
  ·clear h;refine aE 44 J (fun g29=> ?_) (fun g29=> ?_)
   ·have h:=ag g29 hb29;refine V ?_;obtain rfl:=ao h;exact ad sA (cS [0,1,2] 3)
   have h:=ah g29 hb29;refine V ?_;obtain rfl:=ao h;exact ad sA (cS [0,1,2] 3)
  refine V ?_;refine aq J (fun g30=> ?_) (fun g30=> ?_)
  ·replace h:=ag g30 h;refine V ?_;refine ay ?_;refine cQ ?_;refine cy O _ (ab _) ?_;refine zE 0 J (ax J) ?_;obtain ⟨q31,h⟩:=am h;refine zE 1 J (aT J J q31.1 q31.2) ?_;refine zE 2 J (bQ J iN) ?_;refine zR 3 J (aR 2 J J gK J) ?_;refine zE 4 J (ax J) ?_;obtain ⟨x32,hx32,h⟩:=aa h;obtain ⟨lx32,ux32,hx32⟩:=aj hx32;refine zR 5 J (aB 1 J ae J J hP bu lx32 ux32) ?_;refine zR 6 J (lc 1 J ae J (bB lx32 ux32) iM) ?_;refine ru 1 J hx32 (cA x32) ?_;rintro _ _ ⟨A33,n33,c33,A34,n34,c34,rfl,rfl⟩;refine zR 7 J (ox 0 J J cz J) ?_;refine zR 8 J (aG 1 J ae J hO) ?_;obtain ⟨q36,h⟩:=am h;refine zE 9 J (aT J J q36.1 q36.2) ?_;refine zE 10 J (bQ J iN) ?_;refine zR 11 J (aR 5 J J gK J) ?_;refine zE 12 J (ax J) ?_;obtain ⟨x37,hx37,h⟩:=aa h;obtain ⟨lx37,ux37,hx37⟩:=aj hx37;refine zR 13 J (aB 4 J ae J J hP bu lx37 ux37) ?_;refine zR 14 J (lc 4 J ae J (bB lx37 ux37) ce) ?_;refine ru 4 J hx37 (cA x37) ?_;rintro _ _ ⟨A38,n38,c38,A39,n39,c39,rfl,rfl⟩;refine zR 15 J (ox 0 J J cz J) ?_;refine zR 16 J (aG 2 J ae J hO) ?_;obtain ⟨q41,h⟩:=am h;refine zE 17 J (aT J J q41.1 q41.2) ?_;refine zE 18 J (bz J) ?_;refine cx O ?_;refine V ?_;obtain ⟨q42,h⟩:=am h;refine gE (aT J J q42.1 q42.2) ?_;refine V ?_
   exact ⟨m26,_,_,GD _,⟨((p27+1)+(x32.Slots.length:Int))+(x37.More.length:Int),p28+1,h,J,J⟩,sA,cS [6,7,8] 9⟩
  replace h:=ah g30 h;refine V ?_;exact ⟨_,_,⟨p27,h,J,J⟩,sA,cS [] 3⟩
 rintro _ _ ⟨p25,h,rfl,rfl⟩;refine V ?_;obtain rfl:=ao h;exact aL J J (cS [] 0) ⟨J,J⟩
theorem vV {r:Bool}: ∀v post,((fun (u:Value) (post:List Chunk)=>u=.bool r∧post=[])) v post→ ∀c∈post,bR c:=by
 rintro _ _ ⟨rfl,rfl⟩;exact ai
def dr (N:Nat)(a0:(List Gu)):Option Gw:=
 some (⟨11,0,0,0,[],a0⟩:Gw)
theorem ee {N:Nat}{a0:(List Gu)}{r:Gw}(h:dr N a0=some r):Okc Tryz.prog 114 [I A1 n1 c1] ([aS A1 n1 c1 a0]) (fun u post=> ∃A0 n0 c0 A1 n1 c1,u=.agg #[iV r.Kind,iV r.Shape,iV r.Flags,iV r.Age,I A0 n0 c0,I A1 n1 c1]∧post=[aS A0 n0 c0 r.Slots,aS A1 n1 c1 r.More]):=by
 refine bx Tryz.func114 J J ?_;simp only [aU];refine V ?_;refine gD (aM dD J) ?_;rintro _ _ ⟨B2,rfl,rfl⟩;refine V ?_;refine gE (bJ J (pO _ _ _ _)) ?_;refine gO (au (us:=[iV 11,iV 0,iV 0,iV 0,I none 0 0,I A1 n1 c1]) (cs':=[iV 11,iV 0,iV 0,iV 0,I none 0 0,I A1 n1 c1]) 0 J J J J bu J J J) ?_;rintro _ _ rfl;refine V ?_;obtain rfl:=ao h;exact dl (rs:=[.cell 2 47]) (vs:=[.agg #[iV 11,iV 0,iV 0,iV 0,I none 0 0,I A1 n1 c1]]) J (.cons (bY 0 J J bo) .nil) J ((gU aF _).trans (cS [0,2] 3)) ⟨_,_,_,_,_,_,J,J⟩
def bG (N:Nat)(a0:Int):Option Gu:=
 some (⟨7,a0,⟨#[]⟩⟩:Gu)
theorem cK {N:Nat}{a0:Int}{r:Gu}(h:bG N a0=some r):Okc Tryz.prog 115 [iV a0] ([]) (fun u post=>u=(bd r)∧post=[]):=by
 refine bx Tryz.func115 J J ?_;simp only [aU];refine V ?_;refine gD (aM gr J) ?_;rintro _ _ ⟨B1,rfl,rfl⟩;refine V ?_;refine gE (bJ J (pN _ _)) ?_;refine gO (au (us:=[iV 7,iV a0,.string (⟨#[]⟩)]) (cs':=[iV 7,iV a0,.string (⟨#[]⟩)]) 0 J J J J aI J J J) ?_;rintro _ _ rfl;refine V ?_;obtain rfl:=ao h;exact dl (rs:=[.cell 2 52]) (vs:=[.agg #[iV 7,iV a0,.string (⟨#[]⟩)]]) J (.cons (bY 0 J J bn) .nil) J (cS [] 1) ⟨J,J⟩
theorem bU {r:Gu}: ∀v post,((fun (u:Value) (post:List Chunk)=>u=(bd r)∧post=[])) v post→ ∀c∈post,bR c:=by
 rintro _ _ ⟨rfl,rfl⟩;exact ai
def dE (N:Nat)(a0:Gu):Option (Int×Bool):=
 (bif decide (a0.Kind=7) then (some true) else (some (decide (a0.Kind=9)))).bind fun b2=>some (a0.N,b2)
theorem qV {N:Nat}{a0:Gu}{r:(Int×Bool)}(h:dE N a0=some r):Okc Tryz.prog 92 [(bd a0)] ([]) (fun u post=>u=.tuple #[iV r.1,.bool r.2]∧post=[]):=by
 refine bx Tryz.func92 J J ?_;simp only [aU];refine V ?_;refine gD (aX J J) ?_;rintro _ _ ⟨B1,rfl,rfl⟩;refine V ?_;refine ay ?_;refine cy O _ (ab _) ?_;refine zE 0 J (bQ J iL) ?_;refine zR 1 J (aR 0 J J cM J) ?_;refine zE 2 J (jN J eQ) ?_;refine zR 3 J (aR 0 J J cM J) ?_;refine zE 4 J (nc J J) ?_;refine zE 5 J (ax J) ?_;refine zE 10 J (bz J) ?_;obtain ⟨b2,hb2,h⟩:=aa h;refine uc (fun l=>((((l.setIfInBounds 6 true).setIfInBounds 7 true).setIfInBounds 8 true).setIfInBounds 9 true)) 1 13 b2 (fun rest=> ?_) ?_
 ·clear h;refine wM 9 J (fun g2=> ?_) (fun g2=> ?_)
  ·have h:=ag g2 hb2;refine ig 6 J O (C8 g2 J) J ?_;refine ig 7 J O (C8 g2 J) J ?_;refine ig 8 J O (C8 g2 J) J ?_;refine zE 9 J (cC g2 J J) ?_;obtain rfl:=ao h;exact pR rest (kn J (bc (bc (bc (bc bH J) J) J) J)) (ab _) (ab _)
  have h:=ah g2 hb2;refine mi 6 J O (jN J eQ) (fW g2 J) J ?_;refine qQ 7 J O (aR 0 J J cM J) (fW g2 J) J ?_;refine mi 8 J O (nc J J) (fW g2 J) J ?_;refine zE 9 J (cD g2 J J) ?_;obtain rfl:=ao h;exact pR rest (kn J (bc (bc (bc (bc bH J) J) J) J)) (ab _) (ab _)
 refine zE 11 J (bz J) ?_;refine cx O ?_;refine V ?_;obtain rfl:=ao h;exact Ea J J J (cS [] 1) ⟨J,J⟩
theorem pz {r:(Int×Bool)}: ∀v post,((fun (u:Value) (post:List Chunk)=>u=.tuple #[iV r.1,.bool r.2]∧post=[])) v post→ ∀c∈post,bR c:=by
 rintro _ _ ⟨rfl,rfl⟩;exact ai
def io (N:Nat)(a1:Int)(p6:(List Gw))(p7:Int):Option ((List Gw)×Int×Bool):=
 (bif decide (0<a1) then (some (decide (p7<(p6.length:Int)))) else (some false)).bind fun b11=>some (p6,p7,b11)
def gC (N:Nat)(a0:Gx)(a1:Int):Option ((List Gw)×Int×Bool):=
 bD (in64 (a1.tdiv 2)) (bif decide (a1.tmod 2=0) then (bD (in64 (a1.tdiv 2)) (bD (in64 ((a1.tdiv 2) - 1)) (io N a1 a0.Old ((a1.tdiv 2) - 1)))) else (io N a1 a0.Young (a1.tdiv 2)))
theorem ny {N:Nat}{a0:Gx}{a1:Int}{r:((List Gw)×Int×Bool)}(h:gC N a0 a1=some r):Okc Tryz.prog 90 [.agg #[I A1 n1 c1,I A2 n2 c2],iV a1] ([br A1 n1 c1 a0.Young,br A2 n2 c2 a0.Old]) (fun u post=> ∃A0 n0 c0,u=.tuple #[I A0 n0 c0,iV r.2.1,.bool r.2.2]∧post=[br A0 n0 c0 r.1]):=by
 refine bx Tryz.func90 J J ?_;simp only [aU];refine V ?_;refine gD (aX J J) ?_;rintro _ _ ⟨B3,rfl,rfl⟩;refine V ?_;obtain ⟨q4,h⟩:=am h;refine gE (rk J J (by decide) q4.1 q4.2) ?_;refine V ?_;refine aP (fun s L=> ∃p6 p7 A6 n6 c6,io N a1 p6 p7=some r∧s=[(1,iV a1),(4,I none 0 0),(5,iV 0),(6,.bool false),(7,I A6 n6 c6),(8,iV p7)]∧L=[br A6 n6 c6 p6]) ?_ ?_
 ·refine V ?_;refine gE (lM J J (by decide)) ?_;refine V ?_;refine aq J (fun g8=> ?_) (fun g8=> ?_)
  ·replace h:=ag g8 h;refine V ?_;obtain ⟨q9,h⟩:=am h;refine gE (rk J J (by decide) q9.1 q9.2) ?_;obtain ⟨q10,h⟩:=am h;refine gE (lL J J q10.1 q10.2) ?_;refine V ?_;exact ⟨_,_,⟨a0.Old,(a1.tdiv 2) - 1,A2,n2,c2,h,J,J⟩,sA,cS [2] 3⟩
  replace h:=ah g8 h;refine V ?_;exact ⟨_,_,⟨a0.Young,a1.tdiv 2,A1,n1,c1,h,J,J⟩,sA,cS [1] 3⟩
 rintro _ _ ⟨p6,p7,A6,n6,c6,h,rfl,rfl⟩;refine V ?_;obtain ⟨b11,hb11,h⟩:=aa h;refine aD 5 30 b11 ?_ ?_
 ·clear h;refine aE 25 J (fun g11=> ?_) (fun g11=> ?_)
  ·have h:=ag g11 hb11;refine V ?_;refine bA (aG 0 J ae J hP) J (aO g11 J) J ?_;refine V ?_;obtain rfl:=ao h;exact ad sA (cS [0] 1)
  have h:=ah g11 hb11;refine V ?_;obtain rfl:=ao h;exact ad sA (cS [0] 1)
 refine V ?_;obtain rfl:=ao h;exact Fe J J J J (cS [0] 1) ⟨_,_,_,J,J⟩
def dT (N:Nat)(a0:Gx)(a1:Int):Option Bool:=
 (gC N a0 a1).bind fun y4=>some y4.2.2
theorem mq {N:Nat}{a0:Gx}{a1:Int}{r:Bool}(h:dT N a0 a1=some r):Okc Tryz.prog 27 [.agg #[I A1 n1 c1,I A2 n2 c2],iV a1] ([br A1 n1 c1 a0.Young,br A2 n2 c2 a0.Old]) (fun u post=>u=.bool r∧post=[]):=by
 refine bx Tryz.func27 J J ?_;simp only [aU];refine V ?_;refine gD (aX J J) ?_;rintro _ _ ⟨B3,rfl,rfl⟩;refine V ?_;refine gR (aC (us:=[I A1 n1 c1,I A2 n2 c2]) 0 J J cu J) ?_;refine V ?_;obtain ⟨y4,hy4,h⟩:=aa h;refine gD (cw (ny hy4) Ce J (bq [1,2] [] [0,1,2] 3 J)) ?_;rintro _ _ ⟨_,⟨A5,n5,c5,rfl,rfl⟩,rfl⟩;refine V ?_;obtain rfl:=ao h;exact aL J J (cS [] 4) ⟨J,J⟩
theorem kz {r:Bool}: ∀v post,((fun (u:Value) (post:List Chunk)=>u=.bool r∧post=[])) v post→ ∀c∈post,bR c:=by
 rintro _ _ ⟨rfl,rfl⟩;exact ai
def ez (N:Nat)(kb7:Int→(List Int)→(List (Int×Unit))→Option Gy)(a1:(List Int))(p8:Int)(a0:Gy)(p13:(List Int))(p14:(List (Int×Unit))):Option Gy:=
 bD (in64 (p8+1)) (kb7 (p8+1) p13 p14)
def bZ (N:Nat)(a1:(List Int))(a0:Gy):Nat→Int→(List Int)→(List (Int×Unit))→Option Gy
 |0,_,_,_=>none
 |m7+1,p8,p9,p10=>bif decide (p8<(a1.length:Int)) then ((aH a1 p8).bind fun x15=>(bif !((lk p10 x15).isSome) then ((dT N a0.m_ x15).bind fun y18=>some y18) else (some false)).bind fun b17=>bif b17 then (bD (bN (p9.length+([x15]:List Int).length)) (ez N (bZ N a1 a0 m7) a1 p8 a0 (p9++([x15]:List Int)) (uf p10 x15 ()))) else (ez N (bZ N a1 a0 m7) a1 p8 a0 p9 p10)) else (some (⟨a0.m_,p9,p10,a0.done_⟩:Gy))
def cO (N:Nat)(a0:Gy)(a1:(List Int)):Option Gy:=
 bZ N a1 a0 N 0 a0.all_ a0.met_
set_option maxHeartbeats 4000000 in
theorem lW {N:Nat}{a0:Gy}{a1:(List Int)}{r:Gy}(h:cO N a0 a1=some r):Okc Tryz.prog 177 [pV B1 0,I A6 n6 c6] ([br A2 n2 c2 a0.m_.Young,br A3 n3 c3 a0.m_.Old,eM A6 n6 c6 a1,aw B1 128 [I A2 n2 c2,I A3 n3 c3,I A4 n4 c4,.map (some M5),iV a0.done_],cc A4 n4 c4 a0.all_,dN kN rW M5 a0.met_]) (fun u post=> ∃A0 n0 c0 A1 n1 c1 A2 n2 c2 M3,u=.tuple #[]∧post=[aw B1 128 [I A0 n0 c0,I A1 n1 c1,I A2 n2 c2,.map (some M3),iV r.done_],br A0 n0 c0 r.m_.Young,br A1 n1 c1 r.m_.Old,cc A2 n2 c2 r.all_,dN kN rW M3 r.met_]):=by
 refine bx Tryz.func177 J J ?_;simp only [aU];refine V ?_;refine gR (aG 2 J ae J hU) ?_;refine V ?_;refine aZ (fun m s L=> ∃p8 p9 p10 A9 n9 c9,bZ N a1 a0 m p8 p9 p10=some r∧s=[(0,pV B1 0),(8,I A6 n6 c6),(9,iV (a1.length:Int)),(10,iV p8)]∧L=[eM A6 n6 c6 a1,br A2 n2 c2 a0.m_.Young,br A3 n3 c3 a0.m_.Old,cc A9 n9 c9 p9,dN kN rW M5 p10,aw B1 128 [I A2 n2 c2,I A3 n3 c3,I A9 n9 c9,.map (some M5),iV a0.done_]]) N _ _ ⟨0,a0.all_,a0.met_,A4,n4,c4,h,J,J⟩ sA (cS [2,0,1,4,5,3] 6) ?_;rintro (_|m7) _ _ ⟨p8,p9,p10,A9,n9,c9,h,rfl,rfl⟩
 ·exact az h
 rw [bZ.eq_2] at h;refine V ?_;refine ay ?_;refine aq J (fun g11=> ?_) (fun g11=> ?_)
 ·replace h:=ag g11 h;refine V ?_;refine aP (fun s L=> ∃p13 p14 A13 n13 c13,ez N (bZ N a1 a0 m7) a1 p8 a0 p13 p14=some r∧s=[(0,pV B1 0),(8,I A6 n6 c6),(9,iV (a1.length:Int)),(10,iV p8)]∧L=[eM A6 n6 c6 a1,br A2 n2 c2 a0.m_.Young,br A3 n3 c3 a0.m_.Old,cc A13 n13 c13 p13,dN kN rW M5 p14,aw B1 128 [I A2 n2 c2,I A3 n3 c3,I A13 n13 c13,.map (some M5),iV a0.done_]]) ?_ ?_
  ·refine V ?_;obtain ⟨x15,hx15,h⟩:=aa h;obtain ⟨lx15,ux15,hx15⟩:=aj hx15;refine gR (aB 0 J ae J J hU dj lx15 ux15) ?_;refine gR (aW (u:=iV x15) 0 J ae J hx15 cM (fun _ _ _ h=>by rw [show _=_ from h];rfl)) ?_;refine V ?_;refine gR (tf (a:=x15) (z:=()) 4 J we J J t0 (gn t5) sx) ?_;refine V ?_;refine gD (aM sx J) ?_;rintro _ _ ⟨B16,rfl,rfl⟩;refine gO (au (us:=[]) (cs':=[]) 0 J J J J zh J J J) ?_;rintro _ _ rfl;refine V ?_;obtain ⟨b17,hb17,h⟩:=aa h;refine aD 7 32 b17 ?_ ?_
   ·clear h;refine aE 25 J (fun g17=> ?_) (fun g17=> ?_)
    ·have h:=ag g17 hb17;refine V ?_;refine bA (aC (us:=[I A2 n2 c2,I A3 n3 c3]) 6 J J cu J) J (aO g17 J) J ?_;refine V ?_;obtain ⟨y18,hy18,h⟩:=aa h;refine ca (ak (mq hy18) yW J (hJ (ap (i:=2) J J) (hJ (ap (i:=3) J J) ai)) kz) J (aO g17 J) J ?_;rintro _ _ ⟨_,⟨rfl,rfl⟩,rfl⟩;refine V ?_;obtain rfl:=ao h;exact ad sA (cS [0,1,2,3,4,5,6] 7)
    have h:=ah g17 hb17;refine V ?_;obtain rfl:=ao h;exact ad sA (cS [0,1,2,3,4,5,6] 7)
   refine V ?_;refine aq J (fun g19=> ?_) (fun g19=> ?_)
   ·replace h:=ag g19 h;refine V ?_;refine gE (bJ J (xV)) ?_;refine gO (ke (a:=x15) (b:=()) 5 J J J J t0 (gn t5)) ?_;rintro _ _ rfl;refine V ?_;refine gD (aN (R:=(dn .i64)) (vss:=[[iV x15]]) (xs:=[x15]) J (dO _) J J (fun _ _ hr=> .cons J All2.nil)) ?_;rintro _ _ ⟨A20,n20,c20,rfl,rfl⟩;obtain ⟨q21,h⟩:=am h;refine gD (ba 5 0 J J aJ J J hU uE J J q21) ?_;rintro _ _ ⟨A22,n22,c22,rfl,rfl⟩;refine bX ?_;refine V ?_;refine gO (au (us:=[I A22 n22 c22]) (cs':=[I A2 n2 c2,I A3 n3 c3,I A22 n22 c22,.map (some M5),iV a0.done_]) 7 J J J J mp J J J) ?_;rintro _ _ rfl;refine V ?_;exact ⟨_,_,⟨p9++([x15]:List Int),uf p10 x15 (),A22,n22,c22,h,J,J⟩,sA,cS [2,3,4,5,6,7] 8⟩
   replace h:=ah g19 h;refine V ?_;exact ⟨_,_,⟨p9,p10,A9,n9,c9,h,J,J⟩,sA,cS [1,2,3,4,5,6] 7⟩
  rintro _ _ ⟨p13,p14,A13,n13,c13,h,rfl,rfl⟩;refine dA ?_;obtain ⟨q23,h⟩:=am h;refine gE (aT J J q23.1 q23.2) ?_;refine V ?_;exact ⟨m7,_,_,GD _,⟨p8+1,p13,p14,A13,n13,c13,h,J,J⟩,sA,cS [0,1,2,3,4,5] 6⟩
 replace h:=ah g11 h;refine V ?_;obtain rfl:=ao h;exact lN J (cS [5,1,2,3,4] 6) ⟨_,_,_,_,_,_,_,_,_,_,J,J⟩
set_option maxHeartbeats 4000000 in
theorem py {N:Nat}{hE:Value}{K:Nat}{a0:Gy}{a1:(List Int)}{r:Gy}(h:cO N a0 a1=some r):Okc Tryz.prog 177 [pV B1 0,I A6 n6 c6] ([br A2 n2 c2 a0.m_.Young,br A3 n3 c3 a0.m_.Old,eM A6 n6 c6 a1,aw B1 128 [I A2 n2 c2,I A3 n3 c3,I A4 n4 c4,.map (some M5),iV a0.done_],gc (dn .i64) 3 (I A4 n4 c4) a0.all_ hE K,dN kN rW M5 a0.met_]) (fun u post=> ∃A0 n0 c0 A1 n1 c1 A2 n2 c2 M3,u=.tuple #[]∧post=[aw B1 128 [I A0 n0 c0,I A1 n1 c1,I A2 n2 c2,.map (some M3),iV r.done_],br A0 n0 c0 r.m_.Young,br A1 n1 c1 r.m_.Old,gc (dn .i64) 3 (I A2 n2 c2) r.all_ hE K,dN kN rW M3 r.met_]):=by
 refine bx Tryz.func177 J J ?_;simp only [aU];refine V ?_;refine gR (aG 2 J ae J hU) ?_;refine V ?_;refine aZ (fun m s L=> ∃p8 p9 p10 A9 n9 c9,bZ N a1 a0 m p8 p9 p10=some r∧s=[(0,pV B1 0),(8,I A6 n6 c6),(9,iV (a1.length:Int)),(10,iV p8)]∧L=[eM A6 n6 c6 a1,br A2 n2 c2 a0.m_.Young,br A3 n3 c3 a0.m_.Old,gc (dn .i64) 3 (I A9 n9 c9) p9 hE K,dN kN rW M5 p10,aw B1 128 [I A2 n2 c2,I A3 n3 c3,I A9 n9 c9,.map (some M5),iV a0.done_]]) N _ _ ⟨0,a0.all_,a0.met_,A4,n4,c4,h,J,J⟩ sA (cS [2,0,1,4,5,3] 6) ?_;rintro (_|m7) _ _ ⟨p8,p9,p10,A9,n9,c9,h,rfl,rfl⟩
 ·exact az h
 rw [bZ.eq_2] at h;refine V ?_;refine ay ?_;refine aq J (fun g11=> ?_) (fun g11=> ?_)
 ·replace h:=ag g11 h;refine V ?_;refine aP (fun s L=> ∃p13 p14 A13 n13 c13,ez N (bZ N a1 a0 m7) a1 p8 a0 p13 p14=some r∧s=[(0,pV B1 0),(8,I A6 n6 c6),(9,iV (a1.length:Int)),(10,iV p8)]∧L=[eM A6 n6 c6 a1,br A2 n2 c2 a0.m_.Young,br A3 n3 c3 a0.m_.Old,gc (dn .i64) 3 (I A13 n13 c13) p13 hE K,dN kN rW M5 p14,aw B1 128 [I A2 n2 c2,I A3 n3 c3,I A13 n13 c13,.map (some M5),iV a0.done_]]) ?_ ?_
  ·refine V ?_;obtain ⟨x15,hx15,h⟩:=aa h;obtain ⟨lx15,ux15,hx15⟩:=aj hx15;refine gR (aB 0 J ae J J hU dj lx15 ux15) ?_;refine gR (aW (u:=iV x15) 0 J ae J hx15 cM (fun _ _ _ h=>by rw [show _=_ from h];rfl)) ?_;refine V ?_;refine gR (tf (a:=x15) (z:=()) 4 J we J J t0 (gn t5) sx) ?_;refine V ?_;refine gD (aM sx J) ?_;rintro _ _ ⟨B16,rfl,rfl⟩;refine gO (au (us:=[]) (cs':=[]) 0 J J J J zh J J J) ?_;rintro _ _ rfl;refine V ?_;obtain ⟨b17,hb17,h⟩:=aa h;refine aD 7 32 b17 ?_ ?_
   ·clear h;refine aE 25 J (fun g17=> ?_) (fun g17=> ?_)
    ·have h:=ag g17 hb17;refine V ?_;refine bA (aC (us:=[I A2 n2 c2,I A3 n3 c3]) 6 J J cu J) J (aO g17 J) J ?_;refine V ?_;obtain ⟨y18,hy18,h⟩:=aa h;refine ca (ak (mq hy18) yW J (hJ (ap (i:=2) J J) (hJ (ap (i:=3) J J) ai)) kz) J (aO g17 J) J ?_;rintro _ _ ⟨_,⟨rfl,rfl⟩,rfl⟩;refine V ?_;obtain rfl:=ao h;exact ad sA (cS [0,1,2,3,4,5,6] 7)
    have h:=ah g17 hb17;refine V ?_;obtain rfl:=ao h;exact ad sA (cS [0,1,2,3,4,5,6] 7)
   refine V ?_;refine aq J (fun g19=> ?_) (fun g19=> ?_)
   ·replace h:=ag g19 h;refine V ?_;refine gE (bJ J (xV)) ?_;refine gO (ke (a:=x15) (b:=()) 5 J J J J t0 (gn t5)) ?_;rintro _ _ rfl;refine V ?_;refine gD (aN (R:=(dn .i64)) (vss:=[[iV x15]]) (xs:=[x15]) J (dO _) J J (fun _ _ hr=> .cons J All2.nil)) ?_;rintro _ _ ⟨A20,n20,c20,rfl,rfl⟩;obtain ⟨q21,h⟩:=am h;refine gD (yu 5 0 J J aJ J J hU uE J J q21) ?_;rintro _ _ ⟨A22,n22,c22,rfl,rfl⟩;refine bX ?_;refine V ?_;refine gO (au (us:=[I A22 n22 c22]) (cs':=[I A2 n2 c2,I A3 n3 c3,I A22 n22 c22,.map (some M5),iV a0.done_]) 7 J J J J mp J J J) ?_;rintro _ _ rfl;refine V ?_;exact ⟨_,_,⟨p9++([x15]:List Int),uf p10 x15 (),A22,n22,c22,h,J,J⟩,sA,cS [2,3,4,5,6,7] 8⟩
   replace h:=ah g19 h;refine V ?_;exact ⟨_,_,⟨p9,p10,A9,n9,c9,h,J,J⟩,sA,cS [1,2,3,4,5,6] 7⟩
  rintro _ _ ⟨p13,p14,A13,n13,c13,h,rfl,rfl⟩;refine dA ?_;obtain ⟨q23,h⟩:=am h;refine gE (aT J J q23.1 q23.2) ?_;refine V ?_;exact ⟨m7,_,_,GD _,⟨p8+1,p13,p14,A13,n13,c13,h,J,J⟩,sA,cS [0,1,2,3,4,5] 6⟩
 replace h:=ah g11 h;refine V ?_;obtain rfl:=ao h;exact lN J (cS [5,1,2,3,4] 6) ⟨_,_,_,_,_,_,_,_,_,_,J,J⟩
def iZ (N:Nat)(a0:Gu)(a1:Gy):Option Gy:=
 (dE N a0).bind fun y8=>bif y8.2 then ((cO N a1 ([y8.1]:List Int)).bind fun y11=>some y11) else (some a1)
theorem qd {N:Nat}{a0:Gu}{a1:Gy}{r:Gy}(h:iZ N a0 a1=some r):Okc Tryz.prog 176 [(bd a0),pV B1 0] ([br A3 n3 c3 a1.m_.Young,br A4 n4 c4 a1.m_.Old,aw B1 129 [pV B2 0],aw B2 128 [I A3 n3 c3,I A4 n4 c4,I A5 n5 c5,.map (some M6),iV a1.done_],cc A5 n5 c5 a1.all_,dN kN rW M6 a1.met_]) (fun u post=> ∃A0 n0 c0 A1 n1 c1 A2 n2 c2 M3,u=.tuple #[]∧post=[aw B2 128 [I A0 n0 c0,I A1 n1 c1,I A2 n2 c2,.map (some M3),iV r.done_],br A0 n0 c0 r.m_.Young,br A1 n1 c1 r.m_.Old,cc A2 n2 c2 r.all_,dN kN rW M3 r.met_,aw B1 129 [pV B2 0]]):=by
 refine bx Tryz.func176 J J ?_;simp only [aU];refine V ?_;refine gD (aX J J) ?_;rintro _ _ ⟨B7,rfl,rfl⟩;refine V ?_;refine gR (aC (us:=ar a0) 0 J J bn J) ?_;obtain ⟨y8,hy8,h⟩:=aa h;refine gD (ak (qV hy8) EI J (ai) pz) ?_;rintro _ _ ⟨_,⟨rfl,rfl⟩,rfl⟩;refine V ?_;refine aq J (fun g9=> ?_) (fun g9=> ?_)
 ·replace h:=ag g9 h;refine V ?_;refine gD (aN (R:=(dn .i64)) (vss:=[[iV y8.1]]) (xs:=[y8.1]) J (dO _) J J (fun _ _ hr=> .cons J All2.nil)) ?_;rintro _ _ ⟨A10,n10,c10,rfl,rfl⟩;refine kT (cg 0 J) ?_;obtain ⟨y11,hy11,h⟩:=aa h;refine gD (cw (lW hy11) wA J (bq [2,3,0] [5,6,7] [0,1,2,3,4] 8 J)) ?_;rintro _ _ ⟨_,⟨A12,n12,c12,A13,n13,c13,A14,n14,c14,M15,rfl,rfl⟩,rfl⟩;refine mj ?_;obtain rfl:=ao h;exact lN J (cS [0,1,2,3,4,9] 10) ⟨_,_,_,_,_,_,_,_,_,_,J,J⟩
 replace h:=ah g9 h;refine za ?_;obtain rfl:=ao h;exact lN J (cS [4,1,2,5,6,3] 7) ⟨_,_,_,_,_,_,_,_,_,_,J,J⟩
def eT (N:Nat)(a0:(List Gu)):Option (List Gu):=
 bD (bN (([]:List Gu).length+a0.length)) (some (([]:List Gu)++a0))
theorem jG {N:Nat}{a0:(List Gu)}{r:(List Gu)}(h:eT N a0=some r):Okc Tryz.prog 85 [I A1 n1 c1] ([aS A1 n1 c1 a0]) (fun u post=> ∃A0 n0 c0,u=I A0 n0 c0∧post=[cB A0 n0 c0 r]):=by
 refine bx Tryz.func85 J J ?_;simp only [aU];refine V ?_;refine ay ?_;refine V ?_;refine gE (xF J hO) ?_;refine V ?_;refine aq J (fun g2=> ?_) (fun g2=> ?_)
 ·replace g2:(A1).isNone=true:=by simpa using g2
  refine D2 0 J ae g2 (fun hx=> ?_);subst hx;replace h:bD (bN (([]:List Gu).length+([]:List Gu).length)) (some (([]:List Gu)++([]:List Gu)))=some r:=h
  replace h:some []=some r:=by simpa [bD] using h
  refine V ?_;obtain rfl:=ao h;exact aL J J ((bL aF 52 _).trans (cS [0] 2)) ⟨_,_,_,J,J⟩
 refine V ?_;refine gD (aN (R:=aF) (vss:=[]) (xs:=[]) J (oa) J J (fun _ _ hr=>All2.nil)) ?_;rintro _ _ ⟨A4,n4,c4,rfl,rfl⟩;refine V ?_;obtain ⟨q5,h⟩:=am h;refine gD (ba 0 1 J J ae J J hO nn J J q5) ?_;rintro _ _ ⟨A6,n6,c6,rfl,rfl⟩;refine V ?_;obtain rfl:=ao h;exact aL J J (cS [0] 2) ⟨_,_,_,J,J⟩
theorem il {r:(List Gu)}: ∀v post,((fun (u:Value) (post:List Chunk)=> ∃A0 n0 c0,u=I A0 n0 c0∧post=[cB A0 n0 c0 r])) v post→ ∀c∈post,bR c:=by
 rintro _ _ ⟨_,_,_,rfl,rfl⟩;exact hJ bm (ai)
def jF (N:Nat)(a0:Gw):Option Gw:=
 (eT N a0.Slots).bind fun y5=>(eT N a0.More).bind fun y7=>some (⟨a0.Kind,a0.Shape,a0.Flags,a0.Age,y5,y7⟩:Gw)
theorem qN {N:Nat}{a0:Gw}{r:Gw}(h:jF N a0=some r):Okc Tryz.prog 91 [.agg #[iV a0.Kind,iV a0.Shape,iV a0.Flags,iV a0.Age,I A1 n1 c1,I A2 n2 c2]] ([aS A1 n1 c1 a0.Slots,aS A2 n2 c2 a0.More]) (fun u post=> ∃A0 n0 c0 A1 n1 c1,u=.agg #[iV r.Kind,iV r.Shape,iV r.Flags,iV r.Age,I A0 n0 c0,I A1 n1 c1]∧post=[cB A0 n0 c0 r.Slots,cB A1 n1 c1 r.More]):=by
 refine bx Tryz.func91 J J ?_;simp only [aU];refine V ?_;refine gD (aX J J) ?_;rintro _ _ ⟨B3,rfl,rfl⟩;refine gD (aM dD J) ?_;rintro _ _ ⟨B4,rfl,rfl⟩;refine V ?_;refine ay ?_;refine cy O _ (ab _) ?_;refine zE 0 J (bQ J iM) ?_;refine zR 1 J (aR 1 J J cz J) ?_;refine zE 3 J (bQ J ce) ?_;refine zR 4 J (aR 1 J J cz J) ?_;obtain ⟨y5,hy5,h⟩:=aa h;refine zD 2 J (ak (jG hy5) yQ J (hJ (ap (i:=2) J J) ai) il) ?_;rintro _ _ ⟨_,⟨A6,n6,c6,rfl,rfl⟩,rfl⟩;refine gX (cS [1,2,3,4] 5) ?_;refine zE 6 J (bQ J iM) ?_;obtain ⟨y7,hy7,h⟩:=aa h;refine zD 5 J (ak (jG hy7) yQ J (hJ (ap (i:=4) J J) ai) il) ?_;rintro _ _ ⟨_,⟨A8,n8,c8,rfl,rfl⟩,rfl⟩;refine gX (cS [2,3,4,5] 6) ?_;refine oM 7 J O O (au (us:=[I A6 n6 c6]) (cs':=[iV a0.Kind,iV a0.Shape,iV a0.Flags,iV a0.Age,I A6 n6 c6,I A2 n2 c2]) 3 J J J J eJ J J J) ?_;rintro _ _ rfl;refine zE 8 J (bQ J ce) ?_;refine oM 9 J O O (au (us:=[I A8 n8 c8]) (cs':=[iV a0.Kind,iV a0.Shape,iV a0.Flags,iV a0.Age,I A6 n6 c6,I A8 n8 c8]) 3 J J J J eJ J J J) ?_;rintro _ _ rfl;refine cx O ?_;refine V ?_;refine gR (aC (us:=[iV a0.Kind,iV a0.Shape,iV a0.Flags,iV a0.Age,I A6 n6 c6,I A8 n8 c8]) 3 J J bo J) ?_
 refine gO (au (us:=[iV a0.Kind,iV a0.Shape,iV a0.Flags,iV a0.Age,I A6 n6 c6,I A8 n8 c8]) (cs':=[iV a0.Kind,iV a0.Shape,iV a0.Flags,iV a0.Age,I A6 n6 c6,I A8 n8 c8]) 2 J J J J bu J J J) ?_;rintro _ _ rfl;refine V ?_;obtain rfl:=ao h;exact dl (rs:=[.cell 2 47]) (vs:=[.agg #[iV a0.Kind,iV a0.Shape,iV a0.Flags,iV a0.Age,I A6 n6 c6,I A8 n8 c8]]) J (.cons (bY 2 J J bo) .nil) J (cS [1,0] 6) ⟨_,_,_,_,_,_,J,J⟩
theorem nZ {r:Gw}: ∀v post,((fun (u:Value) (post:List Chunk)=> ∃A0 n0 c0 A1 n1 c1,u=.agg #[iV r.Kind,iV r.Shape,iV r.Flags,iV r.Age,I A0 n0 c0,I A1 n1 c1]∧post=[cB A0 n0 c0 r.Slots,cB A1 n1 c1 r.More])) v post→ ∀c∈post,bR c:=by
 rintro _ _ ⟨_,_,_,_,_,_,rfl,rfl⟩;exact hJ bm (hJ bm (ai))
def dF (N:Nat)(a0:Gx)(a1:Int):Option Gw:=
 (gC N a0 a1).bind fun y5=>bif !y5.2.2 then (some (⟨0,0,0,0,[],[]⟩:Gw)) else ((aH y5.1 y5.2.1).bind fun x10=>(jF N x10).bind fun y14=>some y14)
theorem nB {N:Nat}{a0:Gx}{a1:Int}{r:Gw}(h:dF N a0 a1=some r):Okc Tryz.prog 30 [.agg #[I A1 n1 c1,I A2 n2 c2],iV a1] ([br A1 n1 c1 a0.Young,br A2 n2 c2 a0.Old]) (fun u post=> ∃A0 n0 c0 A1 n1 c1,u=.agg #[iV r.Kind,iV r.Shape,iV r.Flags,iV r.Age,I A0 n0 c0,I A1 n1 c1]∧post=[cB A0 n0 c0 r.Slots,cB A1 n1 c1 r.More]):=by
 refine bx Tryz.func30 J J ?_;simp only [aU];refine V ?_;refine gD (aX J J) ?_;rintro _ _ ⟨B3,rfl,rfl⟩;refine gD (aM dD J) ?_;rintro _ _ ⟨B4,rfl,rfl⟩;refine V ?_;refine gR (aC (us:=[I A1 n1 c1,I A2 n2 c2]) 1 J J cu J) ?_;refine V ?_;obtain ⟨y5,hy5,h⟩:=aa h;refine gD (cw (ny hy5) Ce J (bq [2,3] [] [0,1,2,3] 4 J)) ?_;rintro _ _ ⟨_,⟨A6,n6,c6,rfl,rfl⟩,rfl⟩;refine V ?_;refine ay ?_;refine V ?_;refine aq J (fun g7=> ?_) (fun g7=> ?_)
 ·replace h:=ag g7 h;refine V ?_;refine gE (bJ J (oL)) ?_;refine gO (au (us:=[iV 0,iV 0,iV 0,iV 0,I none 0 0,I none 0 0]) (cs':=[iV 0,iV 0,iV 0,iV 0,I none 0 0,I none 0 0]) 1 J J J J bu J J J) ?_;rintro _ _ rfl;refine V ?_;obtain rfl:=ao h;exact dl (rs:=[.cell 4 47]) (vs:=[.agg #[iV 0,iV 0,iV 0,iV 0,I none 0 0,I none 0 0]]) J (.cons (bY 1 J J bo) .nil) J ((bL aF 52 _).trans ((bL aF 52 _).trans (cS [1,0] 7))) ⟨_,_,_,_,_,_,J,J⟩
 replace h:=ah g7 h;refine V ?_;obtain ⟨x10,hx10,h⟩:=aa h;obtain ⟨lx10,ux10,hx10⟩:=aj hx10;refine gR (aB 0 J ae J J hP bu lx10 ux10) ?_;refine xZ 0 J hx10 (cA x10) ?_;rintro _ _ ⟨A11,n11,c11,A12,n12,c12,rfl,rfl⟩;refine gR (mr (us:=[iV x10.Kind,iV x10.Shape,iV x10.Flags,iV x10.Age,I A11 n11 c11,I A12 n12 c12]) 0 J J bo J) ?_;obtain ⟨y14,hy14,h⟩:=aa h;refine gD (ak (qN hy14) Cd J (hJ (ap (i:=1) J J) (hJ (ap (i:=2) J J) ai)) nZ) ?_;rintro _ _ ⟨_,⟨A15,n15,c15,A16,n16,c16,rfl,rfl⟩,rfl⟩;refine gO (au (us:=[iV y14.Kind,iV y14.Shape,iV y14.Flags,iV y14.Age,I A15 n15 c15,I A16 n16 c16]) (cs':=[iV y14.Kind,iV y14.Shape,iV y14.Flags,iV y14.Age,I A15 n15 c15,I A16 n16 c16]) 6 J J J J bu J J J) ?_;rintro _ _ rfl;refine bX ?_;refine V ?_;obtain rfl:=ao h;exact dl (rs:=[.cell 4 47]) (vs:=[.agg #[iV y14.Kind,iV y14.Shape,iV y14.Flags,iV y14.Age,I A15 n15 c15,I A16 n16 c16]]) J (.cons (bY 6 J J bo) .nil) J (cS [0,1] 10) ⟨_,_,_,_,_,_,J,J⟩
theorem lA {r:Gw}: ∀v post,((fun (u:Value) (post:List Chunk)=> ∃A0 n0 c0 A1 n1 c1,u=.agg #[iV r.Kind,iV r.Shape,iV r.Flags,iV r.Age,I A0 n0 c0,I A1 n1 c1]∧post=[cB A0 n0 c0 r.Slots,cB A1 n1 c1 r.More])) v post→ ∀c∈post,bR c:=by
 rintro _ _ ⟨_,_,_,_,_,_,rfl,rfl⟩;exact hJ bm (hJ bm (ai))
def fG (N:Nat){σ:Type}(fy:(Bool×Gu)→σ→Option (Bool×σ))(a1:Gw):Nat→Int→σ→Option σ
 |0,_,_=>none
 |m15+1,p16,p17=>bif decide (p16<(a1.More.length:Int)) then ((aH a1.More p16).bind fun x19=>(bif !decide (a1.Kind=8) then ((bif !decide (a1.Kind=10) then (some true) else (some (decide (p16.tmod 2=0)))).bind fun b22=>some b22) else (some false)).bind fun b21=>(fy (b21,x19) p17).bind fun y23=>bif !y23.1 then (some y23.2) else (bD (in64 (p16+1)) ((fG N fy a1 m15) (p16+1) y23.2))) else (some p17)
def kP (N:Nat){σ:Type}(fy:(Bool×Gu)→σ→Option (Bool×σ))(a1:Gw)(p5:σ):Option σ:=
 fG N fy a1 N 0 p5
def fe (N:Nat){σ:Type}(fy:(Bool×Gu)→σ→Option (Bool×σ))(a1:Gw):Nat→Int→σ→Option σ
 |0,_,_=>none
 |m6+1,p7,p8=>bif decide (p7<(a1.Slots.length:Int)) then ((aH a1.Slots p7).bind fun x10=>(fy (true,x10) p8).bind fun y12=>bif !y12.1 then (some y12.2) else (bD (in64 (p7+1)) ((fe N fy a1 m6) (p7+1) y12.2))) else (kP N fy a1 p8)
def gL (N:Nat){σ:Type}(a1:Gw)(fy:(Bool×Gu)→σ→Option (Bool×σ))(s0:σ):Option σ:=
 fe N fy a1 N 0 s0
set_option maxHeartbeats 4000000 in
theorem nY {N:Nat}{σ:Type}{a1:Gw}{fy:(Bool×Gu)→σ→Option (Bool×σ)}{s0:σ}{r:σ}(h:gL N a1 fy s0=some r){l:Nat}{G:σ→List Chunk}(hY:lx Tryz.prog l G (fun x=> [.bool x.1,(bd x.2)]) fy):Okc Tryz.prog 223 [.func (.yield l) #[] #[],pV B1 0] (cR B1 47 [iV a1.Kind,iV a1.Shape,iV a1.Flags,iV a1.Age,I A2 n2 c2,I A3 n3 c3]::aS A2 n2 c2 a1.Slots::aS A3 n3 c3 a1.More::(G s0)) (fun u post=>u=.tuple #[]∧post=G r):=by
 refine bx Tryz.func223 J J ?_;simp only [aU];refine aP (fun s L=> ∃p5,kP N fy a1 p5=some r∧s=[(0,.func (.yield l) #[] #[]),(1,pV B1 0)]∧L=aS A2 n2 c2 a1.Slots::aS A3 n3 c3 a1.More::cR B1 47 [iV a1.Kind,iV a1.Shape,iV a1.Flags,iV a1.Age,I A2 n2 c2,I A3 n3 c3]::(G p5)) ?_ ?_
 ·refine V ?_;refine gR (dL 0 J J cz J) ?_;refine gR (aG 1 J ae J hO) ?_;refine V ?_;refine aZ (fun m s L=> ∃p7 p8,fe N fy a1 m p7 p8=some r∧s=[(0,.func (.yield l) #[] #[]),(1,pV B1 0),(9,I A2 n2 c2),(10,iV (a1.Slots.length:Int)),(11,iV p7)]∧L=aS A2 n2 c2 a1.Slots::aS A3 n3 c3 a1.More::cR B1 47 [iV a1.Kind,iV a1.Shape,iV a1.Flags,iV a1.Age,I A2 n2 c2,I A3 n3 c3]::(G p8)) N _ _ ⟨0,s0,h,J,J⟩ sA (cS [1,2,0] 3) ?_;rintro (_|m6) _ _ ⟨p7,p8,h,rfl,rfl⟩
  ·exact az h
  rw [fe.eq_2] at h;refine V ?_;refine ay ?_;refine aq J (fun g9=> ?_) (fun g9=> ?_)
  ·replace h:=ag g9 h;refine V ?_;refine ay ?_;refine V ?_;obtain ⟨x10,hx10,h⟩:=aa h;obtain ⟨lx10,ux10,hx10⟩:=aj hx10;refine gR (aB 0 J ae J J hO aI lx10 ux10) ?_;refine gR (aQ (us:=ar x10) 0 J ae J hx10 bn (fun _ _ _ h=>by rw [show _=_ from h];rfl)) ?_;refine gD (aM gr J) ?_;rintro _ _ ⟨B11,rfl,rfl⟩;refine gO (au (us:=ar x10) (cs':=ar x10) 0 J J J J aI J J J) ?_;rintro _ _ rfl;refine V ?_;refine gR (aC (us:=ar x10) 0 J J bn J) ?_;obtain ⟨y12,hy12,h⟩:=aa h;refine gD (oA (a:=(true,x10)) [aw B11 52 (ar x10),aS A2 n2 c2 a1.Slots,aS A3 n3 c3 a1.More,cR B1 47 [iV a1.Kind,iV a1.Shape,iV a1.Flags,iV a1.Age,I A2 n2 c2,I A3 n3 c3]] hY hy12 J J) ?_;rintro _ _ ⟨rfl,rfl⟩;refine V ?_;refine aq J (fun g13=> ?_) (fun g13=> ?_)
   ·replace h:=ag g13 h;refine V ?_;obtain rfl:=ao h;exact vo J (cS [] 4) ⟨J,J⟩
   replace h:=ah g13 h;refine V ?_;obtain ⟨q14,h⟩:=am h;refine gE (aT J J q14.1 q14.2) ?_;refine V ?_;exact ⟨m6,_,_,GD _,⟨p7+1,y12.2,h,J,J⟩,sA,cS [1,2,3] 4⟩
  replace h:=ah g9 h;refine V ?_;exact ⟨_,_,⟨p8,h,J,J⟩,sA,cS [0,1,2] 3⟩
 rintro _ _ ⟨p5,h,rfl,rfl⟩;refine V ?_;refine gR (dL 2 J J cz J) ?_;refine gR (aG 1 J ae J hO) ?_;refine V ?_;refine aZ (fun m s L=> ∃p16 p17,fG N fy a1 m p16 p17=some r∧s=[(0,.func (.yield l) #[] #[]),(1,pV B1 0),(21,I A3 n3 c3),(22,iV (a1.More.length:Int)),(23,iV p16)]∧L=aS A3 n3 c3 a1.More::aS A2 n2 c2 a1.Slots::cR B1 47 [iV a1.Kind,iV a1.Shape,iV a1.Flags,iV a1.Age,I A2 n2 c2,I A3 n3 c3]::(G p17)) N _ _ ⟨0,p5,h,J,J⟩ sA (cS [1,0,2] 3) ?_;rintro (_|m15) _ _ ⟨p16,p17,h,rfl,rfl⟩
 ·exact az h
 rw [fG.eq_2] at h;refine V ?_;refine ay ?_;refine aq J (fun g18=> ?_) (fun g18=> ?_)
 ·replace h:=ag g18 h;refine V ?_;refine ay ?_;refine V ?_;obtain ⟨x19,hx19,h⟩:=aa h;obtain ⟨lx19,ux19,hx19⟩:=aj hx19;refine gR (aB 0 J ae J J hO aI lx19 ux19) ?_;refine gR (aQ (us:=ar x19) 0 J ae J hx19 bn (fun _ _ _ h=>by rw [show _=_ from h];rfl)) ?_;refine gD (aM gr J) ?_;rintro _ _ ⟨B20,rfl,rfl⟩;refine V ?_;refine gO (au (us:=ar x19) (cs':=ar x19) 0 J J J J aI J J J) ?_;rintro _ _ rfl;refine bX ?_;refine V ?_;refine gR (dL 3 J J cM J) ?_;refine V ?_;obtain ⟨b21,hb21,h⟩:=aa h;refine aD 9 40 b21 ?_ ?_
  ·clear h;refine aE 31 J (fun g21=> ?_) (fun g21=> ?_)
   ·have h:=ag g21 hb21;refine V ?_;refine bA (dL 3 J J cM J) J (aO g21 J) J ?_;refine V ?_;obtain ⟨b22,hb22,h⟩:=aa h;refine aD 4 39 b22 ?_ ?_
    ·clear h;refine aE 35 J (fun g22=> ?_) (fun g22=> ?_)
     ·have h:=ag g22 hb22;refine V ?_;obtain rfl:=ao h;exact ad sA (cS [0,1,2,3] 4)
     have h:=ah g22 hb22;refine V ?_;refine pU (lM J J (by decide)) J (fW g22 J) J ?_;refine V ?_;obtain rfl:=ao h;exact ad sA (cS [0,1,2,3] 4)
    refine V ?_;obtain rfl:=ao h;exact ad sA (cS [0,1,2,3] 4)
   have h:=ah g21 hb21;refine V ?_;obtain rfl:=ao h;exact ad sA (cS [0,1,2,3] 4)
  refine V ?_;refine gR (aC (us:=ar x19) 0 J J bn J) ?_;obtain ⟨y23,hy23,h⟩:=aa h;refine gD (oA (a:=(b21,x19)) [aw B20 52 (ar x19),aS A3 n3 c3 a1.More,aS A2 n2 c2 a1.Slots,cR B1 47 [iV a1.Kind,iV a1.Shape,iV a1.Flags,iV a1.Age,I A2 n2 c2,I A3 n3 c3]] hY hy23 J J) ?_;rintro _ _ ⟨rfl,rfl⟩;refine V ?_;refine aq J (fun g24=> ?_) (fun g24=> ?_)
  ·replace h:=ag g24 h;refine V ?_;obtain rfl:=ao h;exact vo J (cS [] 4) ⟨J,J⟩
  replace h:=ah g24 h;refine V ?_;obtain ⟨q25,h⟩:=am h;refine gE (aT J J q25.1 q25.2) ?_;refine V ?_;exact ⟨m15,_,_,GD _,⟨p16+1,y23.2,h,J,J⟩,sA,cS [1,2,3] 4⟩
 replace h:=ah g18 h;refine V ?_;obtain rfl:=ao h;exact lN J (cS [] 3) ⟨J,J⟩
def kQ (N:Nat)(a0:Gw):Option Unit:=
 some ()
theorem rZ {N:Nat}{a0:Gw}{r:Unit}(h:kQ N a0=some r):Okc Tryz.prog 168 [.agg #[iV a0.Kind,iV a0.Shape,iV a0.Flags,iV a0.Age,I A1 n1 c1,I A2 n2 c2]] ([aS A1 n1 c1 a0.Slots,aS A2 n2 c2 a0.More]) (fun u post=> ∃B900,u=.func (.func 223) #[] #[pV B900 0]∧post=[aw B900 47 [iV a0.Kind,iV a0.Shape,iV a0.Flags,iV a0.Age,I A1 n1 c1,I A2 n2 c2]]):=by
 refine bx Tryz.func168 J J ?_;simp only [aU];refine V ?_;refine gD (aX J J) ?_;rintro _ _ ⟨B3,rfl,rfl⟩;refine V ?_;refine gE (fm J) ?_;refine V ?_;obtain rfl:=ao h;exact aL J J (cS [0] 3) ⟨_,J,J⟩
theorem pm {a0:Gw}{A1:Option Addr}{n1:Nat}{c1:Nat}{A2:Option Addr}{n2:Nat}{c2:Nat}: ∀v post,((fun (u:Value) (post:List Chunk)=> ∃B900,u=.func (.func 223) #[] #[pV B900 0]∧post=[aw B900 47 [iV a0.Kind,iV a0.Shape,iV a0.Flags,iV a0.Age,I A1 n1 c1,I A2 n2 c2]])) v post→ ∀c∈post,bR c:=by
 rintro _ _ ⟨_,rfl,rfl⟩;exact hJ mf (ai)
def kf (N:Nat)(a0:Gu):Option Bool:=
 (bif decide (a0.Kind=7) then (some true) else (some (decide (a0.Kind=9)))).bind fun b2=>some b2
theorem uC {N:Nat}{a0:Gu}{r:Bool}(h:kf N a0=some r):Okc Tryz.prog 214 [(bd a0)] ([]) (fun u post=>u=.bool r∧post=[]):=by
 refine bx Tryz.func214 J J ?_;simp only [aU];refine V ?_;refine gD (aX J J) ?_;rintro _ _ ⟨B1,rfl,rfl⟩;refine V ?_;obtain ⟨b2,hb2,h⟩:=aa h;refine aD 4 10 b2 ?_ ?_
 ·clear h;refine aE 6 J (fun g2=> ?_) (fun g2=> ?_)
  ·have h:=ag g2 hb2;refine V ?_;obtain rfl:=ao h;exact ad sA (cS [0] 1)
  have h:=ah g2 hb2;refine V ?_;obtain rfl:=ao h;exact ad sA (cS [0] 1)
 refine V ?_;obtain rfl:=ao h;exact aL J J (cS [] 1) ⟨J,J⟩
theorem su {r:Bool}: ∀v post,((fun (u:Value) (post:List Chunk)=>u=.bool r∧post=[])) v post→ ∀c∈post,bR c:=by
 rintro _ _ ⟨rfl,rfl⟩;exact ai
def dg (N:Nat)(a1:Bool)(x8:Bool×Gu):((List Int))→Option (Option Exit×(List Int))
 |p9=>(bif x8.1==a1 then ((kf N x8.2).bind fun y14=>some y14) else (some false)).bind fun b13=>bif b13 then (bD (bN (p9.length+([x8.2.N]:List Int).length)) (some (none,p9++([x8.2.N]:List Int)))) else (some (none,p9))
def fg (N:Nat)(a0:Gw)(a1:Bool):Option (List Int):=
 (kQ N a0).bind fun y6=>(gL N a0 (bW (fun x st=>dg N a1 x st)) (none,[])).bind fun y10=>lw y10.1 (some y10.2) none (fun _=>none)
theorem lv {N:Nat}{a0:Gw}{a1:Bool}{r:(List Int)}(h:fg N a0 a1=some r):Okc Tryz.prog 173 [.agg #[iV a0.Kind,iV a0.Shape,iV a0.Flags,iV a0.Age,I A1 n1 c1,I A2 n2 c2],.bool a1] ([aS A1 n1 c1 a0.Slots,aS A2 n2 c2 a0.More]) (fun u post=> ∃A0 n0 c0,u=I A0 n0 c0∧post=[cc A0 n0 c0 r]):=by
 refine bx Tryz.func173 J J ?_;simp only [aU];refine V ?_;refine gD (aX J J) ?_;rintro _ _ ⟨B3,rfl,rfl⟩;refine gD (aX J J) ?_;rintro _ _ ⟨B4,rfl,rfl⟩;refine V ?_;refine gD (aM sJ J) ?_;rintro _ _ ⟨B5,rfl,rfl⟩;refine V ?_;refine ay ?_;refine V ?_;refine gR (aC (us:=[iV a0.Kind,iV a0.Shape,iV a0.Flags,iV a0.Age,I A1 n1 c1,I A2 n2 c2]) 2 J J bo J) ?_;obtain ⟨y6,hy6,h⟩:=aa h;refine gD (ak (rZ hy6) zS J (hJ (ap (i:=3) J J) (hJ (ap (i:=4) J J) ai)) pm) ?_;rintro _ _ ⟨_,⟨B7,rfl,rfl⟩,rfl⟩;refine mj ?_;refine jB ?_;refine dP ?_ bH (fP 0 J);obtain ⟨y10,hy10,h⟩:=aa h;refine kS (en:=(fun x=> [.bool x.1,(bd x.2)])) (fun x st=>dg N a1 x st) (fun (st:(List Int)) (mz:((Option Addr×Nat×Nat)))=> [aw B4 4 [.bool a1],dQ (dn .i64) 3 (.slice mz.1 mz.2.1 mz.2.2) st,aw B5 23 [.slice mz.1 mz.2.1 mz.2.2]]) [cR B7 47 [iV a0.Kind,iV a0.Shape,iV a0.Flags,iV a0.Age,I A1 n1 c1,I A2 n2 c2],aS A1 n1 c1 a0.Slots,aS A2 n2 c2 a0.More] ([]) ((none,0,0)) J J zI J (fun _=>J) (fun l G hY=>(nY hy10 hY).mono fun _ _ hh=>hh.2) ((bL (dn .i64) 3 _).trans (bq [1,5,6] [] [3,0,2] 7 J)) h ?_ ?_ ?_ ?_
 ·rintro l x8 p9 je sr8 ⟨A9,n9,c9⟩ h;replace h:dg N a1 x8 p9=some (je,sr8):=h;simp only [pJ,List.zip_cons_cons,List.zip_nil_left,List.zip_nil_right,List.reverse_cons,List.reverse_nil,List.nil_append,List.cons_append];refine V ?_;refine gD (aM gr J) ?_;rintro _ _ ⟨B12,rfl,rfl⟩;refine gO (au (us:=ar x8.2) (cs':=ar x8.2) 0 J J J J aI J J J) ?_;rintro _ _ rfl;refine V ?_;refine gE (EC J J Tryz.underlying4) ?_;refine V ?_;obtain ⟨b13,hb13,h⟩:=aa h;refine aD 3 18 b13 ?_ ?_
  ·clear h;refine aE 15 J (fun g13=> ?_) (fun g13=> ?_)
   ·have h:=ag g13 hb13;refine bA (aC (us:=ar x8.2) 0 J J bn J) J (aO g13 J) J ?_;obtain ⟨y14,hy14,h⟩:=aa h;refine ca (ak (uC hy14) Dp J (ai) su) J (aO g13 J) J ?_;rintro _ _ ⟨_,⟨rfl,rfl⟩,rfl⟩;refine V ?_;obtain rfl:=ao h;exact ad sA (cS [0,1,2,3] 4)
   have h:=ah g13 hb13;refine V ?_;obtain rfl:=ao h;exact ad sA (cS [0,1,2,3] 4)
  refine V ?_;refine aq J (fun g15=> ?_) (fun g15=> ?_)
  ·replace h:=ag g15 h;refine V ?_;refine gD (aN (R:=(dn .i64)) (vss:=[[iV x8.2.N]]) (xs:=[x8.2.N]) J (dO _) J J (fun _ _ hr=> .cons J All2.nil)) ?_;rintro _ _ ⟨A16,n16,c16,rfl,rfl⟩;obtain ⟨q17,h⟩:=am h;refine gD (ba 3 0 J J aJ J J hU uE J J q17) ?_;rintro _ _ ⟨A18,n18,c18,rfl,rfl⟩;refine bX ?_;refine gO (au (us:=[I A18 n18 c18]) (cs':=[I A18 n18 c18]) 4 J J J J mp J J J) ?_;rintro _ _ rfl;refine V ?_;obtain ⟨rfl,rfl⟩:=Prod.mk.inj (Option.some.inj h);exact rv ((cS [2,3,4] 5).trans (dm (A18,n18,c18) J))
  replace h:=ah g15 h;refine V ?_;obtain ⟨rfl,rfl⟩:=Prod.mk.inj (Option.some.inj h);exact rv ((cS [1,2,3] 4).trans (dm (A9,n9,c9) J))
 ·rintro ⟨A9,n9,c9⟩ h;refine iR ([aw B4 4 [.bool a1],cc A9 n9 c9 y10.2,aw B5 23 [I A9 n9 c9]]) J ?_;refine V ?_;obtain rfl:=ao h;exact aL J J (cS [1] 3) ⟨_,_,_,J,J⟩
 ·rintro ⟨A9,n9,c9⟩ h;exact az h
 rintro i ⟨A9,n9,c9⟩ h;exact az h
theorem jV {r:(List Int)}: ∀v post,((fun (u:Value) (post:List Chunk)=> ∃A0 n0 c0,u=I A0 n0 c0∧post=[cc A0 n0 c0 r])) v post→ ∀c∈post,bR c:=by
 rintro _ _ ⟨_,_,_,rfl,rfl⟩;exact hJ bm (ai)
def gq (N:Nat)(a0:Gw):Option (List Int):=
 (fg N a0 true).bind fun y4=>some y4
theorem pn {N:Nat}{a0:Gw}{r:(List Int)}(h:gq N a0=some r):Okc Tryz.prog 96 [.agg #[iV a0.Kind,iV a0.Shape,iV a0.Flags,iV a0.Age,I A1 n1 c1,I A2 n2 c2]] ([aS A1 n1 c1 a0.Slots,aS A2 n2 c2 a0.More]) (fun u post=> ∃A0 n0 c0,u=I A0 n0 c0∧post=[cc A0 n0 c0 r]):=by
 refine bx Tryz.func96 J J ?_;simp only [aU];refine V ?_;refine gD (aX J J) ?_;rintro _ _ ⟨B3,rfl,rfl⟩;refine V ?_;refine gR (aC (us:=[iV a0.Kind,iV a0.Shape,iV a0.Flags,iV a0.Age,I A1 n1 c1,I A2 n2 c2]) 0 J J bo J) ?_;obtain ⟨y4,hy4,h⟩:=aa h;refine gD (ak (lv hy4) zQ J (hJ (ap (i:=1) J J) (hJ (ap (i:=2) J J) ai)) jV) ?_;rintro _ _ ⟨_,⟨A5,n5,c5,rfl,rfl⟩,rfl⟩;refine V ?_;obtain rfl:=ao h;exact aL J J (cS [0] 4) ⟨_,_,_,J,J⟩
theorem ng {r:(List Int)}: ∀v post,((fun (u:Value) (post:List Chunk)=> ∃A0 n0 c0,u=I A0 n0 c0∧post=[cc A0 n0 c0 r])) v post→ ∀c∈post,bR c:=by
 rintro _ _ ⟨_,_,_,rfl,rfl⟩;exact hJ bm (ai)
def du (N:Nat):Nat→(List Gw)→(List Gw)→(List Int)→(List (Int×Unit))→Int→Option Gy
 |0,_,_,_,_,_=>none
 |m6+1,p7,p8,p9,p10,p11=>bif decide (p11<(p9.length:Int)) then ((aH p9 p11).bind fun x13=>(dF N (⟨p7,p8⟩:Gx) x13).bind fun y14=>(gq N y14).bind fun y17=>(cO N (⟨(⟨p7,p8⟩:Gx),p9,p10,p11⟩:Gy) y17).bind fun y19=>bD (in64 (y19.done_+1)) ((du N m6) y19.m_.Young y19.m_.Old y19.all_ y19.met_ (y19.done_+1))) else (some (⟨(⟨p7,p8⟩:Gx),p9,p10,p11⟩:Gy))
def dK (N:Nat)(a0:Gy):Option Gy:=
 du N N a0.m_.Young a0.m_.Old a0.all_ a0.met_ a0.done_
theorem ju {N:Nat}{a0:Gy}{r:Gy}(h:dK N a0=some r):Okc Tryz.prog 109 [pV B1 0] ([br A2 n2 c2 a0.m_.Young,br A3 n3 c3 a0.m_.Old,aw B1 128 [I A2 n2 c2,I A3 n3 c3,I A4 n4 c4,.map (some M5),iV a0.done_],cc A4 n4 c4 a0.all_,dN kN rW M5 a0.met_]) (fun u post=> ∃A0 n0 c0 A1 n1 c1 A2 n2 c2 M3,u=.tuple #[]∧post=[aw B1 128 [I A0 n0 c0,I A1 n1 c1,I A2 n2 c2,.map (some M3),iV r.done_],br A0 n0 c0 r.m_.Young,br A1 n1 c1 r.m_.Old,cc A2 n2 c2 r.all_,dN kN rW M3 r.met_]):=by
 refine bx Tryz.func109 J J ?_;simp only [aU];refine cQ ?_;refine aZ (fun m s L=> ∃p7 p8 p9 p10 p11 A7 n7 c7 A8 n8 c8 A9 n9 c9 M10,du N m p7 p8 p9 p10 p11=some r∧s=[(0,pV B1 0)]∧L=[br A7 n7 c7 p7,br A8 n8 c8 p8,cc A9 n9 c9 p9,dN kN rW M10 p10,aw B1 128 [I A7 n7 c7,I A8 n8 c8,I A9 n9 c9,.map (some M10),iV p11]]) N _ _ ⟨a0.m_.Young,a0.m_.Old,a0.all_,a0.met_,a0.done_,A2,n2,c2,A3,n3,c3,A4,n4,c4,M5,h,J,J⟩ sA (cS [0,1,3,4,2] 5) ?_;rintro (_|m6) _ _ ⟨p7,p8,p9,p10,p11,A7,n7,c7,A8,n8,c8,A9,n9,c9,M10,h,rfl,rfl⟩
 ·exact az h
 rw [du.eq_2] at h;refine ay ?_;refine ay ?_;refine cy O _ (ab _) ?_;refine zE 0 J (ax J) ?_;refine zE 1 J (ge J) ?_;refine zE 2 J (bQ J tV) ?_;refine zR 3 J (aR 4 J J cM J) ?_;refine zE 4 J (ax J) ?_;refine zE 5 J (ge J) ?_;refine zE 6 J (bQ J qI) ?_;refine zR 7 J (aR 4 J J ln J) ?_;refine zR 8 J (aG 2 J aJ J hU) ?_;refine zE 9 J (D9 J J) ?_;refine cx O ?_;refine jB ?_;refine aq J (fun g12=> ?_) (fun g12=> ?_)
 ·replace h:=ag g12 h;refine V ?_;refine ay ?_;refine cQ ?_;obtain ⟨x13,hx13,h⟩:=aa h;obtain ⟨lx13,ux13,hx13⟩:=aj hx13;refine dP (t:=[(0,pV B1 0)]) ?_ gA (ab _)
  refine eR O 15 [0] [0,4,14] [19,20,21,22,23,24,25,26,27,28,29,30,31,32,33] [[],[],[1],[2],[3],[],[5],[6],[7],[],[9],[10],[11],[8,12],[13]] [aV (pV B1 0),
 aV (pV B1 0),
 aV (pV B1 0),
 aV (pV B1 0),
 aV (.agg #[I A7 n7 c7,I A8 n8 c8]),
 aV (pV B1 0),
 aV (pV B1 0),
 aV (pV B1 2),
 aV (I A9 n9 c9),
 aV (pV B1 0),
 aV (pV B1 0),
 aV (pV B1 4),
 aV (iV p11),
 aV (bO (I A9 n9 c9) p11.toNat 1 0),
 aV (iV x13)] [] (ab _) (lm rfl gu) O rfl rfl ?_ ?_ ?_
  ·refine ll J ?_ ?_
   ·exact r7 (ax J) J (aA J (ab _))
   exact gt
  ·refine ac J ?_ ?_
   ·exact bT (aW (u:=iV x13) 2 J aJ J hx13 cM (fun _ _ _ h=>by rw [show _=_ from h];rfl)) J (aA J (ab _))
   refine ac J ?_ ?_
   ·exact bT (aB 2 J aJ J J hU dj lx13 ux13) J (aA J (ab _))
   refine ac J ?_ ?_
   ·exact bT (aR 4 J J cM J) J (aA J (ab _))
   refine ac J ?_ ?_
   ·exact bh (bQ J tV) J (aA J (ab _))
   refine ac J ?_ ?_
   ·exact bh (ge J) J (aA J (ab _))
   refine ac J ?_ ?_
   ·exact bh (ax J) J (aA J (ab _))
   refine ac J ?_ ?_
   ·exact bT (aR 4 J J ln J) J (aA J (ab _))
   refine ac J ?_ ?_
   ·exact bh (bQ J qI) J (aA J (ab _))
   refine ac J ?_ ?_
   ·exact bh (ge J) J (aA J (ab _))
   refine ac J ?_ ?_
   ·exact bh (ax J) J (aA J (ab _))
   refine ac J ?_ ?_
   ·exact bT (aC (us:=[I A7 n7 c7,I A8 n8 c8]) 4 J J cu J) J (aA J (ab _))
   refine ac J ?_ ?_
   ·exact bh (jN J xD) J (aA J (ab _))
   refine ac J ?_ ?_
   ·exact bh (ge J) J (aA J (ab _))
   refine ac J ?_ ?_
   ·exact bh (ax J) J (aA J (ab _))
   refine ac J ?_ ?_
   ·exact bh (ax J) J (aA J (ab _))
   exact dh
  refine gP (t:=[(19,pV B1 0),(23,.agg #[I A7 n7 c7,I A8 n8 c8]),(33,iV x13),(0,pV B1 0)]) (L':=[br A7 n7 c7 p7,br A8 n8 c8 p8,cc A9 n9 c9 p9,dN kN rW M10 p10,aw B1 128 [I A7 n7 c7,I A8 n8 c8,I A9 n9 c9,.map (some M10),iV p11]]) ?_ gA (ab _);obtain ⟨y14,hy14,h⟩:=aa h;refine kR 15 J O (ak (nB hy14) yU J (hJ (ap (i:=0) J J) (hJ (ap (i:=1) J J) ai)) lA) J J J ?_;rintro _ _ ⟨_,⟨A15,n15,c15,A16,n16,c16,rfl,rfl⟩,rfl⟩;obtain ⟨y17,hy17,h⟩:=aa h;refine kR 16 J O (ak (pn hy17) Cc J (hJ (be (i:=0) J) (hJ (be (i:=1) J) ai)) ng) J J J ?_;rintro _ _ ⟨_,⟨A18,n18,c18,rfl,rfl⟩,rfl⟩;refine gP ?_ bH (cg 0 J);obtain ⟨y19,hy19,h⟩:=aa h;refine kR 17 J O (cw (lW hy19) wA J (bq [3,4,0] [7,5,6] [0,1,2,3,4] 8 J)) J J J ?_;rintro _ _ ⟨_,⟨A20,n20,c20,A21,n21,c21,A22,n22,c22,M23,rfl,rfl⟩,rfl⟩;refine gx O ?_;refine V ?_;obtain ⟨q24,h⟩:=am h;refine gE (aT J J q24.1 q24.2) ?_;refine V ?_;refine gO (au (us:=[iV (y19.done_+1)]) (cs':=[I A20 n20 c20,I A21 n21 c21,I A22 n22 c22,.map (some M23),iV (y19.done_+1)]) 0 J J J J dj J J J) ?_;rintro _ _ rfl;refine bX ?_;refine V ?_;exact ⟨m6,_,_,GD _,⟨y19.m_.Young,y19.m_.Old,y19.all_,y19.met_,y19.done_+1,A20,n20,c20,A21,n21,c21,A22,n22,c22,M23,h,J,J⟩,sA,cS [1,2,3,4,0] 10⟩
 replace h:=ah g12 h;refine V ?_;obtain rfl:=ao h;exact lN J (cS [4,0,1,2,3] 5) ⟨_,_,_,_,_,_,_,_,_,_,J,J⟩
def ky (N:Nat)(p9:(List Gw))(p10:(List Gw))(p11:(List Int))(p12:(List (Int×Unit)))(p13:Int):Option Gy:=
 (dK N (⟨(⟨p9,p10⟩:Gx),p11,p12,p13⟩:Gy)).bind fun y31=>some y31
def eu (N:Nat)(a1:(List Gu)):Nat→Int→(List Gw)→(List Gw)→(List Int)→(List (Int×Unit))→Int→Option Gy
 |0,_,_,_,_,_,_=>none
 |m14+1,p15,p16,p17,p18,p19,p20=>bif decide (p15<(a1.length:Int)) then ((aH a1 p15).bind fun x23=>(iZ N x23 (⟨(⟨p16,p17⟩:Gx),p18,p19,p20⟩:Gy)).bind fun y25=>bD (in64 (p15+1)) ((eu N a1 m14) (p15+1) y25.m_.Young y25.m_.Old y25.all_ y25.met_ y25.done_)) else (ky N p16 p17 p18 p19 p20)
def fH (N:Nat)(a0:Gx)(a1:(List Gu)):Option Gy:=
 eu N a1 N 0 a0.Young a0.Old [] ([]:(List (Int×Unit))) 0
theorem ta {N:Nat}{a0:Gx}{a1:(List Gu)}{r:Gy}(h:fH N a0 a1=some r):Okc Tryz.prog 103 [.agg #[I A1 n1 c1,I A2 n2 c2],I A3 n3 c3] ([br A1 n1 c1 a0.Young,br A2 n2 c2 a0.Old,aS A3 n3 c3 a1]) (fun u post=> ∃B0 A1 n1 c1 A2 n2 c2 A3 n3 c3 M4,u=pV B0 0∧post=[aw B0 128 [I A1 n1 c1,I A2 n2 c2,I A3 n3 c3,.map (some M4),iV r.done_],br A1 n1 c1 r.m_.Young,br A2 n2 c2 r.m_.Old,cc A3 n3 c3 r.all_,dN kN rW M4 r.met_]):=by
 refine bx Tryz.func103 J J ?_;simp only [aU];refine V ?_;refine gD (aX J J) ?_;rintro _ _ ⟨B4,rfl,rfl⟩;refine V ?_;refine gR (aC (us:=[I A1 n1 c1,I A2 n2 c2]) 0 J J cu J) ?_;refine gD (tz (ek:=kN) (ev:=rW)) ?_;rintro _ _ ⟨M5,rfl,rfl⟩;refine gE (bJ J (xW _ _ _ _ _ _ _)) ?_;refine gD (aX J J) ?_;rintro _ _ ⟨B6,rfl,rfl⟩;refine gD (aM CI J) ?_;rintro _ _ ⟨B7,rfl,rfl⟩;refine gO (au (us:=[pV B6 0]) (cs':=[pV B6 0]) 0 J J J J CS J J J) ?_;rintro _ _ rfl;refine V ?_;refine gE (fm J) ?_;refine V ?_;refine aP (fun s L=> ∃p9 p10 p11 p12 p13 A9 n9 c9 A10 n10 c10 A11 n11 c11 M12,ky N p9 p10 p11 p12 p13=some r∧s=[(4,.pointer none),(5,pV B7 0)]∧L=[aw B7 129 [pV B6 0],br A9 n9 c9 p9,br A10 n10 c10 p10,cc A11 n11 c11 p11,dN kN rW M12 p12,aw B6 128 [I A9 n9 c9,I A10 n10 c10,I A11 n11 c11,.map (some M12),iV p13]]) ?_ ?_
 ·refine V ?_;refine gR (aG 6 J ae J hO) ?_;refine V ?_;refine aZ (fun m s L=> ∃p15 p16 p17 p18 p19 p20 A16 n16 c16 A17 n17 c17 A18 n18 c18 M19,eu N a1 m p15 p16 p17 p18 p19 p20=some r∧s=[(4,.pointer none),(5,pV B7 0),(6,.func (.func 176) #[] #[pV B7 0]),(14,I A3 n3 c3),(15,iV (a1.length:Int)),(16,iV p15)]∧L=[aS A3 n3 c3 a1,aw B7 129 [pV B6 0],br A16 n16 c16 p16,br A17 n17 c17 p17,cc A18 n18 c18 p18,dN kN rW M19 p19,aw B6 128 [I A16 n16 c16,I A17 n17 c17,I A18 n18 c18,.map (some M19),iV p20]]) N _ _ ⟨0,a0.Young,a0.Old,[],([]:(List (Int×Unit))),0,A1,n1,c1,A2,n2,c2,none,0,0,M5,h,J,J⟩ sA ((bL (dn .i64) 3 _).trans (cS [7,1,5,6,0,3,2] 8)) ?_;rintro (_|m14) _ _ ⟨p15,p16,p17,p18,p19,p20,A16,n16,c16,A17,n17,c17,A18,n18,c18,M19,h,rfl,rfl⟩
  ·exact az h
  rw [eu.eq_2] at h;refine V ?_;refine ay ?_;refine aq J (fun g22=> ?_) (fun g22=> ?_)
  ·replace h:=ag g22 h;refine V ?_;refine ay ?_;refine V ?_;obtain ⟨x23,hx23,h⟩:=aa h;obtain ⟨lx23,ux23,hx23⟩:=aj hx23;refine gR (aB 0 J ae J J hO aI lx23 ux23) ?_;refine gR (aQ (us:=ar x23) 0 J ae J hx23 bn (fun _ _ _ h=>by rw [show _=_ from h];rfl)) ?_;refine gD (aM gr J) ?_;rintro _ _ ⟨B24,rfl,rfl⟩;refine gO (au (us:=ar x23) (cs':=ar x23) 0 J J J J aI J J J) ?_;rintro _ _ rfl;refine V ?_;refine gR (aC (us:=ar x23) 0 J J bn J) ?_;obtain ⟨y25,hy25,h⟩:=aa h;refine gD (jA (qd hy25) DF J J J (bq [3,4] [2,7,5,6] [0,1,3,4] 8 J)) ?_;rintro _ _ ⟨_,⟨A26,n26,c26,A27,n27,c27,A28,n28,c28,M29,rfl,rfl⟩,rfl⟩;refine bX ?_;refine V ?_;obtain ⟨q30,h⟩:=am h;refine gE (aT J J q30.1 q30.2) ?_;refine V ?_;exact ⟨m14,_,_,GD _,⟨p15+1,y25.m_.Young,y25.m_.Old,y25.all_,y25.met_,y25.done_,A26,n26,c26,A27,n27,c27,A28,n28,c28,M29,h,J,J⟩,sA,cS [7,5,1,2,3,4,0] 10⟩
  replace h:=ah g22 h;refine V ?_;exact ⟨_,_,⟨p16,p17,p18,p19,p20,A16,n16,c16,A17,n17,c17,A18,n18,c18,M19,h,J,J⟩,sA,cS [1,2,3,4,5,6] 7⟩
 rintro _ _ ⟨p9,p10,p11,p12,p13,A9,n9,c9,A10,n10,c10,A11,n11,c11,M12,h,rfl,rfl⟩;refine V ?_;obtain ⟨y31,hy31,h⟩:=aa h;refine gD (cw (ju hy31) zW J (bq [1,2] [5,3,4] [0,1,2] 6 J)) ?_;rintro _ _ ⟨_,⟨A32,n32,c32,A33,n33,c33,A34,n34,c34,M35,rfl,rfl⟩,rfl⟩;refine V ?_;obtain rfl:=ao h;exact aL J J (cS [0,1,2,3,4] 8) ⟨_,_,_,_,_,_,_,_,_,_,_,J,J⟩
def jD (N:Nat)(a0:Gu)(p10:Bool):Option Bool:=
 bif p10 then (some (decide (1≤a0.N))) else ((bif decide (a0.N=0) then (some (decide (0≤a0.Kind))) else (some false)).bind fun b14=>(bif b14 then (some (decide (a0.Kind≤9))) else (some false)).bind fun b15=>some b15)
def mL (N:Nat)(a0:Gu):Option Bool:=
 bif decide (a0.Kind=5) then ((bif decide (a0.N=0) then (some (decide ((a0.S.size:Int)≤65536))) else (some false)).bind fun b3=>some b3) else (bif !(a0.S.toList==(⟨#[]⟩:ByteArray).toList) then (some false) else (bif decide (a0.Kind=2) then ((bif decide (a0.N=0) then (some true) else (some (decide (a0.N=1)))).bind fun b6=>some b6) else (bif decide (a0.Kind=3) then ((bif decide ((-9007199254740992)≤a0.N) then (some (decide (a0.N≤9007199254740992))) else (some false)).bind fun b8=>some b8) else (bif decide (a0.Kind=6) then (jD N a0 (decide (a0.Kind=6))) else (bif decide (a0.Kind=7) then (jD N a0 (decide (a0.Kind=7))) else (jD N a0 (decide (a0.Kind=9))))))))
set_option maxHeartbeats 4000000 in
theorem xO {N:Nat}{a0:Gu}{r:Bool}(h:mL N a0=some r):Okc Tryz.prog 169 [(bd a0)] ([]) (fun u post=>u=.bool r∧post=[]):=by
 refine bx Tryz.func169 J J ?_;simp only [aU];refine V ?_;refine gD (aX J J) ?_;rintro _ _ ⟨B1,rfl,rfl⟩;refine V ?_;refine ay ?_;refine V ?_;refine aq J (fun g2=> ?_) (fun g2=> ?_)
 ·replace h:=ag g2 h;refine V ?_;obtain ⟨b3,hb3,h⟩:=aa h;refine aD 5 14 b3 ?_ ?_
  ·clear h;refine aE 9 J (fun g3=> ?_) (fun g3=> ?_)
   ·have h:=ag g3 hb3;refine V ?_;refine pU (zw J t9) J (aO g3 J) J ?_;refine V ?_;obtain rfl:=ao h;exact ad sA (cS [0] 1)
   have h:=ah g3 hb3;refine V ?_;obtain rfl:=ao h;exact ad sA (cS [0] 1)
  refine V ?_;obtain rfl:=ao h;exact aL J J (cS [] 1) ⟨J,J⟩
 replace h:=ah g2 h;refine V ?_;refine ay ?_;refine V ?_;refine gE (xE J J) ?_;refine V ?_;refine aq J (fun g4=> ?_) (fun g4=> ?_)
 ·replace h:=ag g4 h;refine V ?_;obtain rfl:=ao h;exact aL J J (cS [] 1) ⟨J,J⟩
 replace h:=ah g4 h;refine V ?_;refine ay ?_;refine V ?_;refine aq J (fun g5=> ?_) (fun g5=> ?_)
 ·replace h:=ag g5 h;refine V ?_;obtain ⟨b6,hb6,h⟩:=aa h;refine aD 4 29 b6 ?_ ?_
  ·clear h;refine aE 25 J (fun g6=> ?_) (fun g6=> ?_)
   ·have h:=ag g6 hb6;refine V ?_;obtain rfl:=ao h;exact ad sA (cS [0] 1)
   have h:=ah g6 hb6;refine V ?_;obtain rfl:=ao h;exact ad sA (cS [0] 1)
  refine V ?_;obtain rfl:=ao h;exact aL J J (cS [] 1) ⟨J,J⟩
 replace h:=ah g5 h;refine V ?_;refine aq J (fun g7=> ?_) (fun g7=> ?_)
 ·replace h:=ag g7 h;refine V ?_;obtain ⟨b8,hb8,h⟩:=aa h;refine aD 4 39 b8 ?_ ?_
  ·clear h;refine aE 35 J (fun g8=> ?_) (fun g8=> ?_)
   ·have h:=ag g8 hb8;refine V ?_;obtain rfl:=ao h;exact ad sA (cS [0] 1)
   have h:=ah g8 hb8;refine V ?_;obtain rfl:=ao h;exact ad sA (cS [0] 1)
  refine V ?_;obtain rfl:=ao h;exact aL J J (cS [] 1) ⟨J,J⟩
 replace h:=ah g7 h;refine aP (fun s L=> ∃p10,jD N a0 p10=some r∧s=[(1,pV B1 0),(2,.bool false),(40,.bool p10)]∧L=[aw B1 52 (ar a0)]) ?_ ?_
 ·refine V ?_;refine aq J (fun g11=> ?_) (fun g11=> ?_)
  ·replace h:=ag g11 h;refine V ?_;exact ⟨_,_,⟨decide (a0.Kind=6),h,J,J⟩,sA,cS [0] 1⟩
  replace h:=ah g11 h;refine V ?_;refine aq J (fun g12=> ?_) (fun g12=> ?_)
  ·replace h:=ag g12 h;refine V ?_;exact ⟨_,_,⟨decide (a0.Kind=7),h,J,J⟩,sA,cS [0] 1⟩
  replace h:=ah g12 h;refine V ?_;exact ⟨_,_,⟨decide (a0.Kind=9),h,J,J⟩,sA,cS [0] 1⟩
 rintro _ _ ⟨p10,h,rfl,rfl⟩;refine aq J (fun g13=> ?_) (fun g13=> ?_)
 ·replace h:=ag g13 h;refine V ?_;obtain rfl:=ao h;exact aL J J (cS [] 1) ⟨J,J⟩
 replace h:=ah g13 h;refine V ?_;obtain ⟨b14,hb14,h⟩:=aa h;refine aD 4 54 b14 ?_ ?_
 ·clear h;refine aE 50 J (fun g14=> ?_) (fun g14=> ?_)
  ·have h:=ag g14 hb14;refine V ?_;obtain rfl:=ao h;exact ad sA (cS [0] 1)
  have h:=ah g14 hb14;refine V ?_;obtain rfl:=ao h;exact ad sA (cS [0] 1)
 refine V ?_;obtain ⟨b15,hb15,h⟩:=aa h;refine aD 4 59 b15 ?_ ?_
 ·clear h;refine aE 55 J (fun g15=> ?_) (fun g15=> ?_)
  ·have h:=ag g15 hb15;refine V ?_;obtain rfl:=ao h;exact ad sA (cS [0] 1)
  have h:=ah g15 hb15;refine V ?_;obtain rfl:=ao h;exact ad sA (cS [0] 1)
 refine V ?_;obtain rfl:=ao h;exact aL J J (cS [] 1) ⟨J,J⟩
theorem uB {r:Bool}: ∀v post,((fun (u:Value) (post:List Chunk)=>u=.bool r∧post=[])) v post→ ∀c∈post,bR c:=by
 rintro _ _ ⟨rfl,rfl⟩;exact ai
def eH (N:Nat)(p2:Bool):Option Bool:=
 bif p2 then (some true) else (some false)
def mM (N:Nat)(a0:Int):Option Bool:=
 bif decide (a0=1) then (eH N (decide (a0=1))) else (bif decide (a0=2) then (eH N (decide (a0=2))) else (bif decide (a0=3) then (eH N (decide (a0=3))) else (bif decide (a0=6) then (eH N (decide (a0=6))) else (bif decide (a0=8) then (eH N (decide (a0=8))) else (bif decide (a0=9) then (eH N (decide (a0=9))) else (eH N (decide (a0=10))))))))
theorem xP {N:Nat}{a0:Int}{r:Bool}(h:mM N a0=some r):Okc Tryz.prog 224 [iV a0] ([]) (fun u post=>u=.bool r∧post=[]):=by
 refine bx Tryz.func224 J J ?_;simp only [aU];refine V ?_;refine ay ?_;refine V ?_;refine aP (fun s L=> ∃p2,eH N p2=some r∧s=[(2,.bool false),(4,.bool p2)]∧L=[]) ?_ ?_
 ·refine V ?_;refine aq J (fun g3=> ?_) (fun g3=> ?_)
  ·replace h:=ag g3 h;refine V ?_;exact ⟨_,_,⟨decide (a0=1),h,J,J⟩,sA,cS [] 0⟩
  replace h:=ah g3 h;refine V ?_;refine aq J (fun g4=> ?_) (fun g4=> ?_)
  ·replace h:=ag g4 h;refine V ?_;exact ⟨_,_,⟨decide (a0=2),h,J,J⟩,sA,cS [] 0⟩
  replace h:=ah g4 h;refine V ?_;refine aq J (fun g5=> ?_) (fun g5=> ?_)
  ·replace h:=ag g5 h;refine V ?_;exact ⟨_,_,⟨decide (a0=3),h,J,J⟩,sA,cS [] 0⟩
  replace h:=ah g5 h;refine V ?_;refine aq J (fun g6=> ?_) (fun g6=> ?_)
  ·replace h:=ag g6 h;refine V ?_;exact ⟨_,_,⟨decide (a0=6),h,J,J⟩,sA,cS [] 0⟩
  replace h:=ah g6 h;refine V ?_;refine aq J (fun g7=> ?_) (fun g7=> ?_)
  ·replace h:=ag g7 h;refine V ?_;exact ⟨_,_,⟨decide (a0=8),h,J,J⟩,sA,cS [] 0⟩
  replace h:=ah g7 h;refine V ?_;refine aq J (fun g8=> ?_) (fun g8=> ?_)
  ·replace h:=ag g8 h;refine V ?_;exact ⟨_,_,⟨decide (a0=9),h,J,J⟩,sA,cS [] 0⟩
  replace h:=ah g8 h;refine V ?_;exact ⟨_,_,⟨decide (a0=10),h,J,J⟩,sA,cS [] 0⟩
 rintro _ _ ⟨p2,h,rfl,rfl⟩;refine aq J (fun g9=> ?_) (fun g9=> ?_)
 ·replace h:=ag g9 h;refine V ?_;obtain rfl:=ao h;exact aL J J (cS [] 0) ⟨J,J⟩
 replace h:=ah g9 h;refine V ?_;obtain rfl:=ao h;exact aL J J (cS [] 0) ⟨J,J⟩
theorem uD {r:Bool}: ∀v post,((fun (u:Value) (post:List Chunk)=>u=.bool r∧post=[])) v post→ ∀c∈post,bR c:=by
 rintro _ _ ⟨rfl,rfl⟩;exact ai
def dX (N:Nat)(a0:Gu)(a1:Int):Option Bool:=
 (bif decide (a0.Kind=0) then (some true) else (some (decide (a0.Kind=a1)))).bind fun b2=>some b2
theorem fb {N:Nat}{a0:Gu}{a1:Int}{r:Bool}(h:dX N a0 a1=some r):Okc Tryz.prog 225 [(bd a0),iV a1] ([]) (fun u post=>u=.bool r∧post=[]):=by
 refine bx Tryz.func225 J J ?_;simp only [aU];refine V ?_;refine gD (aX J J) ?_;rintro _ _ ⟨B1,rfl,rfl⟩;refine V ?_;obtain ⟨b2,hb2,h⟩:=aa h;refine aD 5 13 b2 ?_ ?_
 ·clear h;refine aE 8 J (fun g2=> ?_) (fun g2=> ?_)
  ·have h:=ag g2 hb2;refine V ?_;obtain rfl:=ao h;exact ad sA (cS [0] 1)
  have h:=ah g2 hb2;refine V ?_;obtain rfl:=ao h;exact ad sA (cS [0] 1)
 refine V ?_;obtain rfl:=ao h;exact aL J J (cS [] 1) ⟨J,J⟩
theorem ea {r:Bool}: ∀v post,((fun (u:Value) (post:List Chunk)=>u=.bool r∧post=[])) v post→ ∀c∈post,bR c:=by
 rintro _ _ ⟨rfl,rfl⟩;exact ai
def eG (N:Nat)(a0:Gw):Option Bool:=
 (mM N a0.Kind).bind fun y4=>(bif y4 then (some true) else ((bif decide (a0.Kind=7) then (some (decide (0<(a0.Slots.length:Int)))) else (some false)).bind fun b6=>some b6)).bind fun b5=>bif b5 then ((bif decide (1≤(a0.Slots.length:Int)) then (some (decide ((a0.Slots.length:Int)≤1025))) else (some false)).bind fun b8=>(bif b8 then ((aH a0.Slots 0).bind fun x10=>(bif decide (x10.Kind=1) then (some true) else ((aH a0.Slots 0).bind fun x12=>some (decide (x12.Kind=7)))).bind fun b11=>some b11) else (some false)).bind fun b9=>some b9) else (bif decide (a0.Kind=7) then (some (decide (a0.Shape=0))) else ((bif !decide (a0.Shape=0) then (some true) else (some (!decide (a0.Flags=0)))).bind fun b14=>bif b14 then (some false) else (bif decide (a0.Kind=5) then ((bif decide ((a0.Slots.length:Int)=2) then ((aH a0.Slots 0).bind fun x18=>(dX N x18 7).bind fun y19=>some y19) else (some false)).bind fun b17=>(bif b17 then ((aH a0.Slots 1).bind fun x21=>(dX N x21 7).bind fun y22=>some y22) else (some false)).bind fun b20=>some b20) else (some (decide ((a0.Slots.length:Int)=0))))))
set_option maxHeartbeats 4000000 in
theorem pM {N:Nat}{a0:Gw}{r:Bool}(h:eG N a0=some r):Okc Tryz.prog 170 [.agg #[iV a0.Kind,iV a0.Shape,iV a0.Flags,iV a0.Age,I A1 n1 c1,I A2 n2 c2]] ([aS A1 n1 c1 a0.Slots,aS A2 n2 c2 a0.More]) (fun u post=>u=.bool r∧post=[]):=by
 refine bx Tryz.func170 J J ?_;simp only [aU];refine V ?_;refine gD (aX J J) ?_;rintro _ _ ⟨B3,rfl,rfl⟩;refine V ?_;refine ay ?_;refine V ?_;obtain ⟨y4,hy4,h⟩:=aa h;refine gD (ak (xP hy4) Do J (ai) uD) ?_;rintro _ _ ⟨_,⟨rfl,rfl⟩,rfl⟩;refine V ?_;obtain ⟨b5,hb5,h⟩:=aa h;refine aD 10 16 b5 ?_ ?_
 ·clear h;refine aE 6 J (fun g5=> ?_) (fun g5=> ?_)
  ·have h:=ag g5 hb5;refine V ?_;obtain rfl:=ao h;exact ad sA (cS [0,1,2] 3)
  have h:=ah g5 hb5;refine V ?_;obtain ⟨b6,hb6,h⟩:=aa h;refine aD 5 15 b6 ?_ ?_
  ·clear h;refine aE 10 J (fun g6=> ?_) (fun g6=> ?_)
   ·have h:=ag g6 hb6;refine V ?_;refine bA (aG 1 J ae J hO) J (aO g6 J) J ?_;refine V ?_;obtain rfl:=ao h;exact ad sA (cS [0,1,2] 3)
   have h:=ah g6 hb6;refine V ?_;obtain rfl:=ao h;exact ad sA (cS [0,1,2] 3)
  refine V ?_;obtain rfl:=ao h;exact ad sA (cS [0,1,2] 3)
 refine V ?_;refine aq J (fun g7=> ?_) (fun g7=> ?_)
 ·replace h:=ag g7 h;refine V ?_;refine gR (aG 1 J ae J hO) ?_;refine V ?_;obtain ⟨b8,hb8,h⟩:=aa h;refine aD 5 26 b8 ?_ ?_
  ·clear h;refine aE 21 J (fun g8=> ?_) (fun g8=> ?_)
   ·have h:=ag g8 hb8;refine V ?_;refine bA (aG 1 J ae J hO) J (aO g8 J) J ?_;refine V ?_;obtain rfl:=ao h;exact ad sA (cS [0,1,2] 3)
   have h:=ah g8 hb8;refine V ?_;obtain rfl:=ao h;exact ad sA (cS [0,1,2] 3)
  refine V ?_;obtain ⟨b9,hb9,h⟩:=aa h;refine aD 15 42 b9 ?_ ?_
  ·clear h;refine aE 27 J (fun g9=> ?_) (fun g9=> ?_)
   ·have h:=ag g9 hb9;refine V ?_;obtain ⟨x10,hx10,h⟩:=aa h;obtain ⟨lx10,ux10,hx10⟩:=aj hx10;refine bA (aB 1 J ae J J hO aI lx10 ux10) J (aO g9 J) J ?_;refine bA (jI 1 J ae J (bB lx10 ux10) eQ) J (aO g9 J) J ?_;refine bA (aW (u:=iV x10.Kind) 1 J ae J hx10 cM (fun _ _ _ h=>by rw [show _=_ from h];rfl)) J (aO g9 J) J ?_;refine V ?_;obtain ⟨b11,hb11,h⟩:=aa h;refine aD 7 41 b11 ?_ ?_
    ·clear h;refine aE 34 J (fun g11=> ?_) (fun g11=> ?_)
     ·have h:=ag g11 hb11;refine V ?_;obtain rfl:=ao h;exact ad sA (cS [0,1,2] 3)
     have h:=ah g11 hb11;refine V ?_;obtain ⟨x12,hx12,h⟩:=aa h;obtain ⟨lx12,ux12,hx12⟩:=aj hx12;refine bA (aB 1 J ae J J hO aI lx12 ux12) J (fW g11 J) J ?_;refine bA (jI 1 J ae J (bB lx12 ux12) eQ) J (fW g11 J) J ?_;refine bA (aW (u:=iV x12.Kind) 1 J ae J hx12 cM (fun _ _ _ h=>by rw [show _=_ from h];rfl)) J (fW g11 J) J ?_;refine V ?_;obtain rfl:=ao h;exact ad sA (cS [0,1,2] 3)
    refine V ?_;obtain rfl:=ao h;exact ad sA (cS [0,1,2] 3)
   have h:=ah g9 hb9;refine V ?_;obtain rfl:=ao h;exact ad sA (cS [0,1,2] 3)
  refine V ?_;obtain rfl:=ao h;exact aL J J (cS [] 3) ⟨J,J⟩
 replace h:=ah g7 h;refine V ?_;refine ay ?_;refine V ?_;refine aq J (fun g13=> ?_) (fun g13=> ?_)
 ·replace h:=ag g13 h;refine V ?_;obtain rfl:=ao h;exact aL J J (cS [] 3) ⟨J,J⟩
 replace h:=ah g13 h;refine V ?_;refine ay ?_;refine V ?_;obtain ⟨b14,hb14,h⟩:=aa h;refine aD 4 56 b14 ?_ ?_
 ·clear h;refine aE 52 J (fun g14=> ?_) (fun g14=> ?_)
  ·have h:=ag g14 hb14;refine V ?_;obtain rfl:=ao h;exact ad sA (cS [0,1,2] 3)
  have h:=ah g14 hb14;refine V ?_;obtain rfl:=ao h;exact ad sA (cS [0,1,2] 3)
 refine V ?_;refine aq J (fun g15=> ?_) (fun g15=> ?_)
 ·replace h:=ag g15 h;refine V ?_;obtain rfl:=ao h;exact aL J J (cS [] 3) ⟨J,J⟩
 replace h:=ah g15 h;refine V ?_;refine ay ?_;refine V ?_;refine aq J (fun g16=> ?_) (fun g16=> ?_)
 ·replace h:=ag g16 h;refine V ?_;refine gR (aG 1 J ae J hO) ?_;refine V ?_;obtain ⟨b17,hb17,h⟩:=aa h;refine aD 6 70 b17 ?_ ?_
  ·clear h;refine aE 64 J (fun g17=> ?_) (fun g17=> ?_)
   ·have h:=ag g17 hb17;refine V ?_;obtain ⟨x18,hx18,h⟩:=aa h;obtain ⟨lx18,ux18,hx18⟩:=aj hx18;refine bA (aB 1 J ae J J hO aI lx18 ux18) J (aO g17 J) J ?_;refine bA (aQ (us:=ar x18) 1 J ae J hx18 bn (fun _ _ _ h=>by rw [show _=_ from h];rfl)) J (aO g17 J) J ?_;obtain ⟨y19,hy19,h⟩:=aa h;refine ca (ak (fb hy19) oK J (ai) ea) J (aO g17 J) J ?_;rintro _ _ ⟨_,⟨rfl,rfl⟩,rfl⟩;refine V ?_;obtain rfl:=ao h;exact ad sA (cS [0,1,2] 3)
   have h:=ah g17 hb17;refine V ?_;obtain rfl:=ao h;exact ad sA (cS [0,1,2] 3)
  refine V ?_;obtain ⟨b20,hb20,h⟩:=aa h;refine aD 6 77 b20 ?_ ?_
  ·clear h;refine aE 71 J (fun g20=> ?_) (fun g20=> ?_)
   ·have h:=ag g20 hb20;refine V ?_;obtain ⟨x21,hx21,h⟩:=aa h;obtain ⟨lx21,ux21,hx21⟩:=aj hx21;refine bA (aB 1 J ae J J hO aI lx21 ux21) J (aO g20 J) J ?_;refine bA (aQ (us:=ar x21) 1 J ae J hx21 bn (fun _ _ _ h=>by rw [show _=_ from h];rfl)) J (aO g20 J) J ?_;obtain ⟨y22,hy22,h⟩:=aa h;refine ca (ak (fb hy22) oK J (ai) ea) J (aO g20 J) J ?_;rintro _ _ ⟨_,⟨rfl,rfl⟩,rfl⟩;refine V ?_;obtain rfl:=ao h;exact ad sA (cS [0,1,2] 3)
   have h:=ah g20 hb20;refine V ?_;obtain rfl:=ao h;exact ad sA (cS [0,1,2] 3)
  refine V ?_;obtain rfl:=ao h;exact aL J J (cS [] 3) ⟨J,J⟩
 replace h:=ah g16 h;refine V ?_;refine gR (aG 1 J ae J hO) ?_;refine V ?_;obtain rfl:=ao h;exact aL J J (cS [] 3) ⟨J,J⟩
theorem nX {r:Bool}: ∀v post,((fun (u:Value) (post:List Chunk)=>u=.bool r∧post=[])) v post→ ∀c∈post,bR c:=by
 rintro _ _ ⟨rfl,rfl⟩;exact ai
def dY (N:Nat)(a0:Gu)(a1:Int)(a2:Int):Option Bool:=
 (bif decide (a0.Kind=3) then (some (decide (a1≤a0.N))) else (some false)).bind fun b2=>(bif b2 then (some (decide (a0.N≤a2))) else (some false)).bind fun b3=>some b3
theorem fc {N:Nat}{a0:Gu}{a1:Int}{a2:Int}{r:Bool}(h:dY N a0 a1 a2=some r):Okc Tryz.prog 226 [(bd a0),iV a1,iV a2] ([]) (fun u post=>u=.bool r∧post=[]):=by
 refine bx Tryz.func226 J J ?_;simp only [aU];refine V ?_;refine gD (aX J J) ?_;rintro _ _ ⟨B1,rfl,rfl⟩;refine V ?_;obtain ⟨b2,hb2,h⟩:=aa h;refine aD 5 15 b2 ?_ ?_
 ·clear h;refine aE 10 J (fun g2=> ?_) (fun g2=> ?_)
  ·have h:=ag g2 hb2;refine V ?_;obtain rfl:=ao h;exact ad sA (cS [0] 1)
  have h:=ah g2 hb2;refine V ?_;obtain rfl:=ao h;exact ad sA (cS [0] 1)
 refine V ?_;obtain ⟨b3,hb3,h⟩:=aa h;refine aD 5 21 b3 ?_ ?_
 ·clear h;refine aE 16 J (fun g3=> ?_) (fun g3=> ?_)
  ·have h:=ag g3 hb3;refine V ?_;obtain rfl:=ao h;exact ad sA (cS [0] 1)
  have h:=ah g3 hb3;refine V ?_;obtain rfl:=ao h;exact ad sA (cS [0] 1)
 refine V ?_;obtain rfl:=ao h;exact aL J J (cS [] 1) ⟨J,J⟩
theorem eb {r:Bool}: ∀v post,((fun (u:Value) (post:List Chunk)=>u=.bool r∧post=[])) v post→ ∀c∈post,bR c:=by
 rintro _ _ ⟨rfl,rfl⟩;exact ai
def er (N:Nat){σ:Type}(fy:(List Gu)→σ→Option (Bool×σ))(a1:(List Gu))(a2:Int):Nat→Int→σ→Option σ
 |0,_,_=>none
 |m4+1,p5,p6=>bif decide (p5<(a1.length:Int)) then (bD ((0:Int)≤p5∧p5.toNat≤a1.length∧a1.length≤a1.length) (bD (in64 (p5+(min a2 (((a1.drop p5.toNat).take (a1.length - p5.toNat)).length:Int)))) (bD (in64 (p5+(min a2 (((a1.drop p5.toNat).take (a1.length - p5.toNat)).length:Int)))) (bD ((0:Int)≤p5∧(0:Int)≤p5+(min a2 (((a1.drop p5.toNat).take (a1.length - p5.toNat)).length:Int))∧p5.toNat≤(p5+(min a2 (((a1.drop p5.toNat).take (a1.length - p5.toNat)).length:Int))).toNat∧(p5+(min a2 (((a1.drop p5.toNat).take (a1.length - p5.toNat)).length:Int))).toNat≤a1.length) ((fy ((a1.drop p5.toNat).take ((p5+(min a2 (((a1.drop p5.toNat).take (a1.length - p5.toNat)).length:Int))).toNat - p5.toNat)) p6).bind fun y14=>bif !y14.1 then (some y14.2) else (bD (in64 (p5+a2)) ((er N fy a1 a2 m4) (p5+a2) y14.2))))))) else (some p6)
def kq (N:Nat){σ:Type}(a1:(List Gu))(a2:Int)(fy:(List Gu)→σ→Option (Bool×σ))(s0:σ):Option σ:=
 er N fy a1 a2 N 0 s0
theorem se {N:Nat}{σ:Type}{a1:(List Gu)}{a2:Int}{fy:(List Gu)→σ→Option (Bool×σ)}{s0:σ}{r:σ}(h:kq N a1 a2 fy s0=some r){l:Nat}{G:σ→List Chunk}(hY:mh Tryz.prog l G (fun (x:(List Gu)) vs cs=> ∃A0 n0 c0,vs=[I A0 n0 c0]∧cs=[aS A0 n0 c0 x]) fy):Okc Tryz.prog 265 [.func (.yield l) #[] #[],pV B1 0,pV B3 0] (cR B1 38 [I A2 n2 c2]::aS A2 n2 c2 a1::cR B3 3 [iV a2]::(G s0)) (fun u post=>u=.tuple #[]∧post=G r):=by
 refine bx Tryz.func265 J J ?_;simp only [aU];refine V ?_;refine aZ (fun m s L=> ∃p5 p6,er N fy a1 a2 m p5 p6=some r∧s=[(0,.func (.yield l) #[] #[]),(1,pV B1 0),(2,pV B3 0),(4,iV p5)]∧L=aS A2 n2 c2 a1::cR B1 38 [I A2 n2 c2]::cR B3 3 [iV a2]::(G p6)) N _ _ ⟨0,s0,h,J,J⟩ sA (cS [1,0,2] 3) ?_;rintro (_|m4) _ _ ⟨p5,p6,h,rfl,rfl⟩
 ·exact az h
 rw [er.eq_2] at h;refine ay ?_;refine V ?_;refine gR (dL 1 J J cz J) ?_;refine gR (aG 0 J ae J hO) ?_;refine V ?_;refine aq J (fun g7=> ?_) (fun g7=> ?_)
 ·replace h:=ag g7 h;refine V ?_;refine ay ?_;refine cQ ?_;refine ay ?_;refine cy O _ (ab _) ?_;refine zR 0 J (dL 2 J J cM J) ?_;refine zR 1 J (dL 1 J J cz J) ?_;refine zE 2 J (ax J) ?_;obtain ⟨q8,h⟩:=am h;refine ET 0 J (l:=p5.toNat) (h:=a1.length) q8.2.1 q8.2.2 ?_;rintro A9 n9 c9 e9;refine zR 3 J (vO 1 J e9 J hO aI J (by rw [Int.toNat_of_nonneg q8.1];rfl) q8.2.1) ?_;refine zR 4 J (aG 0 J ae J hO) ?_;refine zE 5 J (EB J J t5 t5) ?_;refine zE 6 J (bz J) ?_;refine cx O ?_;refine V ?_;refine gR (dL 2 J J cz J) ?_;refine V ?_;obtain ⟨q10,h⟩:=am h;refine gE (aT J J q10.1 q10.2) ?_;refine V ?_;obtain ⟨q11,h⟩:=am h;refine gE (aT J J q11.1 q11.2) ?_;obtain ⟨q12,h⟩:=am h;refine CD 1 J (l:=p5.toNat) (h:=(p5+(min a2 (((a1.drop p5.toNat).take (a1.length - p5.toNat)).length:Int))).toNat) q12.2.2.1 q12.2.2.2 ?_;rintro A13 n13 c13 e13;refine gR (zi 2 J e13 J hO aI J (by rw [Int.toNat_of_nonneg q12.1];rfl) (by rw [Int.toNat_of_nonneg q12.2.1];rfl) (by rw [Int.toNat_of_nonneg q12.2.1];rfl) q12.2.2.1 q12.2.2.2) ?_;obtain ⟨y14,hy14,h⟩:=aa h
  refine gD (uZ (a:=(a1.drop p5.toNat).take ((p5+(min a2 (((a1.drop p5.toNat).take (a1.length - p5.toNat)).length:Int))).toNat - p5.toNat)) [aS A13 n13 c13 ((a1.drop p5.toNat).take ((p5+(min a2 (((a1.drop p5.toNat).take (a1.length - p5.toNat)).length:Int))).toNat - p5.toNat)),aS A9 n9 c9 ((a1.drop p5.toNat).take (a1.length - p5.toNat)),aS A2 n2 c2 a1,cR B1 38 [I A2 n2 c2],cR B3 3 [iV a2]] hY hy14 J J ⟨_,_,_,J,J⟩ (ej 0 J J)) ?_;rintro _ _ ⟨rfl,rfl⟩;refine V ?_;refine aq J (fun g15=> ?_) (fun g15=> ?_)
  ·replace h:=ag g15 h;refine V ?_;obtain rfl:=ao h;exact vo J (cS [] 5) ⟨J,J⟩
  replace h:=ah g15 h;refine V ?_;refine gR (dL 4 J J cM J) ?_;obtain ⟨q16,h⟩:=am h;refine gE (aT J J q16.1 q16.2) ?_;refine V ?_;exact ⟨m4,_,_,GD _,⟨p5+a2,y14.2,h,J,J⟩,sA,cS [2,3,4] 5⟩
 replace h:=ah g7 h;refine V ?_;obtain rfl:=ao h;exact lN J (cS [] 3) ⟨J,J⟩
def fo (N:Nat)(a0:(List Gu))(a1:Int):Option Unit:=
 bif decide (a1<1) then none else (some ())
theorem oS {N:Nat}{a0:(List Gu)}{a1:Int}{r:Unit}(h:fo N a0 a1=some r):Okc Tryz.prog 255 [I A1 n1 c1,iV a1] ([aS A1 n1 c1 a0]) (fun u post=> ∃B900 B901,u=.func (.func 265) #[] #[pV B900 0,pV B901 0]∧post=[aw B900 38 [I A1 n1 c1],aw B901 3 [iV a1]]):=by
 refine bx Tryz.func255 J J ?_;simp only [aU];refine V ?_;refine gD (aX J J) ?_;rintro _ _ ⟨B2,rfl,rfl⟩;refine gD (aX J J) ?_;rintro _ _ ⟨B3,rfl,rfl⟩;refine V ?_;refine ay ?_;refine V ?_;refine aq J (fun g4=> ?_) (fun g4=> ?_)
 ·replace h:=ag g4 h;exact az h
 replace h:=ah g4 h;refine V ?_;refine gE (fm J) ?_;refine V ?_;obtain rfl:=ao h;exact aL J J (cS [1,0] 3) ⟨_,_,J,J⟩
theorem nk {a1:Int}{A1:Option Addr}{n1:Nat}{c1:Nat}: ∀v post,((fun (u:Value) (post:List Chunk)=> ∃B900 B901,u=.func (.func 265) #[] #[pV B900 0,pV B901 0]∧post=[aw B900 38 [I A1 n1 c1],aw B901 3 [iV a1]])) v post→ ∀c∈post,bR c:=by
 rintro _ _ ⟨_,_,rfl,rfl⟩;exact hJ mf (hJ mf (ai))
end Go.Proofs.YtmimkglhbmcokaaGreat
namespace Go.Proofs.YtmimkglhbmcokaaGreat
variable {A1 A2 A3 A4 A5 A6:Option Addr} {B1 B2 B3 M5 M6 c1 c2 c3 c4 c5 c6 n1 n2 n3 n4 n5 n6:Nat}
open Go.RowKit Go.ChangeShapes Go.WideShapes Go.Deep
def kh (x:Gu):Prop:=(in64 x.Kind)∧(in64 x.N)∧(True)
set_option maxRecDepth 100000 in
theorem nD:AW Tryz.prog 52 aF kh:=fun {_ enc w base spare held _ cs y} h hw=>by
 obtain ⟨xs,m, -,hy,hl,hx,hf⟩:=DataW.trod_struct z9 h
 have hc:Tryz.prog.cellsOf 52=3:=by kernel_rfl
 rw [hc] at hl
 match cs,hl,hf with
 | [c0,c1,c2],_,hf=>
  have k0:DataW.trod enc Tryz.prog w base spare held m 3 (List.take (Tryz.prog.cellsOf 3) (List.drop 0 [c0,c1,c2]))=xs[0]? :=hf 0 _ rfl
  have z0:Tryz.prog.cellsOf 3=1:=by kernel_rfl
  simp only [z0,List.drop_succ_cons,List.drop_zero,List.take_succ_cons,List.take_zero] at k0
  have l0:0<xs.length:=by rw [hx];decide
  obtain ⟨a0,r0,w0⟩:=(Rdr.w (ov t5)) (k0.trans (List.getElem?_eq_getElem l0)) (eS z9 hy hw (i:=0) rfl (List.getElem?_eq_getElem l0));have k1:DataW.trod enc Tryz.prog w base spare held m 3 (List.take (Tryz.prog.cellsOf 3) (List.drop 1 [c0,c1,c2]))=xs[1]? :=hf 1 _ rfl
  have z1:Tryz.prog.cellsOf 3=1:=by kernel_rfl
  simp only [z1,List.drop_succ_cons,List.drop_zero,List.take_succ_cons,List.take_zero] at k1
  have l1:1<xs.length:=by rw [hx];decide
  obtain ⟨a1,r1,w1⟩:=(Rdr.w (ov t5)) (k1.trans (List.getElem?_eq_getElem l1)) (eS z9 hy hw (i:=1) rfl (List.getElem?_eq_getElem l1));have k2:DataW.trod enc Tryz.prog w base spare held m 9 (List.take (Tryz.prog.cellsOf 9) (List.drop 2 [c0,c1,c2]))=xs[2]? :=hf 2 _ rfl
  have z2:Tryz.prog.cellsOf 9=1:=by kernel_rfl
  simp only [z2,List.drop_succ_cons,List.drop_zero,List.take_succ_cons,List.take_zero] at k2
  have l2:2<xs.length:=by rw [hx];decide
  obtain ⟨a2,r2,w2⟩:=(Rdr.w (CU t9)) (k2.trans (List.getElem?_eq_getElem l2)) (eS z9 hy hw (i:=2) rfl (List.getElem?_eq_getElem l2));obtain ⟨rfl, -⟩:=List.cons.inj (show [c0]=[_] from r0);obtain ⟨rfl, -⟩:=List.cons.inj (show [c1]=[_] from r1);obtain ⟨rfl, -⟩:=List.cons.inj (show [c2]=[_] from r2);exact ⟨⟨a0,a1,a2⟩,J,⟨w0,w1,w2⟩⟩
def pX (x:Gw):Prop:=(in64 x.Kind)∧(in64 x.Shape)∧(in64 x.Flags)∧(in64 x.Age)∧(Ef (fun z38=>kh z38) x.Slots)∧(Ef (fun z38=>kh z38) x.More)
set_option maxRecDepth 100000 in
theorem te:AW Tryz.prog 47 bV pX:=fun {_ enc w base spare held _ cs y} h hw=>by
 obtain ⟨xs,m, -,hy,hl,hx,hf⟩:=DataW.trod_struct Ex h
 have hc:Tryz.prog.cellsOf 47=6:=by kernel_rfl
 rw [hc] at hl
 match cs,hl,hf with
 | [c0,c1,c2,c3,c4,c5],_,hf=>
  have k0:DataW.trod enc Tryz.prog w base spare held m 3 (List.take (Tryz.prog.cellsOf 3) (List.drop 0 [c0,c1,c2,c3,c4,c5]))=xs[0]? :=hf 0 _ rfl
  have z0:Tryz.prog.cellsOf 3=1:=by kernel_rfl
  simp only [z0,List.drop_succ_cons,List.drop_zero,List.take_succ_cons,List.take_zero] at k0
  have l0:0<xs.length:=by rw [hx];decide
  obtain ⟨a0,r0,w0⟩:=(Rdr.w (ov t5)) (k0.trans (List.getElem?_eq_getElem l0)) (eS Ex hy hw (i:=0) rfl (List.getElem?_eq_getElem l0));have k1:DataW.trod enc Tryz.prog w base spare held m 3 (List.take (Tryz.prog.cellsOf 3) (List.drop 1 [c0,c1,c2,c3,c4,c5]))=xs[1]? :=hf 1 _ rfl
  have z1:Tryz.prog.cellsOf 3=1:=by kernel_rfl
  simp only [z1,List.drop_succ_cons,List.drop_zero,List.take_succ_cons,List.take_zero] at k1
  have l1:1<xs.length:=by rw [hx];decide
  obtain ⟨a1,r1,w1⟩:=(Rdr.w (ov t5)) (k1.trans (List.getElem?_eq_getElem l1)) (eS Ex hy hw (i:=1) rfl (List.getElem?_eq_getElem l1));have k2:DataW.trod enc Tryz.prog w base spare held m 3 (List.take (Tryz.prog.cellsOf 3) (List.drop 2 [c0,c1,c2,c3,c4,c5]))=xs[2]? :=hf 2 _ rfl
  have z2:Tryz.prog.cellsOf 3=1:=by kernel_rfl
  simp only [z2,List.drop_succ_cons,List.drop_zero,List.take_succ_cons,List.take_zero] at k2
  have l2:2<xs.length:=by rw [hx];decide
  obtain ⟨a2,r2,w2⟩:=(Rdr.w (ov t5)) (k2.trans (List.getElem?_eq_getElem l2)) (eS Ex hy hw (i:=2) rfl (List.getElem?_eq_getElem l2));have k3:DataW.trod enc Tryz.prog w base spare held m 3 (List.take (Tryz.prog.cellsOf 3) (List.drop 3 [c0,c1,c2,c3,c4,c5]))=xs[3]? :=hf 3 _ rfl
  have z3:Tryz.prog.cellsOf 3=1:=by kernel_rfl
  simp only [z3,List.drop_succ_cons,List.drop_zero,List.take_succ_cons,List.take_zero] at k3
  have l3:3<xs.length:=by rw [hx];decide
  obtain ⟨a3,r3,w3⟩:=(Rdr.w (ov t5)) (k3.trans (List.getElem?_eq_getElem l3)) (eS Ex hy hw (i:=3) rfl (List.getElem?_eq_getElem l3));have k4:DataW.trod enc Tryz.prog w base spare held m 38 (List.take (Tryz.prog.cellsOf 38) (List.drop 4 [c0,c1,c2,c3,c4,c5]))=xs[4]? :=hf 4 _ rfl
  have z4:Tryz.prog.cellsOf 38=1:=by kernel_rfl
  simp only [z4,List.drop_succ_cons,List.drop_zero,List.take_succ_cons,List.take_zero] at k4
  have l4:4<xs.length:=by rw [hx];decide
  obtain ⟨a4,r4,w4⟩:=(qf hO O (by decide) (of_decide_eq_true O) nD) (k4.trans (List.getElem?_eq_getElem l4)) (eS Ex hy hw (i:=4) rfl (List.getElem?_eq_getElem l4));have k5:DataW.trod enc Tryz.prog w base spare held m 38 (List.take (Tryz.prog.cellsOf 38) (List.drop 5 [c0,c1,c2,c3,c4,c5]))=xs[5]? :=hf 5 _ rfl
  have z5:Tryz.prog.cellsOf 38=1:=by kernel_rfl
  simp only [z5,List.drop_succ_cons,List.drop_zero,List.take_succ_cons,List.take_zero] at k5
  have l5:5<xs.length:=by rw [hx];decide
  obtain ⟨a5,r5,w5⟩:=(qf hO O (by decide) (of_decide_eq_true O) nD) (k5.trans (List.getElem?_eq_getElem l5)) (eS Ex hy hw (i:=5) rfl (List.getElem?_eq_getElem l5));obtain ⟨rfl, -⟩:=List.cons.inj (show [c0]=[_] from r0);obtain ⟨rfl, -⟩:=List.cons.inj (show [c1]=[_] from r1);obtain ⟨rfl, -⟩:=List.cons.inj (show [c2]=[_] from r2);obtain ⟨rfl, -⟩:=List.cons.inj (show [c3]=[_] from r3);obtain ⟨v4,e4,b4⟩:=r4;obtain ⟨rfl, -⟩:=List.cons.inj e4;obtain ⟨A4,q4,rfl,d4⟩:=b4;have b4:SlR aF _ _ (.slice A4 a4.length q4) a4:=⟨_,_,rfl,d4⟩;obtain ⟨v5,e5,b5⟩:=r5;obtain ⟨rfl, -⟩:=List.cons.inj e5;obtain ⟨A5,q5,rfl,d5⟩:=b5;have b5:SlR aF _ _ (.slice A5 a5.length q5) a5:=⟨_,_,rfl,d5⟩;exact ⟨⟨a0,a1,a2,a3,a4,a5⟩,⟨_,_,_,_,_,_,J,b4,b5⟩,⟨w0,w1,w2,w3,w4,w5⟩⟩
def mm (x:Gx):Prop:=(Ef (fun z34=>pX z34) x.Young)∧(Ef (fun z34=>pX z34) x.Old)
set_option maxRecDepth 100000 in
theorem vM:AW Tryz.prog 36 Bt mm:=fun {_ enc w base spare held _ cs y} h hw=>by
 obtain ⟨xs,m, -,hy,hl,hx,hf⟩:=DataW.trod_struct EM h
 have hc:Tryz.prog.cellsOf 36=2:=by kernel_rfl
 rw [hc] at hl
 match cs,hl,hf with
 | [c0,c1],_,hf=>
  have k0:DataW.trod enc Tryz.prog w base spare held m 34 (List.take (Tryz.prog.cellsOf 34) (List.drop 0 [c0,c1]))=xs[0]? :=hf 0 _ rfl
  have z0:Tryz.prog.cellsOf 34=1:=by kernel_rfl
  simp only [z0,List.drop_succ_cons,List.drop_zero,List.take_succ_cons,List.take_zero] at k0
  have l0:0<xs.length:=by rw [hx];decide
  obtain ⟨a0,r0,w0⟩:=(qf hP O (by decide) (of_decide_eq_true O) te) (k0.trans (List.getElem?_eq_getElem l0)) (eS EM hy hw (i:=0) rfl (List.getElem?_eq_getElem l0));have k1:DataW.trod enc Tryz.prog w base spare held m 34 (List.take (Tryz.prog.cellsOf 34) (List.drop 1 [c0,c1]))=xs[1]? :=hf 1 _ rfl
  have z1:Tryz.prog.cellsOf 34=1:=by kernel_rfl
  simp only [z1,List.drop_succ_cons,List.drop_zero,List.take_succ_cons,List.take_zero] at k1
  have l1:1<xs.length:=by rw [hx];decide
  obtain ⟨a1,r1,w1⟩:=(qf hP O (by decide) (of_decide_eq_true O) te) (k1.trans (List.getElem?_eq_getElem l1)) (eS EM hy hw (i:=1) rfl (List.getElem?_eq_getElem l1));obtain ⟨v0,e0,b0⟩:=r0;obtain ⟨rfl, -⟩:=List.cons.inj e0;obtain ⟨A0,q0,rfl,d0⟩:=b0;have b0:SlR bV _ _ (.slice A0 a0.length q0) a0:=⟨_,_,rfl,d0⟩;obtain ⟨v1,e1,b1⟩:=r1;obtain ⟨rfl, -⟩:=List.cons.inj e1;obtain ⟨A1,q1,rfl,d1⟩:=b1;have b1:SlR bV _ _ (.slice A1 a1.length q1) a1:=⟨_,_,rfl,d1⟩;exact ⟨⟨a0,a1⟩,⟨_,_,_,_,_,_,J,b0,b1⟩,⟨w0,w1⟩⟩
set_option maxRecDepth 100000 in
theorem ER {H:Type}{enc:TypeId×Value→H}{W:World}{r:Reach}{b0:Nat}{base:Nat}{spare:Nat→Bool}{held:Bool}{v:Value}{d:DataW H}{p:List MemPlace}
  (hv:Value.okWide Tryz.prog W r b0 36 v) (h:DataW.Trod enc Tryz.prog W base spare held 36 v d p) (hz:Light Tryz.prog 36 d): ∃(m:Gx) (Aq_0:Option Addr) (nq_0 cq_0:Nat) (Aq_1:Option Addr) (nq_1 cq_1:Nat),v=.agg #[I Aq_0 nq_0 cq_0,I Aq_1 nq_1 cq_1]∧(mm m)∧(iS bV (I Aq_0 nq_0 cq_0) m.Young).ok (fun _=>False) (fun q=>q<W.heap.size) W∧(iS bV (I Aq_1 nq_1 cq_1) m.Old).ok (fun _=>False) (fun q=>q<W.heap.size) W:=by
 obtain ⟨cs,rfl, -⟩:=okWide_struct EM hv;obtain ⟨fuel,hf⟩:=h;obtain ⟨m,⟨Aq_0,nq_0,cq_0,Aq_1,nq_1,cq_1,e,hq_0,hq_1⟩,hw⟩:=vM hf hz;obtain ⟨l⟩:=cs;have hx:l=[I Aq_0 nq_0 cq_0,I Aq_1 nq_1 cq_1]:=e;exact ⟨m,Aq_0,nq_0,cq_0,Aq_1,nq_1,cq_1,by rw [hx],hw,hq_0,hq_1⟩
set_option maxRecDepth 100000 in
theorem EQ {H:Type}{enc:TypeId×Value→H}{W:World}{r:Reach}{b0:Nat}{base:Nat}{spare:Nat→Bool}{held:Bool}{v:Value}{d:DataW H}{p:List MemPlace}
  (hv:Value.okWide Tryz.prog W r b0 38 v) (h:DataW.Trod enc Tryz.prog W base spare held 38 v d p) (hz:Light Tryz.prog 38 d): ∃(m:(List Gu)) (Aq_0:Option Addr) (nq_0 cq_0:Nat),v=I Aq_0 nq_0 cq_0∧(Ef (fun z38=>kh z38) m)∧(iS aF (I Aq_0 nq_0 cq_0) m).ok (fun _=>False) (fun q=>q<W.heap.size) W:=by
 obtain ⟨A,n,c,rfl⟩:=okWide_slice hO hv;obtain ⟨fuel,hf⟩:=h;obtain ⟨m,⟨u,e,h1⟩,hw⟩:=(qf hO O (by decide) (of_decide_eq_true O) nD) hf hz;obtain ⟨rfl, -⟩:=List.cons.inj (show [_]=[_] from e);exact ⟨m,A,n,c,J,hw,h1⟩
end Go.Proofs.YtmimkglhbmcokaaGreat