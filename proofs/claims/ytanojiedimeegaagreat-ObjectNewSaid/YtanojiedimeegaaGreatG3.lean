/- Merged texts: part 3. No conditions of their own. -/
import Derived.Test.YtanojiedimeegaaGreatG2
import Derived.Test.YtanojiedimeegaaGreatChecked
import Derived.ProofKit
namespace Go.Proofs.YtanojiedimeegaaGreat
theorem hJ:type_of% Tryz.underlying3:=Tryz.underlying3
theorem hH:type_of% Tryz.underlying9:=Tryz.underlying9
theorem hE:type_of% Tryz.underlying35:=Tryz.underlying35
variable {A1 A2 A3 A4 A5:Option Addr} {B1 B3 B6 M7 c1 c2 c3 c4 c5 n1 n2 n3 n4 n5:Nat}
open Go.RowKit Asn
set_option maxRecDepth 20000
structure zG where
 Way:Int
 Steps:Int
 Calls:Int
 Made:Int
 Young:Int
 Full:Int
 Sites:Int
 deriving DecidableEq,Inhabited
def ya:Rep zG:=.flat 7 (fun x=> [iV x.Way,iV x.Steps,iV x.Calls,iV x.Made,iV x.Young,iV x.Full,iV x.Sites]) (fun _=>rfl) (fun _=>rfl)
structure zJ where
 at_:(List (Int×Bool))
 deriving DecidableEq,Inhabited
structure zT where
 Kind:Int
 N:Int
 S:ByteArray
 deriving DecidableEq,Inhabited
def bw:Rep zT:=.flat 3 (fun x=> [iV x.Kind,iV x.N,.string x.S]) (fun _=>rfl) (fun _=>rfl)
structure zL where
 Kind:Int
 Shape:Int
 Flags:Int
 Age:Int
 Slots:(List zT)
 More:(List zT)
 deriving DecidableEq,Inhabited
def kZ:Rep zL where
 sz:=6
 rel S w vs x:= ∃A4 n4 c4 A5 n5 c5,vs=[iV x.Kind,iV x.Shape,iV x.Flags,iV x.Age,Y A4 n4 c4,Y A5 n5 c5]∧SlR bw S w (Y A4 n4 c4) x.Slots∧SlR bw S w (Y A5 n5 c5) x.More
 loc:=fun h ⟨_,_,_,_,_,_,e,h4,h5⟩=>⟨_,_,_,_,_,_,e,h4.loc h,h5.loc h⟩
 mono:=fun h ⟨_,_,_,_,_,_,e,h4,h5⟩=>⟨_,_,_,_,_,_,e,h4.mono h,h5.mono h⟩
 len:=fun ⟨_,_,_,_,_,_,e,_⟩=>by rw [e];rfl
 one:=fun ⟨_,_,_,_,_,_,e,_⟩=>by rw [e];rfl
theorem pg (x:zL):uY kZ x fun vs cs=> ∃A4 n4 c4 A5 n5 c5,vs=[iV x.Kind,iV x.Shape,iV x.Flags,iV x.Age,Y A4 n4 c4,Y A5 n5 c5]∧cs=[kh bw (Y A4 n4 c4) x.Slots,kh bw (Y A5 n5 c5) x.More]:=fun S w vs ⟨_,_,_,_,_,_,e,h4,h5⟩=>⟨_,⟨_,_,_,_,_,_,e,rfl⟩,hD h4 (hD h5 (ae))⟩
structure zH where
 Young:(List zL)
 Old:(List zL)
 deriving DecidableEq,Inhabited
def xZ:Rep zH where
 sz:=2
 rel S w vs x:= ∃A0 n0 c0 A1 n1 c1,vs=[Y A0 n0 c0,Y A1 n1 c1]∧SlR kZ S w (Y A0 n0 c0) x.Young∧SlR kZ S w (Y A1 n1 c1) x.Old
 loc:=fun h ⟨_,_,_,_,_,_,e,h0,h1⟩=>⟨_,_,_,_,_,_,e,h0.loc h,h1.loc h⟩
 mono:=fun h ⟨_,_,_,_,_,_,e,h0,h1⟩=>⟨_,_,_,_,_,_,e,h0.mono h,h1.mono h⟩
 len:=fun ⟨_,_,_,_,_,_,e,_⟩=>by rw [e];rfl
 one:=fun ⟨_,_,_,_,_,_,e,_⟩=>by rw [e];rfl
structure zI where
 m_:zH
 roots_:(List zT)
 pending_:(List zT)
 set_:zJ
 deriving DecidableEq,Inhabited
structure zV where
 Kind:Int
 N:Int
 S:ByteArray
 deriving DecidableEq,Inhabited
def kY:Rep zV:=.flat 3 (fun x=> [iV x.Kind,iV x.N,.string x.S]) (fun _=>rfl) (fun _=>rfl)
structure zN where
 Up:Int
 Key:zV
 Attrs:Int
 Len:Int
 deriving DecidableEq,Inhabited
def lG:Rep zN:=.flat 6 (fun x=> [iV x.Up,iV x.Key.Kind,iV x.Key.N,.string x.Key.S,iV x.Attrs,iV x.Len]) (fun _=>rfl) (fun _=>rfl)
structure zQ where
 up_:Int
 key_:zV
 attrs_:Int
 deriving DecidableEq,Inhabited
def yz:Rep zQ:=.flat 5 (fun x=> [iV x.up_,iV x.key_.Kind,iV x.key_.N,.string x.key_.S,iV x.attrs_]) (fun _=>rfl) (fun _=>rfl)
structure zX where
 shapes_:(List zN)
 next_:(List (zQ×Int))
 deriving DecidableEq,Inhabited
structure zW where
 steps_:Int
 made_:Int
 calls_:Int
 deriving DecidableEq,Inhabited
def yt:Rep zW:=.flat 3 (fun x=> [iV x.steps_,iV x.made_,iV x.calls_]) (fun _=>rfl) (fun _=>rfl)
structure zY where
 Kind:Int
 Key:zV
 S:ByteArray
 deriving DecidableEq,Inhabited
def sD:Rep zY:=.flat 5 (fun x=> [iV x.Kind,iV x.Key.Kind,iV x.Key.N,.string x.Key.S,.string x.S]) (fun _=>rfl) (fun _=>rfl)
structure zP where
 spent_:zW
 config_:zG
 host_:Unit
 heap_:zI
 shapes_:zX
 symbols_:(List ByteArray)
 epoch_:Int
 serial_:Int
 sleepers_:Int
 events_:(List zY)
 out_:(List ByteArray)
 deriving DecidableEq,Inhabited
structure zM where
 Cell:zL
 w_:zP
 at_:zT
 deriving DecidableEq,Inhabited
structure zS where
 Key:zV
 Attrs:Int
 Value:zT
 Get:zT
 Set:zT
 deriving DecidableEq,Inhabited
def kX:Rep zS:=.flat 13 (fun x=> [iV x.Key.Kind,iV x.Key.N,.string x.Key.S,iV x.Attrs,iV x.Value.Kind,iV x.Value.N,.string x.Value.S,iV x.Get.Kind,iV x.Get.N,.string x.Get.S,iV x.Set.Kind,iV x.Set.N,.string x.Set.S]) (fun _=>rfl) (fun _=>rfl)
structure zK where
 Has:Int
 Attrs:Int
 Value:zT
 Get:zT
 Set:zT
 deriving DecidableEq,Inhabited
def yA:Rep zK:=.flat 11 (fun x=> [iV x.Has,iV x.Attrs,iV x.Value.Kind,iV x.Value.N,.string x.Value.S,iV x.Get.Kind,iV x.Get.N,.string x.Get.S,iV x.Set.Kind,iV x.Set.N,.string x.Set.S]) (fun _=>rfl) (fun _=>rfl)
abbrev aY (A:Option Addr)(n c:Nat):=dl bw 29 (.slice A n c)
abbrev bv (A:Option Addr)(n c:Nat):=kh wR (.slice A n c)
abbrev bL (A:Option Addr)(n c:Nat):=dl kZ 37 (.slice A n c)
abbrev cw (A:Option Addr)(n c:Nat):=kh bw (.slice A n c)
abbrev cY (A:Option Addr)(n c:Nat):=kh sD (.slice A n c)
abbrev dG (A:Option Addr)(n c:Nat):=dl lG 114 (.slice A n c)
abbrev js (A:Option Addr)(n c:Nat):=dl kY 44 (.slice A n c)
abbrev mi (A:Option Addr)(n c:Nat):=kh kZ (.slice A n c)
abbrev oT (A:Option Addr)(n c:Nat):=kh lG (.slice A n c)
theorem sX:au Tryz.prog 5:=⟨Tryz.f5,Tryz.func5,rfl,rfl⟩
theorem wG:au Tryz.prog 6:=⟨Tryz.f6,Tryz.func6,rfl,rfl⟩
theorem ux:au Tryz.prog 7:=⟨Tryz.f7,Tryz.func7,rfl,rfl⟩
theorem sW:au Tryz.prog 8:=⟨Tryz.f8,Tryz.func8,rfl,rfl⟩
theorem sV:au Tryz.prog 9:=⟨Tryz.f9,Tryz.func9,rfl,rfl⟩
theorem pI:au Tryz.prog 10:=⟨Tryz.f10,Tryz.func10,rfl,rfl⟩
theorem uM:au Tryz.prog 11:=⟨Tryz.f11,Tryz.func11,rfl,rfl⟩
theorem sm:au Tryz.prog 12:=⟨Tryz.f12,Tryz.func12,rfl,rfl⟩
theorem sk:au Tryz.prog 13:=⟨Tryz.f13,Tryz.func13,rfl,rfl⟩
theorem uL:au Tryz.prog 14:=⟨Tryz.f14,Tryz.func14,rfl,rfl⟩
theorem xL:au Tryz.prog 20:=⟨Tryz.f20,Tryz.func20,rfl,rfl⟩
theorem uK:au Tryz.prog 22:=⟨Tryz.f22,Tryz.func22,rfl,rfl⟩
theorem xK:au Tryz.prog 24:=⟨Tryz.f24,Tryz.func24,rfl,rfl⟩
theorem xJ:au Tryz.prog 25:=⟨Tryz.f25,Tryz.func25,rfl,rfl⟩
theorem xI:au Tryz.prog 26:=⟨Tryz.f26,Tryz.func26,rfl,rfl⟩
theorem xH:au Tryz.prog 27:=⟨Tryz.f27,Tryz.func27,rfl,rfl⟩
theorem xG:au Tryz.prog 28:=⟨Tryz.f28,Tryz.func28,rfl,rfl⟩
theorem nR:au Tryz.prog 29:=⟨Tryz.f29,Tryz.func29,rfl,rfl⟩
theorem uJ:au Tryz.prog 30:=⟨Tryz.f30,Tryz.func30,rfl,rfl⟩
theorem pH:au Tryz.prog 31:=⟨Tryz.f31,Tryz.func31,rfl,rfl⟩
theorem qW:au Tryz.prog 32:=⟨Tryz.f32,Tryz.func32,rfl,rfl⟩
theorem uI:au Tryz.prog 33:=⟨Tryz.f33,Tryz.func33,rfl,rfl⟩
theorem uH:au Tryz.prog 34:=⟨Tryz.f34,Tryz.func34,rfl,rfl⟩
theorem uG:au Tryz.prog 35:=⟨Tryz.f35,Tryz.func35,rfl,rfl⟩
theorem uF:au Tryz.prog 36:=⟨Tryz.f36,Tryz.func36,rfl,rfl⟩
theorem uE:au Tryz.prog 37:=⟨Tryz.f37,Tryz.func37,rfl,rfl⟩
theorem xF:au Tryz.prog 38:=⟨Tryz.f38,Tryz.func38,rfl,rfl⟩
theorem sj:au Tryz.prog 39:=⟨Tryz.f39,Tryz.func39,rfl,rfl⟩
theorem uD:au Tryz.prog 40:=⟨Tryz.f40,Tryz.func40,rfl,rfl⟩
theorem dp:au Tryz.prog 41:=⟨Tryz.f41,Tryz.func41,rfl,rfl⟩
theorem xE:au Tryz.prog 42:=⟨Tryz.f42,Tryz.func42,rfl,rfl⟩
theorem pG:au Tryz.prog 43:=⟨Tryz.f43,Tryz.func43,rfl,rfl⟩
theorem uC:au Tryz.prog 44:=⟨Tryz.f44,Tryz.func44,rfl,rfl⟩
theorem nQ:au Tryz.prog 50:=⟨Tryz.f50,Tryz.func50,rfl,rfl⟩
theorem uB:au Tryz.prog 51:=⟨Tryz.f51,Tryz.func51,rfl,rfl⟩
theorem qV:au Tryz.prog 52:=⟨Tryz.f52,Tryz.func52,rfl,rfl⟩
theorem xD:au Tryz.prog 53:=⟨Tryz.f53,Tryz.func53,rfl,rfl⟩
theorem uA:au Tryz.prog 54:=⟨Tryz.f54,Tryz.func54,rfl,rfl⟩
theorem si:au Tryz.prog 57:=⟨Tryz.f57,Tryz.func57,rfl,rfl⟩
theorem xC:au Tryz.prog 58:=⟨Tryz.f58,Tryz.func58,rfl,rfl⟩
theorem uz:au Tryz.prog 59:=⟨Tryz.f59,Tryz.func59,rfl,rfl⟩
theorem mJ:au Tryz.prog 60:=⟨Tryz.f60,Tryz.func60,rfl,rfl⟩
theorem xB:au Tryz.prog 61:=⟨Tryz.f61,Tryz.func61,rfl,rfl⟩
theorem sh:au Tryz.prog 62:=⟨Tryz.f62,Tryz.func62,rfl,rfl⟩
theorem sg:au Tryz.prog 63:=⟨Tryz.f63,Tryz.func63,rfl,rfl⟩
theorem sf:au Tryz.prog 64:=⟨Tryz.f64,Tryz.func64,rfl,rfl⟩
theorem mI:au Tryz.prog 65:=⟨Tryz.f65,Tryz.func65,rfl,rfl⟩
theorem nP:au Tryz.prog 66:=⟨Tryz.f66,Tryz.func66,rfl,rfl⟩
theorem xA:au Tryz.prog 67:=⟨Tryz.f67,Tryz.func67,rfl,rfl⟩
theorem mH:au Tryz.prog 68:=⟨Tryz.f68,Tryz.func68,rfl,rfl⟩
theorem uy:au Tryz.prog 69:=⟨Tryz.f69,Tryz.func69,rfl,rfl⟩
theorem uw:au Tryz.prog 70:=⟨Tryz.f70,Tryz.func70,rfl,rfl⟩
theorem xz:au Tryz.prog 71:=⟨Tryz.f71,Tryz.func71,rfl,rfl⟩
theorem xy:au Tryz.prog 72:=⟨Tryz.f72,Tryz.func72,rfl,rfl⟩
theorem xx:au Tryz.prog 73:=⟨Tryz.f73,Tryz.func73,rfl,rfl⟩
theorem uv:au Tryz.prog 74:=⟨Tryz.f74,Tryz.func74,rfl,rfl⟩
theorem se:au Tryz.prog 75:=⟨Tryz.f75,Tryz.func75,rfl,rfl⟩
theorem xw:au Tryz.prog 76:=⟨Tryz.f76,Tryz.func76,rfl,rfl⟩
theorem sd:au Tryz.prog 77:=⟨Tryz.f77,Tryz.func77,rfl,rfl⟩
theorem xv:au Tryz.prog 78:=⟨Tryz.f78,Tryz.func78,rfl,rfl⟩
theorem xu:au Tryz.prog 79:=⟨Tryz.f79,Tryz.func79,rfl,rfl⟩
theorem xt:au Tryz.prog 80:=⟨Tryz.f80,Tryz.func80,rfl,rfl⟩
theorem xr:au Tryz.prog 82:=⟨Tryz.f82,Tryz.func82,rfl,rfl⟩
theorem sc:au Tryz.prog 83:=⟨Tryz.f83,Tryz.func83,rfl,rfl⟩
theorem uu:au Tryz.prog 84:=⟨Tryz.f84,Tryz.func84,rfl,rfl⟩
theorem xq:au Tryz.prog 85:=⟨Tryz.f85,Tryz.func85,rfl,rfl⟩
theorem ut:au Tryz.prog 86:=⟨Tryz.f86,Tryz.func86,rfl,rfl⟩
theorem xp:au Tryz.prog 87:=⟨Tryz.f87,Tryz.func87,rfl,rfl⟩
theorem ur:au Tryz.prog 88:=⟨Tryz.f88,Tryz.func88,rfl,rfl⟩
theorem sb:au Tryz.prog 89:=⟨Tryz.f89,Tryz.func89,rfl,rfl⟩
theorem fe:au Tryz.prog 90:=⟨Tryz.f90,Tryz.func90,rfl,rfl⟩
theorem sa:au Tryz.prog 91:=⟨Tryz.f91,Tryz.func91,rfl,rfl⟩
theorem xo:au Tryz.prog 92:=⟨Tryz.f92,Tryz.func92,rfl,rfl⟩
theorem xn:au Tryz.prog 93:=⟨Tryz.f93,Tryz.func93,rfl,rfl⟩
theorem xm:au Tryz.prog 94:=⟨Tryz.f94,Tryz.func94,rfl,rfl⟩
theorem uq:au Tryz.prog 95:=⟨Tryz.f95,Tryz.func95,rfl,rfl⟩
theorem xl:au Tryz.prog 96:=⟨Tryz.f96,Tryz.func96,rfl,rfl⟩
theorem xj:au Tryz.prog 97:=⟨Tryz.f97,Tryz.func97,rfl,rfl⟩
theorem xi:au Tryz.prog 98:=⟨Tryz.f98,Tryz.func98,rfl,rfl⟩
theorem qU:au Tryz.prog 99:=⟨Tryz.f99,Tryz.func99,rfl,rfl⟩
theorem wk:au Tryz.prog 100:=⟨Tryz.f100,Tryz.func100,rfl,rfl⟩
theorem qX:au Tryz.prog 101:=⟨Tryz.f101,Tryz.func101,rfl,rfl⟩
theorem lN:au Tryz.prog 102:=⟨Tryz.f102,Tryz.func102,rfl,rfl⟩
theorem td:au Tryz.prog 103:=⟨Tryz.f103,Tryz.func103,rfl,rfl⟩
theorem tc:au Tryz.prog 104:=⟨Tryz.f104,Tryz.func104,rfl,rfl⟩
theorem wj:au Tryz.prog 105:=⟨Tryz.f105,Tryz.func105,rfl,rfl⟩
theorem lM:au Tryz.prog 106:=⟨Tryz.f106,Tryz.func106,rfl,rfl⟩
theorem lL:au Tryz.prog 107:=⟨Tryz.f107,Tryz.func107,rfl,rfl⟩
theorem tb:au Tryz.prog 108:=⟨Tryz.f108,Tryz.func108,rfl,rfl⟩
theorem wi:au Tryz.prog 109:=⟨Tryz.f109,Tryz.func109,rfl,rfl⟩
theorem wh:au Tryz.prog 110:=⟨Tryz.f110,Tryz.func110,rfl,rfl⟩
theorem wg:au Tryz.prog 112:=⟨Tryz.f112,Tryz.func112,rfl,rfl⟩
theorem ta:au Tryz.prog 113:=⟨Tryz.f113,Tryz.func113,rfl,rfl⟩
theorem we:au Tryz.prog 114:=⟨Tryz.f114,Tryz.func114,rfl,rfl⟩
theorem sZ:au Tryz.prog 115:=⟨Tryz.f115,Tryz.func115,rfl,rfl⟩
theorem wd:au Tryz.prog 116:=⟨Tryz.f116,Tryz.func116,rfl,rfl⟩
theorem wc:au Tryz.prog 118:=⟨Tryz.f118,Tryz.func118,rfl,rfl⟩
theorem wb:au Tryz.prog 119:=⟨Tryz.f119,Tryz.func119,rfl,rfl⟩
theorem sY:au Tryz.prog 120:=⟨Tryz.f120,Tryz.func120,rfl,rfl⟩
theorem wa:au Tryz.prog 121:=⟨Tryz.f121,Tryz.func121,rfl,rfl⟩
theorem vW (b o:Nat)(w:World):(Instr.fieldAt 27 (pV b o) 0).run Tryz.prog w=.ok (pV b o) w:=by kernel_rfl
theorem vV (b o:Nat)(w:World):(Instr.fieldAt 27 (pV b o) 1).run Tryz.prog w=.ok (.pointer (some ⟨b,o+1,none⟩)) w:=by kernel_rfl
theorem vU (b o:Nat)(w:World):(Instr.fieldAt 27 (pV b o) 2).run Tryz.prog w=.ok (.pointer (some ⟨b,o+2,none⟩)) w:=by kernel_rfl
theorem sO (b o:Nat)(w:World):(Instr.fieldAt 27 (pV b o) 3).run Tryz.prog w=.ok (.pointer (some ⟨b,o+3,none⟩)) w:=by kernel_rfl
theorem vT (b o:Nat)(w:World):(Instr.fieldAt 27 (pV b o) 4).run Tryz.prog w=.ok (.pointer (some ⟨b,o+4,none⟩)) w:=by kernel_rfl
theorem vS (b o:Nat)(w:World):(Instr.fieldAt 27 (pV b o) 5).run Tryz.prog w=.ok (.pointer (some ⟨b,o+5,none⟩)) w:=by kernel_rfl
theorem vR (b o:Nat)(w:World):(Instr.fieldAt 27 (pV b o) 6).run Tryz.prog w=.ok (.pointer (some ⟨b,o+6,none⟩)) w:=by kernel_rfl
theorem iL (b o:Nat)(w:World):(Instr.fieldAt 29 (pV b o) 0).run Tryz.prog w=.ok (pV b o) w:=by kernel_rfl
theorem nh (b o:Nat)(w:World):(Instr.fieldAt 29 (pV b o) 1).run Tryz.prog w=.ok (.pointer (some ⟨b,o+1,none⟩)) w:=by kernel_rfl
theorem vQ (b o:Nat)(w:World):(Instr.fieldAt 29 (pV b o) 2).run Tryz.prog w=.ok (.pointer (some ⟨b,o+2,none⟩)) w:=by kernel_rfl
theorem qL (b o:Nat)(w:World):(Instr.fieldAt 37 (pV b o) 0).run Tryz.prog w=.ok (pV b o) w:=by kernel_rfl
theorem iK (b o:Nat)(w:World):(Instr.fieldAt 37 (pV b o) 1).run Tryz.prog w=.ok (.pointer (some ⟨b,o+1,none⟩)) w:=by kernel_rfl
theorem sN (b o:Nat)(w:World):(Instr.fieldAt 37 (pV b o) 2).run Tryz.prog w=.ok (.pointer (some ⟨b,o+2,none⟩)) w:=by kernel_rfl
theorem iJ (b o:Nat)(w:World):(Instr.fieldAt 37 (pV b o) 3).run Tryz.prog w=.ok (.pointer (some ⟨b,o+3,none⟩)) w:=by kernel_rfl
theorem eP (b o:Nat)(w:World):(Instr.fieldAt 37 (pV b o) 4).run Tryz.prog w=.ok (.pointer (some ⟨b,o+4,none⟩)) w:=by kernel_rfl
theorem qK (b o:Nat)(w:World):(Instr.fieldAt 37 (pV b o) 5).run Tryz.prog w=.ok (.pointer (some ⟨b,o+5,none⟩)) w:=by kernel_rfl
theorem vP (b o:Nat)(w:World):(Instr.fieldAt 44 (pV b o) 0).run Tryz.prog w=.ok (pV b o) w:=by kernel_rfl
theorem sM (b o:Nat)(w:World):(Instr.fieldAt 44 (pV b o) 1).run Tryz.prog w=.ok (.pointer (some ⟨b,o+1,none⟩)) w:=by kernel_rfl
theorem qJ (b o:Nat)(w:World):(Instr.fieldAt 44 (pV b o) 2).run Tryz.prog w=.ok (.pointer (some ⟨b,o+2,none⟩)) w:=by kernel_rfl
theorem vO (b o:Nat)(w:World):(Instr.fieldAt 46 (pV b o) 0).run Tryz.prog w=.ok (pV b o) w:=by kernel_rfl
theorem vN (b o:Nat)(w:World):(Instr.fieldAt 46 (pV b o) 1).run Tryz.prog w=.ok (.pointer (some ⟨b,o+1,none⟩)) w:=by kernel_rfl
theorem vM (b o:Nat)(w:World):(Instr.fieldAt 46 (pV b o) 2).run Tryz.prog w=.ok (.pointer (some ⟨b,o+2,none⟩)) w:=by kernel_rfl
theorem vL (b o:Nat)(w:World):(Instr.fieldAt 46 (pV b o) 3).run Tryz.prog w=.ok (.pointer (some ⟨b,o+5,none⟩)) w:=by kernel_rfl
theorem vK (b o:Nat)(w:World):(Instr.fieldAt 46 (pV b o) 4).run Tryz.prog w=.ok (.pointer (some ⟨b,o+8,none⟩)) w:=by kernel_rfl
theorem oX (b o:Nat)(w:World):(Instr.fieldAt 52 (pV b o) 0).run Tryz.prog w=.ok (pV b o) w:=by kernel_rfl
theorem qI (b o:Nat)(w:World):(Instr.fieldAt 52 (pV b o) 1).run Tryz.prog w=.ok (.pointer (some ⟨b,o+3,none⟩)) w:=by kernel_rfl
theorem sL (b o:Nat)(w:World):(Instr.fieldAt 52 (pV b o) 2).run Tryz.prog w=.ok (.pointer (some ⟨b,o+4,none⟩)) w:=by kernel_rfl
theorem oW (b o:Nat)(w:World):(Instr.fieldAt 52 (pV b o) 3).run Tryz.prog w=.ok (.pointer (some ⟨b,o+7,none⟩)) w:=by kernel_rfl
theorem oV (b o:Nat)(w:World):(Instr.fieldAt 52 (pV b o) 4).run Tryz.prog w=.ok (.pointer (some ⟨b,o+10,none⟩)) w:=by kernel_rfl
theorem sK (b o:Nat)(w:World):(Instr.fieldAt 67 (pV b o) 1).run Tryz.prog w=.ok (.pointer (some ⟨b,o+1,none⟩)) w:=by kernel_rfl
theorem sJ (b o:Nat)(w:World):(Instr.fieldAt 73 (pV b o) 0).run Tryz.prog w=.ok (pV b o) w:=by kernel_rfl
theorem sI (b o:Nat)(w:World):(Instr.fieldAt 73 (pV b o) 1).run Tryz.prog w=.ok (.pointer (some ⟨b,o+3,none⟩)) w:=by kernel_rfl
theorem gw (b o:Nat)(w:World):(Instr.fieldAt 73 (pV b o) 3).run Tryz.prog w=.ok (.pointer (some ⟨b,o+11,none⟩)) w:=by kernel_rfl
theorem vJ (b o:Nat)(w:World):(Instr.fieldAt 73 (pV b o) 4).run Tryz.prog w=.ok (.pointer (some ⟨b,o+12,none⟩)) w:=by kernel_rfl
theorem vI (b o:Nat)(w:World):(Instr.fieldAt 73 (pV b o) 6).run Tryz.prog w=.ok (.pointer (some ⟨b,o+14,none⟩)) w:=by kernel_rfl
theorem dI (b o:Nat)(w:World):(Instr.fieldAt 88 (pV b o) 0).run Tryz.prog w=.ok (pV b o) w:=by kernel_rfl
theorem kq (b o:Nat)(w:World):(Instr.fieldAt 88 (pV b o) 1).run Tryz.prog w=.ok (.pointer (some ⟨b,o+6,none⟩)) w:=by kernel_rfl
theorem sH (b o:Nat)(w:World):(Instr.fieldAt 88 (pV b o) 2).run Tryz.prog w=.ok (.pointer (some ⟨b,o+7,none⟩)) w:=by kernel_rfl
theorem qH (b o:Nat)(w:World):(Instr.fieldAt 96 (pV b o) 0).run Tryz.prog w=.ok (pV b o) w:=by kernel_rfl
theorem vH (b o:Nat)(w:World):(Instr.fieldAt 96 (pV b o) 1).run Tryz.prog w=.ok (.pointer (some ⟨b,o+1,none⟩)) w:=by kernel_rfl
theorem qG (b o:Nat)(w:World):(Instr.fieldAt 99 (pV b o) 0).run Tryz.prog w=.ok (pV b o) w:=by kernel_rfl
theorem qF (b o:Nat)(w:World):(Instr.fieldAt 99 (pV b o) 1).run Tryz.prog w=.ok (.pointer (some ⟨b,o+2,none⟩)) w:=by kernel_rfl
theorem ng (b o:Nat)(w:World):(Instr.fieldAt 99 (pV b o) 3).run Tryz.prog w=.ok (.pointer (some ⟨b,o+4,none⟩)) w:=by kernel_rfl
theorem py (b o:Nat)(w:World):(Instr.fieldAt 114 (pV b o) 0).run Tryz.prog w=.ok (pV b o) w:=by kernel_rfl
theorem ni (b o:Nat)(w:World):(Instr.fieldAt 114 (pV b o) 1).run Tryz.prog w=.ok (.pointer (some ⟨b,o+1,none⟩)) w:=by kernel_rfl
theorem lj (b o:Nat)(w:World):(Instr.fieldAt 114 (pV b o) 2).run Tryz.prog w=.ok (.pointer (some ⟨b,o+4,none⟩)) w:=by kernel_rfl
theorem px (b o:Nat)(w:World):(Instr.fieldAt 114 (pV b o) 3).run Tryz.prog w=.ok (.pointer (some ⟨b,o+5,none⟩)) w:=by kernel_rfl
theorem jZ (b o:Nat)(w:World):(Instr.fieldAt 118 (pV b o) 0).run Tryz.prog w=.ok (pV b o) w:=by kernel_rfl
theorem pw (b o:Nat)(w:World):(Instr.fieldAt 118 (pV b o) 1).run Tryz.prog w=.ok (.pointer (some ⟨b,o+1,none⟩)) w:=by kernel_rfl
theorem ue (b o:Nat)(w:World):(Instr.fieldAt 143 (pV b o) 0).run Tryz.prog w=.ok (pV b o) w:=by kernel_rfl
theorem cX:eD Tryz.prog 3=true:=by kernel_rfl
theorem rV:eD Tryz.prog 4=true:=by kernel_rfl
theorem wT:eD Tryz.prog 9=true:=by kernel_rfl
theorem ob:eD Tryz.prog 22=true:=by kernel_rfl
theorem eR:eD Tryz.prog 35=true:=by kernel_rfl
theorem jr:eD Tryz.prog 49=true:=by kernel_rfl
theorem wx:eD Tryz.prog 64=true:=by kernel_rfl
theorem sG:eD Tryz.prog 94=true:=by kernel_rfl
theorem qh:eD Tryz.prog 97=true:=by kernel_rfl
theorem wV:eD Tryz.prog 109=true:=by kernel_rfl
theorem kl:eD Tryz.prog 115=true:=by kernel_rfl
theorem rW:eD Tryz.prog 116=true:=by kernel_rfl
theorem wU:eD Tryz.prog 141=true:=by kernel_rfl
theorem wI:lx Tryz.prog 27 7=true:=by kernel_rfl
theorem aL:lx Tryz.prog 29 3=true:=by kernel_rfl
theorem ct:lx Tryz.prog 37 6=true:=by kernel_rfl
theorem cR:lx Tryz.prog 44 3=true:=by kernel_rfl
theorem eL:lx Tryz.prog 46 11=true:=by kernel_rfl
theorem fi:lx Tryz.prog 52 13=true:=by kernel_rfl
theorem wH:lx Tryz.prog 96 2=true:=by kernel_rfl
theorem jN:lx Tryz.prog 114 6=true:=by kernel_rfl
theorem fY:dN Tryz.prog 3 1=true:=by kernel_rfl
theorem o5:dN Tryz.prog 4 1=true:=by kernel_rfl
theorem aN:dN Tryz.prog 29 3=true:=by kernel_rfl
theorem nA:dN Tryz.prog 35 1=true:=by kernel_rfl
theorem dA:dN Tryz.prog 37 6=true:=by kernel_rfl
theorem fm:dN Tryz.prog 44 3=true:=by kernel_rfl
theorem wQ:dN Tryz.prog 46 11=true:=by kernel_rfl
theorem eg:dN Tryz.prog 52 13=true:=by kernel_rfl
theorem wP:dN Tryz.prog 94 1=true:=by kernel_rfl
theorem vq:dN Tryz.prog 109 1=true:=by kernel_rfl
theorem cz:dN Tryz.prog 114 6=true:=by kernel_rfl
theorem vo:dN Tryz.prog 115 1=true:=by kernel_rfl
theorem xU (w:World):(zeroValue 3).run Tryz.prog w=.ok (iV 0) w:=by kernel_rfl
theorem wu (w:World):(zeroValue 4).run Tryz.prog w=.ok (.bool false) w:=by kernel_rfl
theorem cP (w:World):(zeroValue 29).run Tryz.prog w=.ok (.agg #[iV 0,iV 0,.string ⟨#[]⟩]) w:=by kernel_rfl
theorem iS (w:World):(zeroValue 37).run Tryz.prog w=.ok (.agg #[iV 0,iV 0,iV 0,iV 0,Y none 0 0,Y none 0 0]) w:=by kernel_rfl
theorem rO (w:World):(zeroValue 44).run Tryz.prog w=.ok (.agg #[iV 0,iV 0,.string ⟨#[]⟩]) w:=by kernel_rfl
theorem wO (w:World):(zeroValue 46).run Tryz.prog w=.ok (.agg #[iV 0,iV 0,iV 0,iV 0,.string ⟨#[]⟩,iV 0,iV 0,.string ⟨#[]⟩,iV 0,iV 0,.string ⟨#[]⟩]) w:=by kernel_rfl
theorem jz (w:World):(zeroValue 52).run Tryz.prog w=.ok (.agg #[iV 0,iV 0,.string ⟨#[]⟩,iV 0,iV 0,iV 0,.string ⟨#[]⟩,iV 0,iV 0,.string ⟨#[]⟩,iV 0,iV 0,.string ⟨#[]⟩]) w:=by kernel_rfl
theorem ve (w:World):(zeroValue 109).run Tryz.prog w=.ok (Y none 0 0) w:=by kernel_rfl
theorem kf (w:World):(zeroValue 114).run Tryz.prog w=.ok (.agg #[iV 0,iV 0,iV 0,.string ⟨#[]⟩,iV 0,iV 0]) w:=by kernel_rfl
theorem ud (x0_:Int)(x1_:Int)(x2_:Int)(x3_:Int)(x4_a:Option Addr)(x4_n x4_c:Nat)(x5_a:Option Addr)(x5_n x5_c:Nat)(w:World):(Instr.field 37 (.agg #[iV x0_,iV x1_,iV x2_,iV x3_,.slice x4_a x4_n x4_c,.slice x5_a x5_n x5_c]) 0).run Tryz.prog w=.ok (iV x0_) w:=by kernel_rfl
theorem re (x1_:Int)(x2_:Int)(x3_:Int)(w:World):(Instr.build 27 #[(1,iV x1_),(2,iV x2_),(3,iV x3_)]).run Tryz.prog w=.ok (.agg #[iV 0,iV x1_,iV x2_,iV x3_,iV 0,iV 0,iV 0]) w:=by kernel_rfl
theorem mK (x1_:Int)(x2_:Int)(x3_:Int)(x4_:Int)(x5_:Int)(x6_:Int)(w:World):(Instr.build 27 #[(1,iV x1_),(2,iV x2_),(3,iV x3_),(4,iV x4_),(5,iV x5_),(6,iV x6_)]).run Tryz.prog w=.ok (.agg #[iV 0,iV x1_,iV x2_,iV x3_,iV x4_,iV x5_,iV x6_]) w:=by kernel_rfl
theorem cu  (w:World):(Instr.build 29 #[]).run Tryz.prog w=.ok (.agg #[iV 0,iV 0,.string ⟨#[]⟩]) w:=by kernel_rfl
theorem lw (x0_:Int)(w:World):(Instr.build 29 #[(0,iV x0_)]).run Tryz.prog w=.ok (.agg #[iV x0_,iV 0,.string ⟨#[]⟩]) w:=by kernel_rfl
theorem gq (x0_:Int)(x1_:Int)(w:World):(Instr.build 29 #[(0,iV x0_),(1,iV x1_)]).run Tryz.prog w=.ok (.agg #[iV x0_,iV x1_,.string ⟨#[]⟩]) w:=by kernel_rfl
theorem rd  (w:World):(Instr.build 37 #[]).run Tryz.prog w=.ok (.agg #[iV 0,iV 0,iV 0,iV 0,Y none 0 0,Y none 0 0]) w:=by kernel_rfl
theorem rH (x0_:Int)(w:World):(Instr.build 37 #[(0,iV x0_)]).run Tryz.prog w=.ok (.agg #[iV x0_,iV 0,iV 0,iV 0,Y none 0 0,Y none 0 0]) w:=by kernel_rfl
theorem rc (x0_:Int)(x2_:Int)(x4_a:Option Addr)(x4_n x4_c:Nat)(w:World):(Instr.build 37 #[(0,iV x0_),(2,iV x2_),(4,.slice x4_a x4_n x4_c)]).run Tryz.prog w=.ok (.agg #[iV x0_,iV 0,iV x2_,iV 0,.slice x4_a x4_n x4_c,Y none 0 0]) w:=by kernel_rfl
theorem lv (x0_:Int)(x2_:Int)(x4_a:Option Addr)(x4_n x4_c:Nat)(x5_a:Option Addr)(x5_n x5_c:Nat)(w:World):(Instr.build 37 #[(0,iV x0_),(2,iV x2_),(4,.slice x4_a x4_n x4_c),(5,.slice x5_a x5_n x5_c)]).run Tryz.prog w=.ok (.agg #[iV x0_,iV 0,iV x2_,iV 0,.slice x4_a x4_n x4_c,.slice x5_a x5_n x5_c]) w:=by kernel_rfl
theorem sp (x0_:Int)(x4_a:Option Addr)(x4_n x4_c:Nat)(w:World):(Instr.build 37 #[(0,iV x0_),(4,.slice x4_a x4_n x4_c)]).run Tryz.prog w=.ok (.agg #[iV x0_,iV 0,iV 0,iV 0,.slice x4_a x4_n x4_c,Y none 0 0]) w:=by kernel_rfl
theorem so (x0_:Int)(x2_:ByteArray)(w:World):(Instr.build 44 #[(0,iV x0_),(2,.string x2_)]).run Tryz.prog w=.ok (.agg #[iV x0_,iV 0,.string x2_]) w:=by kernel_rfl
theorem uT (x1_:Int)(w:World):(Instr.build 44 #[(1,iV x1_)]).run Tryz.prog w=.ok (.agg #[iV 0,iV x1_,.string ⟨#[]⟩]) w:=by kernel_rfl
theorem rb (x0_:Int)(x1_:Int)(x2_0_:Int)(x2_1_:Int)(x2_2_:ByteArray)(w:World):(Instr.build 46 #[(0,iV x0_),(1,iV x1_),(2,.agg #[iV x2_0_,iV x2_1_,.string x2_2_])]).run Tryz.prog w=.ok (.agg #[iV x0_,iV x1_,iV x2_0_,iV x2_1_,.string x2_2_,iV 0,iV 0,.string ⟨#[]⟩,iV 0,iV 0,.string ⟨#[]⟩]) w:=by kernel_rfl
theorem o0  (w:World):(Instr.build 52 #[]).run Tryz.prog w=.ok (.agg #[iV 0,iV 0,.string ⟨#[]⟩,iV 0,iV 0,iV 0,.string ⟨#[]⟩,iV 0,iV 0,.string ⟨#[]⟩,iV 0,iV 0,.string ⟨#[]⟩]) w:=by kernel_rfl
theorem uS (x0_0_:Int)(x0_1_:Int)(x0_2_:ByteArray)(w:World):(Instr.build 52 #[(0,.agg #[iV x0_0_,iV x0_1_,.string x0_2_])]).run Tryz.prog w=.ok (.agg #[iV x0_0_,iV x0_1_,.string x0_2_,iV 0,iV 0,iV 0,.string ⟨#[]⟩,iV 0,iV 0,.string ⟨#[]⟩,iV 0,iV 0,.string ⟨#[]⟩]) w:=by kernel_rfl
theorem sn (x0_0_:Int)(x0_1_:Int)(x0_2_:ByteArray)(x1_:Int)(w:World):(Instr.build 52 #[(0,.agg #[iV x0_0_,iV x0_1_,.string x0_2_]),(1,iV x1_)]).run Tryz.prog w=.ok (.agg #[iV x0_0_,iV x0_1_,.string x0_2_,iV x1_,iV 0,iV 0,.string ⟨#[]⟩,iV 0,iV 0,.string ⟨#[]⟩,iV 0,iV 0,.string ⟨#[]⟩]) w:=by kernel_rfl
theorem ra (x0_0_:Int)(x0_1_:Int)(x0_2_:ByteArray)(x1_:Int)(x2_0_:Int)(x2_1_:Int)(x2_2_:ByteArray)(w:World):(Instr.build 52 #[(0,.agg #[iV x0_0_,iV x0_1_,.string x0_2_]),(1,iV x1_),(2,.agg #[iV x2_0_,iV x2_1_,.string x2_2_])]).run Tryz.prog w=.ok (.agg #[iV x0_0_,iV x0_1_,.string x0_2_,iV x1_,iV x2_0_,iV x2_1_,.string x2_2_,iV 0,iV 0,.string ⟨#[]⟩,iV 0,iV 0,.string ⟨#[]⟩]) w:=by kernel_rfl
theorem qZ (x1_0_:Int)(x1_1_:Int)(x1_2_:Int)(x1_3_:Int)(x1_4_:Int)(x1_5_:Int)(x1_6_:Int)(x3_:Option Addr)(x4_:Option Addr)(w:World):(Instr.build 73 #[(1,.agg #[iV x1_0_,iV x1_1_,iV x1_2_,iV x1_3_,iV x1_4_,iV x1_5_,iV x1_6_]),(3,.pointer x3_),(4,.pointer x4_)]).run Tryz.prog w=.ok (.agg #[iV 0,iV 0,iV 0,iV x1_0_,iV x1_1_,iV x1_2_,iV x1_3_,iV x1_4_,iV x1_5_,iV x1_6_,.nilIface,.pointer x3_,.pointer x4_,Y none 0 0,iV 0,iV 0,iV 0,Y none 0 0,Y none 0 0]) w:=by kernel_rfl
theorem qY (x0_0_:Int)(x0_1_:Int)(x0_2_:Int)(x0_3_:Int)(x0_4_a:Option Addr)(x0_4_n x0_4_c:Nat)(x0_5_a:Option Addr)(x0_5_n x0_5_c:Nat)(x1_:Option Addr)(x2_0_:Int)(x2_1_:Int)(x2_2_:ByteArray)(w:World):(Instr.build 88 #[(0,.agg #[iV x0_0_,iV x0_1_,iV x0_2_,iV x0_3_,.slice x0_4_a x0_4_n x0_4_c,.slice x0_5_a x0_5_n x0_5_c]),(1,.pointer x1_),(2,.agg #[iV x2_0_,iV x2_1_,.string x2_2_])]).run Tryz.prog w=.ok (.agg #[iV x0_0_,iV x0_1_,iV x0_2_,iV x0_3_,.slice x0_4_a x0_4_n x0_4_c,.slice x0_5_a x0_5_n x0_5_c,.pointer x1_,iV x2_0_,iV x2_1_,.string x2_2_]) w:=by kernel_rfl
theorem uR (x3_:Option Addr)(w:World):(Instr.build 99 #[(3,.pointer x3_)]).run Tryz.prog w=.ok (.agg #[Y none 0 0,Y none 0 0,Y none 0 0,Y none 0 0,.pointer x3_]) w:=by kernel_rfl
theorem uU  (w:World):(Instr.build 114 #[]).run Tryz.prog w=.ok (.agg #[iV 0,iV 0,iV 0,.string ⟨#[]⟩,iV 0,iV 0]) w:=by kernel_rfl
theorem tK (x0_:Int)(w:World):(Instr.build 114 #[(0,iV x0_)]).run Tryz.prog w=.ok (.agg #[iV x0_,iV 0,iV 0,.string ⟨#[]⟩,iV 0,iV 0]) w:=by kernel_rfl
theorem oP (x0_:Int)(x1_0_:Int)(x1_1_:Int)(x1_2_:ByteArray)(x2_:Int)(x3_:Int)(w:World):(Instr.build 114 #[(0,iV x0_),(1,.agg #[iV x1_0_,iV x1_1_,.string x1_2_]),(2,iV x2_),(3,iV x3_)]).run Tryz.prog w=.ok (.agg #[iV x0_,iV x1_0_,iV x1_1_,.string x1_2_,iV x2_,iV x3_]) w:=by kernel_rfl
theorem rJ (x1_0_:Int)(x1_1_:Int)(x1_2_:ByteArray)(x2_:Int)(w:World):(Instr.build 114 #[(1,.agg #[iV x1_0_,iV x1_1_,.string x1_2_]),(2,iV x2_)]).run Tryz.prog w=.ok (.agg #[iV 0,iV x1_0_,iV x1_1_,.string x1_2_,iV x2_,iV 0]) w:=by kernel_rfl
theorem rI (x0_a:Option Addr)(x0_n x0_c:Nat)(x1_:Option Nat)(w:World):(Instr.build 118 #[(0,.slice x0_a x0_n x0_c),(1,.map x1_)]).run Tryz.prog w=.ok (.agg #[.slice x0_a x0_n x0_c,.map x1_]) w:=by kernel_rfl
theorem tJ (x0_:Option Nat)(w:World):(Instr.build 143 #[(0,.map x0_)]).run Tryz.prog w=.ok (.agg #[.map x0_]) w:=by kernel_rfl
theorem mp (x0_:Int)(x1_0_:Int)(x1_1_:Int)(x1_2_:ByteArray)(x2_:Int)(w:World):(Instr.build 154 #[(0,iV x0_),(1,.agg #[iV x1_0_,iV x1_1_,.string x1_2_]),(2,iV x2_)]).run Tryz.prog w=.ok (.agg #[iV x0_,iV x1_0_,iV x1_1_,.string x1_2_,iV x2_]) w:=by kernel_rfl
theorem uQ  (w:World):(Instr.buildSlice 35 0 #[]).run Tryz.prog w=.ok (.slice (some ⟨w.heap.size,0,none⟩) 0 0) (w.alloc (.cells #[] 29)):=by kernel_rfl
theorem jj (x0_0_:Int)(x0_1_:Int)(x0_2_:ByteArray)(w:World):(Instr.buildSlice 35 1 #[(0,.agg #[iV x0_0_,iV x0_1_,.string x0_2_])]).run Tryz.prog w=.ok (.slice (some ⟨w.heap.size,0,none⟩) 1 1) (w.alloc (.cells #[iV x0_0_,iV x0_1_,.string x0_2_] 29)):=by kernel_rfl
theorem rG (x0_0_:Int)(x0_1_:Int)(x0_2_:ByteArray)(x1_0_:Int)(x1_1_:Int)(x1_2_:ByteArray)(w:World):(Instr.buildSlice 35 2 #[(0,.agg #[iV x0_0_,iV x0_1_,.string x0_2_]),(1,.agg #[iV x1_0_,iV x1_1_,.string x1_2_])]).run Tryz.prog w=.ok (.slice (some ⟨w.heap.size,0,none⟩) 2 2) (w.alloc (.cells #[iV x0_0_,iV x0_1_,.string x0_2_,iV x1_0_,iV x1_1_,.string x1_2_] 29)):=by kernel_rfl
theorem uP (x0_0_:Int)(x0_1_:Int)(x0_2_:ByteArray)(x1_0_:Int)(x1_1_:Int)(x1_2_:ByteArray)(x2_0_:Int)(x2_1_:Int)(x2_2_:ByteArray)(x3_0_:Int)(x3_1_:Int)(x3_2_:ByteArray)(w:World):(Instr.buildSlice 35 4 #[(0,.agg #[iV x0_0_,iV x0_1_,.string x0_2_]),(1,.agg #[iV x1_0_,iV x1_1_,.string x1_2_]),(2,.agg #[iV x2_0_,iV x2_1_,.string x2_2_]),(3,.agg #[iV x3_0_,iV x3_1_,.string x3_2_])]).run Tryz.prog w=.ok (.slice (some ⟨w.heap.size,0,none⟩) 4 4) (w.alloc (.cells #[iV x0_0_,iV x0_1_,.string x0_2_,iV x1_0_,iV x1_1_,.string x1_2_,iV x2_0_,iV x2_1_,.string x2_2_,iV x3_0_,iV x3_1_,.string x3_2_] 29)):=by kernel_rfl
theorem rF (x0_0_:Int)(x0_1_:Int)(x0_2_:ByteArray)(w:World):(Instr.buildSlice 41 1 #[(0,.agg #[iV x0_0_,iV x0_1_,.string x0_2_])]).run Tryz.prog w=.ok (.slice (some ⟨w.heap.size,0,none⟩) 1 1) (w.alloc (.cells #[iV x0_0_,iV x0_1_,.string x0_2_] 44)):=by kernel_rfl
theorem uO (x0_0_0_:Int)(x0_0_1_:Int)(x0_0_2_:ByteArray)(x0_1_:Int)(x0_2_0_:Int)(x0_2_1_:Int)(x0_2_2_:ByteArray)(x0_3_0_:Int)(x0_3_1_:Int)(x0_3_2_:ByteArray)(x0_4_0_:Int)(x0_4_1_:Int)(x0_4_2_:ByteArray)(w:World):(Instr.buildSlice 60 1 #[(0,.agg #[iV x0_0_0_,iV x0_0_1_,.string x0_0_2_,iV x0_1_,iV x0_2_0_,iV x0_2_1_,.string x0_2_2_,iV x0_3_0_,iV x0_3_1_,.string x0_3_2_,iV x0_4_0_,iV x0_4_1_,.string x0_4_2_])]).run Tryz.prog w=.ok (.slice (some ⟨w.heap.size,0,none⟩) 1 1) (w.alloc (.cells #[iV x0_0_0_,iV x0_0_1_,.string x0_0_2_,iV x0_1_,iV x0_2_0_,iV x0_2_1_,.string x0_2_2_,iV x0_3_0_,iV x0_3_1_,.string x0_3_2_,iV x0_4_0_,iV x0_4_1_,.string x0_4_2_] 52)):=by kernel_rfl
theorem uN (x0_0_:Int)(x0_1_:Int)(x0_2_:Int)(x0_3_:Int)(x0_4_a:Option Addr)(x0_4_n x0_4_c:Nat)(x0_5_a:Option Addr)(x0_5_n x0_5_c:Nat)(w:World):(Instr.buildSlice 94 1 #[(0,.agg #[iV x0_0_,iV x0_1_,iV x0_2_,iV x0_3_,.slice x0_4_a x0_4_n x0_4_c,.slice x0_5_a x0_5_n x0_5_c])]).run Tryz.prog w=.ok (.slice (some ⟨w.heap.size,0,none⟩) 1 1) (w.alloc (.cells #[iV x0_0_,iV x0_1_,iV x0_2_,iV x0_3_,.slice x0_4_a x0_4_n x0_4_c,.slice x0_5_a x0_5_n x0_5_c] 37)):=by kernel_rfl
theorem qp (x0_:Int)(w:World):(Instr.buildSlice 109 1 #[(0,iV x0_)]).run Tryz.prog w=.ok (.slice (some ⟨w.heap.size,0,none⟩) 1 1) (w.alloc (.cells #[iV x0_] 3)):=by kernel_rfl
theorem nS (x0_0_:Int)(x0_1_0_:Int)(x0_1_1_:Int)(x0_1_2_:ByteArray)(x0_2_:Int)(x0_3_:Int)(w:World):(Instr.buildSlice 115 1 #[(0,.agg #[iV x0_0_,iV x0_1_0_,iV x0_1_1_,.string x0_1_2_,iV x0_2_,iV x0_3_])]).run Tryz.prog w=.ok (.slice (some ⟨w.heap.size,0,none⟩) 1 1) (w.alloc (.cells #[iV x0_0_,iV x0_1_0_,iV x0_1_1_,.string x0_1_2_,iV x0_2_,iV x0_3_] 114)):=by kernel_rfl
theorem yL:mL Tryz.prog 3 1 8=true:=by kernel_rfl
theorem tT:mL Tryz.prog 29 3 32=true:=by kernel_rfl
theorem yx:mL Tryz.prog 37 6 80=true:=by kernel_rfl
theorem xV:mL Tryz.prog 44 3 32=true:=by kernel_rfl
theorem yw:mL Tryz.prog 52 13 136=true:=by kernel_rfl
theorem xW:mL Tryz.prog 114 6 56=true:=by kernel_rfl
instance:Fc (eD Tryz.prog 3=true):=⟨cX⟩
instance:Fc (eD Tryz.prog 4=true):=⟨rV⟩
instance:Fc (eD Tryz.prog 9=true):=⟨wT⟩
instance:Fc (eD Tryz.prog 22=true):=⟨ob⟩
instance:Fc (eD Tryz.prog 35=true):=⟨eR⟩
instance:Fc (eD Tryz.prog 49=true):=⟨jr⟩
instance:Fc (eD Tryz.prog 64=true):=⟨wx⟩
instance:Fc (eD Tryz.prog 94=true):=⟨sG⟩
instance:Fc (eD Tryz.prog 97=true):=⟨qh⟩
instance:Fc (eD Tryz.prog 109=true):=⟨wV⟩
instance:Fc (eD Tryz.prog 115=true):=⟨kl⟩
instance:Fc (eD Tryz.prog 116=true):=⟨rW⟩
instance:Fc (eD Tryz.prog 141=true):=⟨wU⟩
instance:FcA0 Tryz.prog 27 0:=⟨vW⟩
instance:FcA Tryz.prog 27 1 1:=⟨vV⟩
instance:FcA Tryz.prog 27 2 2:=⟨vU⟩
instance:FcA Tryz.prog 27 3 3:=⟨sO⟩
instance:FcA Tryz.prog 27 4 4:=⟨vT⟩
instance:FcA Tryz.prog 27 5 5:=⟨vS⟩
instance:FcA Tryz.prog 27 6 6:=⟨vR⟩
instance:FcA0 Tryz.prog 29 0:=⟨iL⟩
instance:FcA Tryz.prog 29 1 1:=⟨nh⟩
instance:FcA Tryz.prog 29 2 2:=⟨vQ⟩
instance:FcA0 Tryz.prog 37 0:=⟨qL⟩
instance:FcA Tryz.prog 37 1 1:=⟨iK⟩
instance:FcA Tryz.prog 37 2 2:=⟨sN⟩
instance:FcA Tryz.prog 37 3 3:=⟨iJ⟩
instance:FcA Tryz.prog 37 4 4:=⟨eP⟩
instance:FcA Tryz.prog 37 5 5:=⟨qK⟩
instance:FcA0 Tryz.prog 44 0:=⟨vP⟩
instance:FcA Tryz.prog 44 1 1:=⟨sM⟩
instance:FcA Tryz.prog 44 2 2:=⟨qJ⟩
instance:FcA0 Tryz.prog 46 0:=⟨vO⟩
instance:FcA Tryz.prog 46 1 1:=⟨vN⟩
instance:FcA Tryz.prog 46 2 2:=⟨vM⟩
instance:FcA Tryz.prog 46 3 5:=⟨vL⟩
instance:FcA Tryz.prog 46 4 8:=⟨vK⟩
instance:FcA0 Tryz.prog 52 0:=⟨oX⟩
instance:FcA Tryz.prog 52 1 3:=⟨qI⟩
instance:FcA Tryz.prog 52 2 4:=⟨sL⟩
instance:FcA Tryz.prog 52 3 7:=⟨oW⟩
instance:FcA Tryz.prog 52 4 10:=⟨oV⟩
instance:FcA Tryz.prog 67 1 1:=⟨sK⟩
instance:FcA0 Tryz.prog 73 0:=⟨sJ⟩
instance:FcA Tryz.prog 73 1 3:=⟨sI⟩
instance:FcA Tryz.prog 73 3 11:=⟨gw⟩
instance:FcA Tryz.prog 73 4 12:=⟨vJ⟩
instance:FcA Tryz.prog 73 6 14:=⟨vI⟩
instance:FcA0 Tryz.prog 88 0:=⟨dI⟩
instance:FcA Tryz.prog 88 1 6:=⟨kq⟩
instance:FcA Tryz.prog 88 2 7:=⟨sH⟩
instance:FcA0 Tryz.prog 96 0:=⟨qH⟩
instance:FcA Tryz.prog 96 1 1:=⟨vH⟩
instance:FcA0 Tryz.prog 99 0:=⟨qG⟩
instance:FcA Tryz.prog 99 1 2:=⟨qF⟩
instance:FcA Tryz.prog 99 3 4:=⟨ng⟩
instance:FcA0 Tryz.prog 114 0:=⟨py⟩
instance:FcA Tryz.prog 114 1 1:=⟨ni⟩
instance:FcA Tryz.prog 114 2 4:=⟨lj⟩
instance:FcA Tryz.prog 114 3 5:=⟨px⟩
instance:FcA0 Tryz.prog 118 0:=⟨jZ⟩
instance:FcA Tryz.prog 118 1 1:=⟨pw⟩
instance:FcA0 Tryz.prog 143 0:=⟨ue⟩
theorem qk:Tryz.prog.eqGuardType Tryz.prog.depth 29=false:=by kernel_rfl
theorem sQ (x y:zT)(w:World):(Op.equalIn 10000 29 (.agg #[iV x.Kind,iV x.N,.string x.S]) (.agg #[iV y.Kind,iV y.N,.string y.S])).run Tryz.prog w=.ok (decide (x=y)) w:=by
 obtain ⟨xKind,xN,xS⟩:=x;obtain ⟨yKind,yN,yS⟩:=y;show (Op.equalIn 10000 29 (.agg #[iV xKind,iV xN,.string xS]) (.agg #[iV yKind,iV yN,.string yS])).run Tryz.prog w=_
 go_simp
 simp only [pJ];by_cases h0:xKind=yKind<;>by_cases h1:xN=yN<;>by_cases h2:xS=yS<;>simp [h0,h1,h2]
theorem pz {s:bx}{C:World→Prop}{d:Option Nat}{ty u:TypeId}{pos:String}{af:Array Edge}{gd:Option (Nat×Bool)}{a b:Operand}{x y:zT}(hx:bE s a=some (.agg #[iV x.Kind,iV x.N,.string x.S]))(hy:bE s b=some (.agg #[iV y.Kind,iV y.N,.string y.S])):Ev Tryz.prog s C ⟨d,.binOp .eql 29 a b u,ty,pos,af,gd⟩ (.bool (decide (x=y))):=
 cN hx hy fun w=>by
  rw [Sem.run_bind,run_eqGuard_agg w _ _ _ _ _ _ qk];simp only [Result.andThen_ok];rw [run_eql_struct,sQ];rfl
theorem ql {s:bx}{C:World→Prop}{d:Option Nat}{ty u:TypeId}{pos:String}{af:Array Edge}{gd:Option (Nat×Bool)}{a b:Operand}{x y:zT}(hx:bE s a=some (.agg #[iV x.Kind,iV x.N,.string x.S]))(hy:bE s b=some (.agg #[iV y.Kind,iV y.N,.string y.S])):Ev Tryz.prog s C ⟨d,.binOp .neq 29 a b u,ty,pos,af,gd⟩ (.bool (!decide (x=y))):=
 cN hx hy fun w=>by
  rw [Sem.run_bind,run_eqGuard_agg w _ _ _ _ _ _ qk];simp only [Result.andThen_ok];rw [run_neq_struct,sQ];rfl
theorem tx:Tryz.prog.eqGuardType Tryz.prog.depth 44=false:=by kernel_rfl
theorem vZ (x y:zV)(w:World):(Op.equalIn 10000 44 (.agg #[iV x.Kind,iV x.N,.string x.S]) (.agg #[iV y.Kind,iV y.N,.string y.S])).run Tryz.prog w=.ok (decide (x=y)) w:=by
 obtain ⟨xKind,xN,xS⟩:=x;obtain ⟨yKind,yN,yS⟩:=y;show (Op.equalIn 10000 44 (.agg #[iV xKind,iV xN,.string xS]) (.agg #[iV yKind,iV yN,.string yS])).run Tryz.prog w=_
 go_simp
 simp only [pJ];by_cases h0:xKind=yKind<;>by_cases h1:xN=yN<;>by_cases h2:xS=yS<;>simp [h0,h1,h2]
theorem uh {s:bx}{C:World→Prop}{d:Option Nat}{ty u:TypeId}{pos:String}{af:Array Edge}{gd:Option (Nat×Bool)}{a b:Operand}{x y:zV}(hx:bE s a=some (.agg #[iV x.Kind,iV x.N,.string x.S]))(hy:bE s b=some (.agg #[iV y.Kind,iV y.N,.string y.S])):Ev Tryz.prog s C ⟨d,.binOp .eql 44 a b u,ty,pos,af,gd⟩ (.bool (decide (x=y))):=
 cN hx hy fun w=>by
  rw [Sem.run_bind,run_eqGuard_agg w _ _ _ _ _ _ tx];simp only [Result.andThen_ok];rw [run_eql_struct,vZ];rfl
theorem uk (x y:zQ)(w:World):(Op.equalIn 10000 154 (.agg #[iV x.up_,iV x.key_.Kind,iV x.key_.N,.string x.key_.S,iV x.attrs_]) (.agg #[iV y.up_,iV y.key_.Kind,iV y.key_.N,.string y.key_.S,iV y.attrs_])).run Tryz.prog w=.ok (decide (x=y)) w:=by
 obtain ⟨xup_,⟨xkey_Kind,xkey_N,xkey_S⟩,xattrs_⟩:=x;obtain ⟨yup_,⟨ykey_Kind,ykey_N,ykey_S⟩,yattrs_⟩:=y;show (Op.equalIn 10000 154 (.agg #[iV xup_,iV xkey_Kind,iV xkey_N,.string xkey_S,iV xattrs_]) (.agg #[iV yup_,iV ykey_Kind,iV ykey_N,.string ykey_S,iV yattrs_])).run Tryz.prog w=_
 go_simp
 simp only [pJ];by_cases h0:xup_=yup_
 rotate_left
 ·simp [h0]
 by_cases h1:xkey_Kind=ykey_Kind
 rotate_left
 ·simp [h0,h1]
 by_cases h2:xkey_N=ykey_N
 rotate_left
 ·simp [h0,h1,h2]
 by_cases h3:xkey_S=ykey_S
 rotate_left
 ·simp [h0,h1,h2,h3]
 by_cases h4:xattrs_=yattrs_
 rotate_left
 ·simp [h0,h1,h2,h3,h4]
 simp [h0,h1,h2,h3,h4]
def aJ (x:zQ):Value:=.agg #[iV x.up_,iV x.key_.Kind,iV x.key_.N,.string x.key_.S,iV x.attrs_]
theorem pt:KeyOk Tryz.prog 154 aJ where
 und:=⟨_,Tryz.underlying154,fun a b=> .inl rfl⟩
 eq:=fun a b w=>uk a b w
 check:=fun e a w=>by
  obtain ⟨xup_,⟨xkey_Kind,xkey_N,xkey_S⟩,xattrs_⟩:=a;kernel_rfl
 bits:=fun a=>by
  obtain ⟨xup_,⟨xkey_Kind,xkey_N,xkey_S⟩,xattrs_⟩:=a;simp [aJ,Instr.sameBits,sq]
def cn (N:Nat)(a0:Int)(a1:Int)(a2:Int):Option Bool:=
 (bif decide (a1≤a0) then (some (decide (a0≤a2))) else (some false)).bind fun b1=>some b1
theorem cB {N:Nat}{a0:Int}{a1:Int}{a2:Int}{r:Bool}(h:cn N a0 a1 a2=some r):Okc Tryz.prog 60 [iV a0,iV a1,iV a2] ([]) (fun u post=>u=.bool r∧post=[]):=by
 refine bm Tryz.func60 J J ?_;simp only [aP];refine I ?_;obtain ⟨b1,hb1,h⟩:=aa h;refine az 4 14 b1 ?_ ?_
 ·clear h;refine ay 10 J (fun g1=> ?_) (fun g1=> ?_)
  ·have h:=ag g1 hb1;refine I ?_;obtain rfl:=ak h;exact ac sA (cS [] 0)
  have h:=ah g1 hb1;refine I ?_;obtain rfl:=ak h;exact ac sA (cS [] 0)
 refine I ?_;obtain rfl:=ak h;exact aF J J (cS [] 0) ⟨J,J⟩
theorem cb {r:Bool}: ∀v post,((fun (u:Value) (post:List Chunk)=>u=.bool r∧post=[])) v post→ ∀c∈post,bJ c:=by
 rintro _ _ ⟨rfl,rfl⟩;exact ae
def lY (N:Nat)(a0:zG):Option Bool:=
 (cn N a0.Way 0 1).bind fun y2=>(bif y2 then ((cn N a0.Steps 0 1073741824).bind fun y4=>some y4) else (some false)).bind fun b3=>(bif b3 then ((cn N a0.Calls 1 200).bind fun y6=>some y6) else (some false)).bind fun b5=>(bif b5 then ((cn N a0.Made 0 1048576).bind fun y8=>some y8) else (some false)).bind fun b7=>(bif b7 then ((cn N a0.Young 0 1073741824).bind fun y10=>some y10) else (some false)).bind fun b9=>(bif b9 then ((cn N a0.Full 0 1073741824).bind fun y12=>some y12) else (some false)).bind fun b11=>(bif b11 then ((cn N a0.Sites 0 4).bind fun y14=>some y14) else (some false)).bind fun b13=>some b13
theorem o9 {N:Nat}{a0:zG}{r:Bool}(h:lY N a0=some r):Okc Tryz.prog 26 [.agg #[iV a0.Way,iV a0.Steps,iV a0.Calls,iV a0.Made,iV a0.Young,iV a0.Full,iV a0.Sites]] ([]) (fun u post=>u=.bool r∧post=[]):=by
 refine bm Tryz.func26 J J ?_;simp only [aP];refine I ?_;refine gD (aO J J) ?_;rintro _ _ ⟨B1,rfl,rfl⟩;refine I ?_;obtain ⟨y2,hy2,h⟩:=aa h;refine gD (fG (cB hy2) mJ J J J (ae) cb) ?_;rintro _ _ ⟨_,⟨rfl,rfl⟩,rfl⟩;refine I ?_;obtain ⟨b3,hb3,h⟩:=aa h;refine az 5 13 b3 ?_ ?_
 ·clear h;refine ay 8 J (fun g3=> ?_) (fun g3=> ?_)
  ·have h:=ag g3 hb3;refine I ?_;obtain ⟨y4,hy4,h⟩:=aa h;refine ck (fG (cB hy4) mJ J J J (ae) cb) J (aK g3 J) J ?_;rintro _ _ ⟨_,⟨rfl,rfl⟩,rfl⟩;refine I ?_;obtain rfl:=ak h;exact ac sA (cS [0] 1)
  have h:=ah g3 hb3;refine I ?_;obtain rfl:=ak h;exact ac sA (cS [0] 1)
 refine I ?_;obtain ⟨b5,hb5,h⟩:=aa h;refine az 5 19 b5 ?_ ?_
 ·clear h;refine ay 14 J (fun g5=> ?_) (fun g5=> ?_)
  ·have h:=ag g5 hb5;refine I ?_;obtain ⟨y6,hy6,h⟩:=aa h;refine ck (fG (cB hy6) mJ J J J (ae) cb) J (aK g5 J) J ?_;rintro _ _ ⟨_,⟨rfl,rfl⟩,rfl⟩;refine I ?_;obtain rfl:=ak h;exact ac sA (cS [0] 1)
  have h:=ah g5 hb5;refine I ?_;obtain rfl:=ak h;exact ac sA (cS [0] 1)
 refine I ?_;obtain ⟨b7,hb7,h⟩:=aa h;refine az 5 25 b7 ?_ ?_
 ·clear h;refine ay 20 J (fun g7=> ?_) (fun g7=> ?_)
  ·have h:=ag g7 hb7;refine I ?_;obtain ⟨y8,hy8,h⟩:=aa h;refine ck (fG (cB hy8) mJ J J J (ae) cb) J (aK g7 J) J ?_;rintro _ _ ⟨_,⟨rfl,rfl⟩,rfl⟩;refine I ?_;obtain rfl:=ak h;exact ac sA (cS [0] 1)
  have h:=ah g7 hb7;refine I ?_;obtain rfl:=ak h;exact ac sA (cS [0] 1)
 refine I ?_;obtain ⟨b9,hb9,h⟩:=aa h;refine az 5 31 b9 ?_ ?_
 ·clear h;refine ay 26 J (fun g9=> ?_) (fun g9=> ?_)
  ·have h:=ag g9 hb9;refine I ?_;obtain ⟨y10,hy10,h⟩:=aa h;refine ck (fG (cB hy10) mJ J J J (ae) cb) J (aK g9 J) J ?_;rintro _ _ ⟨_,⟨rfl,rfl⟩,rfl⟩;refine I ?_;obtain rfl:=ak h;exact ac sA (cS [0] 1)
  have h:=ah g9 hb9;refine I ?_;obtain rfl:=ak h;exact ac sA (cS [0] 1)
 refine I ?_;obtain ⟨b11,hb11,h⟩:=aa h;refine az 5 37 b11 ?_ ?_
 ·clear h;refine ay 32 J (fun g11=> ?_) (fun g11=> ?_)
  ·have h:=ag g11 hb11;refine I ?_;obtain ⟨y12,hy12,h⟩:=aa h;refine ck (fG (cB hy12) mJ J J J (ae) cb) J (aK g11 J) J ?_;rintro _ _ ⟨_,⟨rfl,rfl⟩,rfl⟩;refine I ?_;obtain rfl:=ak h;exact ac sA (cS [0] 1)
  have h:=ah g11 hb11;refine I ?_;obtain rfl:=ak h;exact ac sA (cS [0] 1)
 refine I ?_;obtain ⟨b13,hb13,h⟩:=aa h;refine az 5 43 b13 ?_ ?_
 ·clear h;refine ay 38 J (fun g13=> ?_) (fun g13=> ?_)
  ·have h:=ag g13 hb13;refine I ?_;obtain ⟨y14,hy14,h⟩:=aa h;refine ck (fG (cB hy14) mJ J J J (ae) cb) J (aK g13 J) J ?_;rintro _ _ ⟨_,⟨rfl,rfl⟩,rfl⟩;refine I ?_;obtain rfl:=ak h;exact ac sA (cS [0] 1)
  have h:=ah g13 hb13;refine I ?_;obtain rfl:=ak h;exact ac sA (cS [0] 1)
 refine I ?_;obtain rfl:=ak h;exact aF J J (cS [] 1) ⟨J,J⟩
theorem nD {r:Bool}: ∀v post,((fun (u:Value) (post:List Chunk)=>u=.bool r∧post=[])) v post→ ∀c∈post,bJ c:=by
 rintro _ _ ⟨rfl,rfl⟩;exact ae
def mS (N:Nat):Option zJ:=
 some (⟨([]:(List (Int×Bool)))⟩:zJ)
theorem pR {N:Nat}{r:zJ}(h:mS N=some r):Okc Tryz.prog 61 [] ([]) (fun u post=> ∃B0 M1,u=pV B0 0∧post=[al B0 143 [.map (some M1)],aQ dc dj M1 r.at_]):=by
 refine bm Tryz.func61 J J ?_;simp only [aP];refine I ?_;refine gD (ph (ek:=dc) (ev:=dj)) ?_;rintro _ _ ⟨M1,rfl,rfl⟩;refine gE (aI J (tJ _)) ?_;refine gD (aO J J) ?_;rintro _ _ ⟨B2,rfl,rfl⟩;refine I ?_;obtain rfl:=ak h;exact aF J J (cS [0,1] 2) ⟨_,_,J,J⟩
def pu (N:Nat):Option zI:=
 (mS N).bind fun y1=>some (⟨(⟨[],[]⟩:zH),[],[],y1⟩:zI)
theorem rx {N:Nat}{r:zI}(h:pu N=some r):Okc Tryz.prog 27 [] ([]) (fun u post=> ∃B0 A1 n1 c1 A2 n2 c2 A3 n3 c3 A4 n4 c4 B5 M6,u=pV B0 0∧post=[al B0 99 [Y A1 n1 c1,Y A2 n2 c2,Y A3 n3 c3,Y A4 n4 c4,pV B5 0],bL A1 n1 c1 r.m_.Young,bL A2 n2 c2 r.m_.Old,aY A3 n3 c3 r.roots_,aY A4 n4 c4 r.pending_,al B5 143 [.map (some M6)],aQ dc dj M6 r.set_.at_]):=by
 refine bm Tryz.func27 J J ?_;simp only [aP];refine I ?_;obtain ⟨y1,hy1,h⟩:=aa h;refine gD (aG (pR hy1) xB J (aE [] [] [] 0 J)) ?_;rintro _ _ ⟨_,⟨B2,M3,rfl,rfl⟩,rfl⟩;refine gE (aI J (uR _)) ?_;refine gD (aO J J) ?_;rintro _ _ ⟨B4,rfl,rfl⟩;refine I ?_;obtain rfl:=ak h;exact aF J J ((dB kZ 37 _).trans ((dB kZ 37 _).trans ((dB bw 29 _).trans ((dB bw 29 _).trans (cS [4,3,2,1,0,5,6] 7))))) ⟨_,_,_,_,_,_,_,_,_,_,_,_,_,_,_,J,J⟩
def nX (N:Nat):Option zX:=
 some (⟨([(⟨(-1),(⟨0,0,⟨#[]⟩⟩:zV),0,0⟩:zN)]:List zN),([]:(List (zQ×Int)))⟩:zX)
theorem qu {N:Nat}{r:zX}(h:nX N=some r):Okc Tryz.prog 28 [] ([]) (fun u post=> ∃B0 A1 n1 c1 M2,u=pV B0 0∧post=[al B0 118 [Y A1 n1 c1,.map (some M2)],dG A1 n1 c1 r.shapes_,aQ aJ di M2 r.next_]):=by
 refine bm Tryz.func28 J J ?_;simp only [aP];refine I ?_;refine gE (aI J (tK _)) ?_;refine gD (bS (R:=lG) (vss:=[[iV (-1),iV 0,iV 0,.string (⟨#[]⟩),iV 0,iV 0]]) (xs:=[(⟨(-1),(⟨0,0,⟨#[]⟩⟩:zV),0,0⟩:zN)]) J (nS _ _ _ _ _ _) J J (fun _ _ hr=> .cons J All2.nil)) ?_;rintro _ _ ⟨A1,n1,c1,rfl,rfl⟩;refine gD (ph (ek:=aJ) (ev:=di)) ?_;rintro _ _ ⟨M2,rfl,rfl⟩;refine gE (aI J (rI _ _ _ _)) ?_;refine gD (aO J J) ?_;rintro _ _ ⟨B3,rfl,rfl⟩;refine I ?_;obtain rfl:=ak h;exact aF J J (cS [0,2,1] 3) ⟨_,_,_,_,_,J,J⟩
def cm (N:Nat)(a0:zI):Option Bool:=
 some false
theorem cC {N:Nat}{a0:zI}{r:Bool}(h:cm N a0=some r):Okc Tryz.prog 50 [pV B1 0] ([bg B1 99 [Y A2 n2 c2,Y A3 n3 c3,Y A4 n4 c4,Y A5 n5 c5,pV B6 0],mi A2 n2 c2 a0.m_.Young,mi A3 n3 c3 a0.m_.Old,cw A4 n4 c4 a0.roots_,cw A5 n5 c5 a0.pending_,bg B6 143 [.map (some M7)],eW dc dj M7 a0.set_.at_]) (fun u post=>u=.bool r∧post=[]):=by
 refine bm Tryz.func50 J J ?_;simp only [aP];refine I ?_;refine gE (ci J Tryz.underlying49) ?_;refine I ?_;refine gR (bH 0 J J qh J) ?_;refine gE (ci J Tryz.underlying97) ?_;refine I ?_;obtain rfl:=ak h;exact aF J J (cS [] 7) ⟨J,J⟩
theorem cg {r:Bool}: ∀v post,((fun (u:Value) (post:List Chunk)=>u=.bool r∧post=[])) v post→ ∀c∈post,bJ c:=by
 rintro _ _ ⟨rfl,rfl⟩;exact ae
def dR (N:Nat)(a0:zI)(a1:Int):Option zT:=
 (cm N a0).bind fun y9=>(bif y9 then (some true) else (some (decide (a1<0)))).bind fun b10=>(bif b10 then (some true) else (some (decide ((a0.roots_.length:Int)≤a1)))).bind fun b11=>bif b11 then (some (⟨0,0,⟨#[]⟩⟩:zT)) else ((cj a0.roots_ a1).bind fun x13=>some x13)
theorem eu {N:Nat}{a0:zI}{a1:Int}{r:zT}(h:dR N a0 a1=some r):Okc Tryz.prog 32 [pV B1 0,iV a1] ([bg B1 99 [Y A2 n2 c2,Y A3 n3 c3,Y A4 n4 c4,Y A5 n5 c5,pV B6 0],mi A2 n2 c2 a0.m_.Young,mi A3 n3 c3 a0.m_.Old,cw A4 n4 c4 a0.roots_,cw A5 n5 c5 a0.pending_,bg B6 143 [.map (some M7)],eW dc dj M7 a0.set_.at_]) (fun u post=>u=.agg #[iV r.Kind,iV r.N,.string r.S]∧post=[]):=by
 refine bm Tryz.func32 J J ?_;simp only [aP];refine I ?_;refine gD (aM cP J) ?_;rintro _ _ ⟨B8,rfl,rfl⟩;refine I ?_;refine ax ?_;refine I ?_;obtain ⟨y9,hy9,h⟩:=aa h;refine gD (aj (cC hy9) nQ J (hD (ai (i:=1) J J) (hD (ai (i:=2) J J) (hD (ai (i:=3) J J) (hD (ai (i:=4) J J) (hD (ai (i:=5) J J) (hD (ai (i:=6) J J) (hD (ai (i:=7) J J) ae))))))) cg) ?_;rintro _ _ ⟨_,⟨rfl,rfl⟩,rfl⟩;refine I ?_;obtain ⟨b10,hb10,h⟩:=aa h;refine az 3 10 b10 ?_ ?_
 ·clear h;refine ay 7 J (fun g10=> ?_) (fun g10=> ?_)
  ·have h:=ag g10 hb10;refine I ?_;obtain rfl:=ak h;exact ac sA (cS [0,1,2,3,4,5,6,7] 8)
  have h:=ah g10 hb10;refine I ?_;obtain rfl:=ak h;exact ac sA (cS [0,1,2,3,4,5,6,7] 8)
 refine I ?_;obtain ⟨b11,hb11,h⟩:=aa h;refine az 8 19 b11 ?_ ?_
 ·clear h;refine ay 11 J (fun g11=> ?_) (fun g11=> ?_)
  ·have h:=ag g11 hb11;refine I ?_;obtain rfl:=ak h;exact ac sA (cS [0,1,2,3,4,5,6,7] 8)
  have h:=ah g11 hb11;refine I ?_;refine bC (bH 1 J J eR J) J (eI g11 J) J ?_;refine bC (bz 4 J aH J hE) J (eI g11 J) J ?_;refine I ?_;obtain rfl:=ak h;exact ac sA (cS [0,1,2,3,4,5,6,7] 8)
 refine I ?_;refine ar J (fun g12=> ?_) (fun g12=> ?_)
 ·replace h:=ag g12 h;refine I ?_;refine gE (aI J (cu)) ?_;refine gO (ap (us:=[iV 0,iV 0,.string (⟨#[]⟩)]) (cs':=[iV 0,iV 0,.string (⟨#[]⟩)]) 0 J J J J aN J J J) ?_;rintro _ _ rfl;refine I ?_;obtain rfl:=ak h;exact bM (rs:=[.cell 4 29]) (vs:=[.agg #[iV 0,iV 0,.string (⟨#[]⟩)]]) J (.cons (bf 0 J J aL) .nil) J (cS [] 8) ⟨J,J⟩
 replace h:=ah g12 h;refine I ?_;refine gR (bH 1 J J eR J) ?_;refine I ?_;obtain ⟨x13,hx13,h⟩:=aa h;obtain ⟨lx13,ux13,hx13⟩:=aD hx13;refine gR (bh 4 J aH J J hE aN lx13 ux13) ?_;refine gR (bo (us:=[iV x13.Kind,iV x13.N,.string x13.S]) 4 J aH J hx13 aL (fun _ _ _ h=>by rw [show _=_ from h];rfl)) ?_;refine gO (ap (us:=[iV x13.Kind,iV x13.N,.string x13.S]) (cs':=[iV x13.Kind,iV x13.N,.string x13.S]) 0 J J J J aN J J J) ?_;rintro _ _ rfl;refine I ?_;obtain rfl:=ak h;exact bM (rs:=[.cell 4 29]) (vs:=[.agg #[iV x13.Kind,iV x13.N,.string x13.S]]) J (.cons (bf 0 J J aL) .nil) J (cS [] 8) ⟨J,J⟩
theorem dH {r:zT}: ∀v post,((fun (u:Value) (post:List Chunk)=>u=.agg #[iV r.Kind,iV r.N,.string r.S]∧post=[])) v post→ ∀c∈post,bJ c:=by
 rintro _ _ ⟨rfl,rfl⟩;exact ae
def ii (N:Nat){σ:Type}(fy:(Bool×zT)→σ→Option (Bool×σ))(a1:zL):Nat→Int→σ→Option σ
 |0,_,_=>none
 |m15+1,p16,p17=>bif decide (p16<(a1.More.length:Int)) then ((cj a1.More p16).bind fun x19=>(bif !decide (a1.Kind=8) then ((bif !decide (a1.Kind=10) then (some true) else (some (decide (p16.tmod 2=0)))).bind fun b22=>some b22) else (some false)).bind fun b21=>(fy (b21,x19) p17).bind fun y23=>bif !y23.1 then (some y23.2) else (dX (cc (p16+1)) ((ii N fy a1 m15) (p16+1) y23.2))) else (some p17)
def lu (N:Nat){σ:Type}(fy:(Bool×zT)→σ→Option (Bool×σ))(a1:zL)(p5:σ):Option σ:=
 ii N fy a1 N 0 p5
def jh (N:Nat){σ:Type}(fy:(Bool×zT)→σ→Option (Bool×σ))(a1:zL):Nat→Int→σ→Option σ
 |0,_,_=>none
 |m6+1,p7,p8=>bif decide (p7<(a1.Slots.length:Int)) then ((cj a1.Slots p7).bind fun x10=>(fy (true,x10) p8).bind fun y12=>bif !y12.1 then (some y12.2) else (dX (cc (p7+1)) ((jh N fy a1 m6) (p7+1) y12.2))) else (lu N fy a1 p8)
def jL (N:Nat){σ:Type}(a1:zL)(fy:(Bool×zT)→σ→Option (Bool×σ))(s0:σ):Option σ:=
 jh N fy a1 N 0 s0
theorem ls {N:Nat}{σ:Type}{a1:zL}{fy:(Bool×zT)→σ→Option (Bool×σ)}{s0:σ}{r:σ}(h:jL N a1 fy s0=some r){l:Nat}{G:σ→List Chunk}(hY:lO Tryz.prog l G (fun x=> [.bool x.1,.agg #[iV x.2.Kind,iV x.2.N,.string x.2.S]]) fy):Okc Tryz.prog 104 [.func (.yield l) #[] #[],pV B1 0] (bg B1 37 [iV a1.Kind,iV a1.Shape,iV a1.Flags,iV a1.Age,Y A2 n2 c2,Y A3 n3 c3]::cw A2 n2 c2 a1.Slots::cw A3 n3 c3 a1.More::(G s0)) (fun u post=>u=.tuple #[]∧post=G r):=by
 refine bm Tryz.func104 J J ?_;simp only [aP];refine aW (fun s L=> ∃p5,lu N fy a1 p5=some r∧s=[(0,.func (.yield l) #[] #[]),(1,pV B1 0)]∧L=cw A2 n2 c2 a1.Slots::cw A3 n3 c3 a1.More::bg B1 37 [iV a1.Kind,iV a1.Shape,iV a1.Flags,iV a1.Age,Y A2 n2 c2,Y A3 n3 c3]::(G p5)) ?_ ?_
 ·refine I ?_;refine gR (bH 0 J J eR J) ?_;refine gR (bz 1 J aH J hE) ?_;refine I ?_;refine cO (fun m s L=> ∃p7 p8,jh N fy a1 m p7 p8=some r∧s=[(0,.func (.yield l) #[] #[]),(1,pV B1 0),(9,Y A2 n2 c2),(10,iV (a1.Slots.length:Int)),(11,iV p7)]∧L=cw A2 n2 c2 a1.Slots::cw A3 n3 c3 a1.More::bg B1 37 [iV a1.Kind,iV a1.Shape,iV a1.Flags,iV a1.Age,Y A2 n2 c2,Y A3 n3 c3]::(G p8)) N _ _ ⟨0,s0,h,J,J⟩ sA (cS [1,2,0] 3) ?_;rintro (_|m6) _ _ ⟨p7,p8,h,rfl,rfl⟩
  ·exact bu h
  rw [jh.eq_2] at h;refine I ?_;refine ax ?_;refine ar J (fun g9=> ?_) (fun g9=> ?_)
  ·replace h:=ag g9 h;refine I ?_;refine ax ?_;refine I ?_;obtain ⟨x10,hx10,h⟩:=aa h;obtain ⟨lx10,ux10,hx10⟩:=aD hx10;refine gR (bh 0 J aH J J hE aN lx10 ux10) ?_;refine gR (bo (us:=[iV x10.Kind,iV x10.N,.string x10.S]) 0 J aH J hx10 aL (fun _ _ _ h=>by rw [show _=_ from h];rfl)) ?_;refine gD (aM cP J) ?_;rintro _ _ ⟨B11,rfl,rfl⟩;refine gO (ap (us:=[iV x10.Kind,iV x10.N,.string x10.S]) (cs':=[iV x10.Kind,iV x10.N,.string x10.S]) 0 J J J J aN J J J) ?_;rintro _ _ rfl;refine I ?_;refine gR (am (us:=[iV x10.Kind,iV x10.N,.string x10.S]) 0 J J aL J) ?_;obtain ⟨y12,hy12,h⟩:=aa h;refine gD (qg (a:=(true,x10)) [al B11 29 [iV x10.Kind,iV x10.N,.string x10.S],cw A2 n2 c2 a1.Slots,cw A3 n3 c3 a1.More,bg B1 37 [iV a1.Kind,iV a1.Shape,iV a1.Flags,iV a1.Age,Y A2 n2 c2,Y A3 n3 c3]] hY hy12 J J) ?_;rintro _ _ ⟨rfl,rfl⟩;refine I ?_;refine ar J (fun g13=> ?_) (fun g13=> ?_)
   ·replace h:=ag g13 h;refine I ?_;obtain rfl:=ak h;exact ul J (cS [] 4) ⟨J,J⟩
   replace h:=ah g13 h;refine I ?_;obtain ⟨q14,h⟩:=aB h;refine gE (cf J J q14.1 q14.2) ?_;refine I ?_;exact ⟨m6,_,_,z1 _,⟨p7+1,y12.2,h,J,J⟩,sA,cS [1,2,3] 4⟩
  replace h:=ah g9 h;refine I ?_;exact ⟨_,_,⟨p8,h,J,J⟩,sA,cS [0,1,2] 3⟩
 rintro _ _ ⟨p5,h,rfl,rfl⟩;refine I ?_;refine gR (bH 2 J J eR J) ?_;refine gR (bz 1 J aH J hE) ?_;refine I ?_;refine cO (fun m s L=> ∃p16 p17,ii N fy a1 m p16 p17=some r∧s=[(0,.func (.yield l) #[] #[]),(1,pV B1 0),(21,Y A3 n3 c3),(22,iV (a1.More.length:Int)),(23,iV p16)]∧L=cw A3 n3 c3 a1.More::cw A2 n2 c2 a1.Slots::bg B1 37 [iV a1.Kind,iV a1.Shape,iV a1.Flags,iV a1.Age,Y A2 n2 c2,Y A3 n3 c3]::(G p17)) N _ _ ⟨0,p5,h,J,J⟩ sA (cS [1,0,2] 3) ?_;rintro (_|m15) _ _ ⟨p16,p17,h,rfl,rfl⟩
 ·exact bu h
 rw [ii.eq_2] at h;refine I ?_;refine ax ?_;refine ar J (fun g18=> ?_) (fun g18=> ?_)
 ·replace h:=ag g18 h;refine I ?_;refine ax ?_;refine I ?_;obtain ⟨x19,hx19,h⟩:=aa h;obtain ⟨lx19,ux19,hx19⟩:=aD hx19;refine gR (bh 0 J aH J J hE aN lx19 ux19) ?_;refine gR (bo (us:=[iV x19.Kind,iV x19.N,.string x19.S]) 0 J aH J hx19 aL (fun _ _ _ h=>by rw [show _=_ from h];rfl)) ?_;refine gD (aM cP J) ?_;rintro _ _ ⟨B20,rfl,rfl⟩;refine I ?_;refine gO (ap (us:=[iV x19.Kind,iV x19.N,.string x19.S]) (cs':=[iV x19.Kind,iV x19.N,.string x19.S]) 0 J J J J aN J J J) ?_;rintro _ _ rfl;refine bQ ?_;refine I ?_;refine gR (bH 3 J J cX J) ?_;refine I ?_;obtain ⟨b21,hb21,h⟩:=aa h;refine az 9 40 b21 ?_ ?_
  ·clear h;refine ay 31 J (fun g21=> ?_) (fun g21=> ?_)
   ·have h:=ag g21 hb21;refine I ?_;refine bC (bH 3 J J cX J) J (aK g21 J) J ?_;refine I ?_;obtain ⟨b22,hb22,h⟩:=aa h;refine az 4 39 b22 ?_ ?_
    ·clear h;refine ay 35 J (fun g22=> ?_) (fun g22=> ?_)
     ·have h:=ag g22 hb22;refine I ?_;obtain rfl:=ak h;exact ac sA (cS [0,1,2,3] 4)
     have h:=ah g22 hb22;refine I ?_;refine fX (jf J J (by decide)) J (eI g22 J) J ?_;refine I ?_;obtain rfl:=ak h;exact ac sA (cS [0,1,2,3] 4)
    refine I ?_;obtain rfl:=ak h;exact ac sA (cS [0,1,2,3] 4)
   have h:=ah g21 hb21;refine I ?_;obtain rfl:=ak h;exact ac sA (cS [0,1,2,3] 4)
  refine I ?_;refine gR (am (us:=[iV x19.Kind,iV x19.N,.string x19.S]) 0 J J aL J) ?_;obtain ⟨y23,hy23,h⟩:=aa h;refine gD (qg (a:=(b21,x19)) [al B20 29 [iV x19.Kind,iV x19.N,.string x19.S],cw A3 n3 c3 a1.More,cw A2 n2 c2 a1.Slots,bg B1 37 [iV a1.Kind,iV a1.Shape,iV a1.Flags,iV a1.Age,Y A2 n2 c2,Y A3 n3 c3]] hY hy23 J J) ?_;rintro _ _ ⟨rfl,rfl⟩;refine I ?_;refine ar J (fun g24=> ?_) (fun g24=> ?_)
  ·replace h:=ag g24 h;refine I ?_;obtain rfl:=ak h;exact ul J (cS [] 4) ⟨J,J⟩
  replace h:=ah g24 h;refine I ?_;obtain ⟨q25,h⟩:=aB h;refine gE (cf J J q25.1 q25.2) ?_;refine I ?_;exact ⟨m15,_,_,z1 _,⟨p16+1,y23.2,h,J,J⟩,sA,cS [1,2,3] 4⟩
 replace h:=ah g18 h;refine I ?_;obtain rfl:=ak h;exact d8 J (cS [] 3) ⟨J,J⟩
def mG (N:Nat)(a0:zL):Option Unit:=
 some ()
theorem ot {N:Nat}{a0:zL}{r:Unit}(h:mG N a0=some r):Okc Tryz.prog 95 [.agg #[iV a0.Kind,iV a0.Shape,iV a0.Flags,iV a0.Age,Y A1 n1 c1,Y A2 n2 c2]] ([cw A1 n1 c1 a0.Slots,cw A2 n2 c2 a0.More]) (fun u post=> ∃B900,u=.func (.func 104) #[] #[pV B900 0]∧post=[al B900 37 [iV a0.Kind,iV a0.Shape,iV a0.Flags,iV a0.Age,Y A1 n1 c1,Y A2 n2 c2]]):=by
 refine bm Tryz.func95 J J ?_;simp only [aP];refine I ?_;refine gD (aO J J) ?_;rintro _ _ ⟨B3,rfl,rfl⟩;refine I ?_;refine gE (oh J) ?_;refine I ?_;obtain rfl:=ak h;exact aF J J (cS [0] 3) ⟨_,J,J⟩
theorem mn {a0:zL}{A1:Option Addr}{n1:Nat}{c1:Nat}{A2:Option Addr}{n2:Nat}{c2:Nat}: ∀v post,((fun (u:Value) (post:List Chunk)=> ∃B900,u=.func (.func 104) #[] #[pV B900 0]∧post=[al B900 37 [iV a0.Kind,iV a0.Shape,iV a0.Flags,iV a0.Age,Y A1 n1 c1,Y A2 n2 c2]])) v post→ ∀c∈post,bJ c:=by
 rintro _ _ ⟨_,rfl,rfl⟩;exact hD ne (ae)
def jx (N:Nat)(a0:zT)(p10:Bool):Option Bool:=
 bif p10 then (some (decide (1≤a0.N))) else ((bif decide (a0.N=0) then (some (decide (0≤a0.Kind))) else (some false)).bind fun b14=>(bif b14 then (some (decide (a0.Kind≤9))) else (some false)).bind fun b15=>some b15)
def pD (N:Nat)(a0:zT):Option Bool:=
 bif decide (a0.Kind=5) then ((bif decide (a0.N=0) then (some (decide ((a0.S.size:Int)≤65536))) else (some false)).bind fun b3=>some b3) else (bif !(a0.S.toList==(⟨#[]⟩:ByteArray).toList) then (some false) else (bif decide (a0.Kind=2) then ((bif decide (a0.N=0) then (some true) else (some (decide (a0.N=1)))).bind fun b6=>some b6) else (bif decide (a0.Kind=3) then ((bif decide ((-9007199254740992)≤a0.N) then (some (decide (a0.N≤9007199254740992))) else (some false)).bind fun b8=>some b8) else (bif decide (a0.Kind=6) then (jx N a0 (decide (a0.Kind=6))) else (bif decide (a0.Kind=7) then (jx N a0 (decide (a0.Kind=7))) else (jx N a0 (decide (a0.Kind=9))))))))
theorem rC {N:Nat}{a0:zT}{r:Bool}(h:pD N a0=some r):Okc Tryz.prog 96 [.agg #[iV a0.Kind,iV a0.N,.string a0.S]] ([]) (fun u post=>u=.bool r∧post=[]):=by
 refine bm Tryz.func96 J J ?_;simp only [aP];refine I ?_;refine gD (aO J J) ?_;rintro _ _ ⟨B1,rfl,rfl⟩;refine I ?_;refine ax ?_;refine I ?_;refine ar J (fun g2=> ?_) (fun g2=> ?_)
 ·replace h:=ag g2 h;refine I ?_;obtain ⟨b3,hb3,h⟩:=aa h;refine az 5 14 b3 ?_ ?_
  ·clear h;refine ay 9 J (fun g3=> ?_) (fun g3=> ?_)
   ·have h:=ag g3 hb3;refine I ?_;refine fX (nk J hH) J (aK g3 J) J ?_;refine I ?_;obtain rfl:=ak h;exact ac sA (cS [0] 1)
   have h:=ah g3 hb3;refine I ?_;obtain rfl:=ak h;exact ac sA (cS [0] 1)
  refine I ?_;obtain rfl:=ak h;exact aF J J (cS [] 1) ⟨J,J⟩
 replace h:=ah g2 h;refine I ?_;refine ax ?_;refine I ?_;refine gE (uf J J) ?_;refine I ?_;refine ar J (fun g4=> ?_) (fun g4=> ?_)
 ·replace h:=ag g4 h;refine I ?_;obtain rfl:=ak h;exact aF J J (cS [] 1) ⟨J,J⟩
 replace h:=ah g4 h;refine I ?_;refine ax ?_;refine I ?_;refine ar J (fun g5=> ?_) (fun g5=> ?_)
 ·replace h:=ag g5 h;refine I ?_;obtain ⟨b6,hb6,h⟩:=aa h;refine az 4 29 b6 ?_ ?_
  ·clear h;refine ay 25 J (fun g6=> ?_) (fun g6=> ?_)
   ·have h:=ag g6 hb6;refine I ?_;obtain rfl:=ak h;exact ac sA (cS [0] 1)
   have h:=ah g6 hb6;refine I ?_;obtain rfl:=ak h;exact ac sA (cS [0] 1)
  refine I ?_;obtain rfl:=ak h;exact aF J J (cS [] 1) ⟨J,J⟩
 replace h:=ah g5 h;refine I ?_;refine ar J (fun g7=> ?_) (fun g7=> ?_)
 ·replace h:=ag g7 h;refine I ?_;obtain ⟨b8,hb8,h⟩:=aa h;refine az 4 39 b8 ?_ ?_
  ·clear h;refine ay 35 J (fun g8=> ?_) (fun g8=> ?_)
   ·have h:=ag g8 hb8;refine I ?_;obtain rfl:=ak h;exact ac sA (cS [0] 1)
   have h:=ah g8 hb8;refine I ?_;obtain rfl:=ak h;exact ac sA (cS [0] 1)
  refine I ?_;obtain rfl:=ak h;exact aF J J (cS [] 1) ⟨J,J⟩
 replace h:=ah g7 h;refine aW (fun s L=> ∃p10,jx N a0 p10=some r∧s=[(1,pV B1 0),(2,.bool false),(40,.bool p10)]∧L=[al B1 29 [iV a0.Kind,iV a0.N,.string a0.S]]) ?_ ?_
 ·refine I ?_;refine ar J (fun g11=> ?_) (fun g11=> ?_)
  ·replace h:=ag g11 h;refine I ?_;exact ⟨_,_,⟨decide (a0.Kind=6),h,J,J⟩,sA,cS [0] 1⟩
  replace h:=ah g11 h;refine I ?_;refine ar J (fun g12=> ?_) (fun g12=> ?_)
  ·replace h:=ag g12 h;refine I ?_;exact ⟨_,_,⟨decide (a0.Kind=7),h,J,J⟩,sA,cS [0] 1⟩
  replace h:=ah g12 h;refine I ?_;exact ⟨_,_,⟨decide (a0.Kind=9),h,J,J⟩,sA,cS [0] 1⟩
 rintro _ _ ⟨p10,h,rfl,rfl⟩;refine ar J (fun g13=> ?_) (fun g13=> ?_)
 ·replace h:=ag g13 h;refine I ?_;obtain rfl:=ak h;exact aF J J (cS [] 1) ⟨J,J⟩
 replace h:=ah g13 h;refine I ?_;obtain ⟨b14,hb14,h⟩:=aa h;refine az 4 54 b14 ?_ ?_
 ·clear h;refine ay 50 J (fun g14=> ?_) (fun g14=> ?_)
  ·have h:=ag g14 hb14;refine I ?_;obtain rfl:=ak h;exact ac sA (cS [0] 1)
  have h:=ah g14 hb14;refine I ?_;obtain rfl:=ak h;exact ac sA (cS [0] 1)
 refine I ?_;obtain ⟨b15,hb15,h⟩:=aa h;refine az 4 59 b15 ?_ ?_
 ·clear h;refine ay 55 J (fun g15=> ?_) (fun g15=> ?_)
  ·have h:=ag g15 hb15;refine I ?_;obtain rfl:=ak h;exact ac sA (cS [0] 1)
  have h:=ah g15 hb15;refine I ?_;obtain rfl:=ak h;exact ac sA (cS [0] 1)
 refine I ?_;obtain rfl:=ak h;exact aF J J (cS [] 1) ⟨J,J⟩
theorem pY {r:Bool}: ∀v post,((fun (u:Value) (post:List Chunk)=>u=.bool r∧post=[])) v post→ ∀c∈post,bJ c:=by
 rintro _ _ ⟨rfl,rfl⟩;exact ae
def d3 (N:Nat)(p2:Bool):Option Bool:=
 bif p2 then (some true) else (some false)
def pE (N:Nat)(a0:Int):Option Bool:=
 bif decide (a0=1) then (d3 N (decide (a0=1))) else (bif decide (a0=2) then (d3 N (decide (a0=2))) else (bif decide (a0=3) then (d3 N (decide (a0=3))) else (bif decide (a0=6) then (d3 N (decide (a0=6))) else (bif decide (a0=8) then (d3 N (decide (a0=8))) else (bif decide (a0=9) then (d3 N (decide (a0=9))) else (d3 N (decide (a0=10))))))))
theorem rD {N:Nat}{a0:Int}{r:Bool}(h:pE N a0=some r):Okc Tryz.prog 105 [iV a0] ([]) (fun u post=>u=.bool r∧post=[]):=by
 refine bm Tryz.func105 J J ?_;simp only [aP];refine I ?_;refine ax ?_;refine I ?_;refine aW (fun s L=> ∃p2,d3 N p2=some r∧s=[(2,.bool false),(4,.bool p2)]∧L=[]) ?_ ?_
 ·refine I ?_;refine ar J (fun g3=> ?_) (fun g3=> ?_)
  ·replace h:=ag g3 h;refine I ?_;exact ⟨_,_,⟨decide (a0=1),h,J,J⟩,sA,cS [] 0⟩
  replace h:=ah g3 h;refine I ?_;refine ar J (fun g4=> ?_) (fun g4=> ?_)
  ·replace h:=ag g4 h;refine I ?_;exact ⟨_,_,⟨decide (a0=2),h,J,J⟩,sA,cS [] 0⟩
  replace h:=ah g4 h;refine I ?_;refine ar J (fun g5=> ?_) (fun g5=> ?_)
  ·replace h:=ag g5 h;refine I ?_;exact ⟨_,_,⟨decide (a0=3),h,J,J⟩,sA,cS [] 0⟩
  replace h:=ah g5 h;refine I ?_;refine ar J (fun g6=> ?_) (fun g6=> ?_)
  ·replace h:=ag g6 h;refine I ?_;exact ⟨_,_,⟨decide (a0=6),h,J,J⟩,sA,cS [] 0⟩
  replace h:=ah g6 h;refine I ?_;refine ar J (fun g7=> ?_) (fun g7=> ?_)
  ·replace h:=ag g7 h;refine I ?_;exact ⟨_,_,⟨decide (a0=8),h,J,J⟩,sA,cS [] 0⟩
  replace h:=ah g7 h;refine I ?_;refine ar J (fun g8=> ?_) (fun g8=> ?_)
  ·replace h:=ag g8 h;refine I ?_;exact ⟨_,_,⟨decide (a0=9),h,J,J⟩,sA,cS [] 0⟩
  replace h:=ah g8 h;refine I ?_;exact ⟨_,_,⟨decide (a0=10),h,J,J⟩,sA,cS [] 0⟩
 rintro _ _ ⟨p2,h,rfl,rfl⟩;refine ar J (fun g9=> ?_) (fun g9=> ?_)
 ·replace h:=ag g9 h;refine I ?_;obtain rfl:=ak h;exact aF J J (cS [] 0) ⟨J,J⟩
 replace h:=ah g9 h;refine I ?_;obtain rfl:=ak h;exact aF J J (cS [] 0) ⟨J,J⟩
theorem qa {r:Bool}: ∀v post,((fun (u:Value) (post:List Chunk)=>u=.bool r∧post=[])) v post→ ∀c∈post,bJ c:=by
 rintro _ _ ⟨rfl,rfl⟩;exact ae
def dC (N:Nat)(a0:zT)(a1:Int):Option Bool:=
 (bif decide (a0.Kind=0) then (some true) else (some (decide (a0.Kind=a1)))).bind fun b2=>some b2
theorem dS {N:Nat}{a0:zT}{a1:Int}{r:Bool}(h:dC N a0 a1=some r):Okc Tryz.prog 106 [.agg #[iV a0.Kind,iV a0.N,.string a0.S],iV a1] ([]) (fun u post=>u=.bool r∧post=[]):=by
 refine bm Tryz.func106 J J ?_;simp only [aP];refine I ?_;refine gD (aO J J) ?_;rintro _ _ ⟨B1,rfl,rfl⟩;refine I ?_;obtain ⟨b2,hb2,h⟩:=aa h;refine az 5 13 b2 ?_ ?_
 ·clear h;refine ay 8 J (fun g2=> ?_) (fun g2=> ?_)
  ·have h:=ag g2 hb2;refine I ?_;obtain rfl:=ak h;exact ac sA (cS [0] 1)
  have h:=ah g2 hb2;refine I ?_;obtain rfl:=ak h;exact ac sA (cS [0] 1)
 refine I ?_;obtain rfl:=ak h;exact aF J J (cS [] 1) ⟨J,J⟩
theorem dg {r:Bool}: ∀v post,((fun (u:Value) (post:List Chunk)=>u=.bool r∧post=[])) v post→ ∀c∈post,bJ c:=by
 rintro _ _ ⟨rfl,rfl⟩;exact ae
def jw (N:Nat)(a0:zL):Option Bool:=
 (pE N a0.Kind).bind fun y4=>(bif y4 then (some true) else ((bif decide (a0.Kind=7) then (some (decide (0<(a0.Slots.length:Int)))) else (some false)).bind fun b6=>some b6)).bind fun b5=>bif b5 then ((bif decide (1≤(a0.Slots.length:Int)) then (some (decide ((a0.Slots.length:Int)≤1025))) else (some false)).bind fun b8=>(bif b8 then ((cj a0.Slots 0).bind fun x10=>(bif decide (x10.Kind=1) then (some true) else ((cj a0.Slots 0).bind fun x12=>some (decide (x12.Kind=7)))).bind fun b11=>some b11) else (some false)).bind fun b9=>some b9) else (bif decide (a0.Kind=7) then (some (decide (a0.Shape=0))) else ((bif !decide (a0.Shape=0) then (some true) else (some (!decide (a0.Flags=0)))).bind fun b14=>bif b14 then (some false) else (bif decide (a0.Kind=5) then ((bif decide ((a0.Slots.length:Int)=2) then ((cj a0.Slots 0).bind fun x18=>(dC N x18 7).bind fun y19=>some y19) else (some false)).bind fun b17=>(bif b17 then ((cj a0.Slots 1).bind fun x21=>(dC N x21 7).bind fun y22=>some y22) else (some false)).bind fun b20=>some b20) else (some (decide ((a0.Slots.length:Int)=0))))))
theorem mF {N:Nat}{a0:zL}{r:Bool}(h:jw N a0=some r):Okc Tryz.prog 97 [.agg #[iV a0.Kind,iV a0.Shape,iV a0.Flags,iV a0.Age,Y A1 n1 c1,Y A2 n2 c2]] ([cw A1 n1 c1 a0.Slots,cw A2 n2 c2 a0.More]) (fun u post=>u=.bool r∧post=[]):=by
 refine bm Tryz.func97 J J ?_;simp only [aP];refine I ?_;refine gD (aO J J) ?_;rintro _ _ ⟨B3,rfl,rfl⟩;refine I ?_;refine ax ?_;refine I ?_;obtain ⟨y4,hy4,h⟩:=aa h;refine gD (aj (rD hy4) wj J (ae) qa) ?_;rintro _ _ ⟨_,⟨rfl,rfl⟩,rfl⟩;refine I ?_;obtain ⟨b5,hb5,h⟩:=aa h;refine az 10 16 b5 ?_ ?_
 ·clear h;refine ay 6 J (fun g5=> ?_) (fun g5=> ?_)
  ·have h:=ag g5 hb5;refine I ?_;obtain rfl:=ak h;exact ac sA (cS [0,1,2] 3)
  have h:=ah g5 hb5;refine I ?_;obtain ⟨b6,hb6,h⟩:=aa h;refine az 5 15 b6 ?_ ?_
  ·clear h;refine ay 10 J (fun g6=> ?_) (fun g6=> ?_)
   ·have h:=ag g6 hb6;refine I ?_;refine bC (bz 1 J aH J hE) J (aK g6 J) J ?_;refine I ?_;obtain rfl:=ak h;exact ac sA (cS [0,1,2] 3)
   have h:=ah g6 hb6;refine I ?_;obtain rfl:=ak h;exact ac sA (cS [0,1,2] 3)
  refine I ?_;obtain rfl:=ak h;exact ac sA (cS [0,1,2] 3)
 refine I ?_;refine ar J (fun g7=> ?_) (fun g7=> ?_)
 ·replace h:=ag g7 h;refine I ?_;refine gR (bz 1 J aH J hE) ?_;refine I ?_;obtain ⟨b8,hb8,h⟩:=aa h;refine az 5 26 b8 ?_ ?_
  ·clear h;refine ay 21 J (fun g8=> ?_) (fun g8=> ?_)
   ·have h:=ag g8 hb8;refine I ?_;refine bC (bz 1 J aH J hE) J (aK g8 J) J ?_;refine I ?_;obtain rfl:=ak h;exact ac sA (cS [0,1,2] 3)
   have h:=ah g8 hb8;refine I ?_;obtain rfl:=ak h;exact ac sA (cS [0,1,2] 3)
  refine I ?_;obtain ⟨b9,hb9,h⟩:=aa h;refine az 15 42 b9 ?_ ?_
  ·clear h;refine ay 27 J (fun g9=> ?_) (fun g9=> ?_)
   ·have h:=ag g9 hb9;refine I ?_;obtain ⟨x10,hx10,h⟩:=aa h;obtain ⟨lx10,ux10,hx10⟩:=aD hx10;refine bC (bh 1 J aH J J hE aN lx10 ux10) J (aK g9 J) J ?_;refine bC (kk 1 J aH J (aT lx10 ux10) iL) J (aK g9 J) J ?_;refine bC (cq (u:=iV x10.Kind) 1 J aH J hx10 cX (fun _ _ _ h=>by rw [show _=_ from h];rfl)) J (aK g9 J) J ?_;refine I ?_;obtain ⟨b11,hb11,h⟩:=aa h;refine az 7 41 b11 ?_ ?_
    ·clear h;refine ay 34 J (fun g11=> ?_) (fun g11=> ?_)
     ·have h:=ag g11 hb11;refine I ?_;obtain rfl:=ak h;exact ac sA (cS [0,1,2] 3)
     have h:=ah g11 hb11;refine I ?_;obtain ⟨x12,hx12,h⟩:=aa h;obtain ⟨lx12,ux12,hx12⟩:=aD hx12;refine bC (bh 1 J aH J J hE aN lx12 ux12) J (eI g11 J) J ?_;refine bC (kk 1 J aH J (aT lx12 ux12) iL) J (eI g11 J) J ?_;refine bC (cq (u:=iV x12.Kind) 1 J aH J hx12 cX (fun _ _ _ h=>by rw [show _=_ from h];rfl)) J (eI g11 J) J ?_;refine I ?_;obtain rfl:=ak h;exact ac sA (cS [0,1,2] 3)
    refine I ?_;obtain rfl:=ak h;exact ac sA (cS [0,1,2] 3)
   have h:=ah g9 hb9;refine I ?_;obtain rfl:=ak h;exact ac sA (cS [0,1,2] 3)
  refine I ?_;obtain rfl:=ak h;exact aF J J (cS [] 3) ⟨J,J⟩
 replace h:=ah g7 h;refine I ?_;refine ax ?_;refine I ?_;refine ar J (fun g13=> ?_) (fun g13=> ?_)
 ·replace h:=ag g13 h;refine I ?_;obtain rfl:=ak h;exact aF J J (cS [] 3) ⟨J,J⟩
 replace h:=ah g13 h;refine I ?_;refine ax ?_;refine I ?_;obtain ⟨b14,hb14,h⟩:=aa h;refine az 4 56 b14 ?_ ?_
 ·clear h;refine ay 52 J (fun g14=> ?_) (fun g14=> ?_)
  ·have h:=ag g14 hb14;refine I ?_;obtain rfl:=ak h;exact ac sA (cS [0,1,2] 3)
  have h:=ah g14 hb14;refine I ?_;obtain rfl:=ak h;exact ac sA (cS [0,1,2] 3)
 refine I ?_;refine ar J (fun g15=> ?_) (fun g15=> ?_)
 ·replace h:=ag g15 h;refine I ?_;obtain rfl:=ak h;exact aF J J (cS [] 3) ⟨J,J⟩
 replace h:=ah g15 h;refine I ?_;refine ax ?_;refine I ?_;refine ar J (fun g16=> ?_) (fun g16=> ?_)
 ·replace h:=ag g16 h;refine I ?_;refine gR (bz 1 J aH J hE) ?_;refine I ?_;obtain ⟨b17,hb17,h⟩:=aa h;refine az 6 70 b17 ?_ ?_
  ·clear h;refine ay 64 J (fun g17=> ?_) (fun g17=> ?_)
   ·have h:=ag g17 hb17;refine I ?_;obtain ⟨x18,hx18,h⟩:=aa h;obtain ⟨lx18,ux18,hx18⟩:=aD hx18;refine bC (bh 1 J aH J J hE aN lx18 ux18) J (aK g17 J) J ?_;refine bC (bo (us:=[iV x18.Kind,iV x18.N,.string x18.S]) 1 J aH J hx18 aL (fun _ _ _ h=>by rw [show _=_ from h];rfl)) J (aK g17 J) J ?_;obtain ⟨y19,hy19,h⟩:=aa h;refine ck (aj (dS hy19) lM J (ae) dg) J (aK g17 J) J ?_;rintro _ _ ⟨_,⟨rfl,rfl⟩,rfl⟩;refine I ?_;obtain rfl:=ak h;exact ac sA (cS [0,1,2] 3)
   have h:=ah g17 hb17;refine I ?_;obtain rfl:=ak h;exact ac sA (cS [0,1,2] 3)
  refine I ?_;obtain ⟨b20,hb20,h⟩:=aa h;refine az 6 77 b20 ?_ ?_
  ·clear h;refine ay 71 J (fun g20=> ?_) (fun g20=> ?_)
   ·have h:=ag g20 hb20;refine I ?_;obtain ⟨x21,hx21,h⟩:=aa h;obtain ⟨lx21,ux21,hx21⟩:=aD hx21;refine bC (bh 1 J aH J J hE aN lx21 ux21) J (aK g20 J) J ?_;refine bC (bo (us:=[iV x21.Kind,iV x21.N,.string x21.S]) 1 J aH J hx21 aL (fun _ _ _ h=>by rw [show _=_ from h];rfl)) J (aK g20 J) J ?_;obtain ⟨y22,hy22,h⟩:=aa h;refine ck (aj (dS hy22) lM J (ae) dg) J (aK g20 J) J ?_;rintro _ _ ⟨_,⟨rfl,rfl⟩,rfl⟩;refine I ?_;obtain rfl:=ak h;exact ac sA (cS [0,1,2] 3)
   have h:=ah g20 hb20;refine I ?_;obtain rfl:=ak h;exact ac sA (cS [0,1,2] 3)
  refine I ?_;obtain rfl:=ak h;exact aF J J (cS [] 3) ⟨J,J⟩
 replace h:=ah g16 h;refine I ?_;refine gR (bz 1 J aH J hE) ?_;refine I ?_;obtain rfl:=ak h;exact aF J J (cS [] 3) ⟨J,J⟩
theorem lr {r:Bool}: ∀v post,((fun (u:Value) (post:List Chunk)=>u=.bool r∧post=[])) v post→ ∀c∈post,bJ c:=by
 rintro _ _ ⟨rfl,rfl⟩;exact ae
def dD (N:Nat)(a0:zT)(a1:Int)(a2:Int):Option Bool:=
 (bif decide (a0.Kind=3) then (some (decide (a1≤a0.N))) else (some false)).bind fun b2=>(bif b2 then (some (decide (a0.N≤a2))) else (some false)).bind fun b3=>some b3
theorem dT {N:Nat}{a0:zT}{a1:Int}{a2:Int}{r:Bool}(h:dD N a0 a1 a2=some r):Okc Tryz.prog 107 [.agg #[iV a0.Kind,iV a0.N,.string a0.S],iV a1,iV a2] ([]) (fun u post=>u=.bool r∧post=[]):=by
 refine bm Tryz.func107 J J ?_;simp only [aP];refine I ?_;refine gD (aO J J) ?_;rintro _ _ ⟨B1,rfl,rfl⟩;refine I ?_;obtain ⟨b2,hb2,h⟩:=aa h;refine az 5 15 b2 ?_ ?_
 ·clear h;refine ay 10 J (fun g2=> ?_) (fun g2=> ?_)
  ·have h:=ag g2 hb2;refine I ?_;obtain rfl:=ak h;exact ac sA (cS [0] 1)
  have h:=ah g2 hb2;refine I ?_;obtain rfl:=ak h;exact ac sA (cS [0] 1)
 refine I ?_;obtain ⟨b3,hb3,h⟩:=aa h;refine az 5 21 b3 ?_ ?_
 ·clear h;refine ay 16 J (fun g3=> ?_) (fun g3=> ?_)
  ·have h:=ag g3 hb3;refine I ?_;obtain rfl:=ak h;exact ac sA (cS [0] 1)
  have h:=ah g3 hb3;refine I ?_;obtain rfl:=ak h;exact ac sA (cS [0] 1)
 refine I ?_;obtain rfl:=ak h;exact aF J J (cS [] 1) ⟨J,J⟩
theorem dh {r:Bool}: ∀v post,((fun (u:Value) (post:List Chunk)=>u=.bool r∧post=[])) v post→ ∀c∈post,bJ c:=by
 rintro _ _ ⟨rfl,rfl⟩;exact ae
def gU (N:Nat){σ:Type}(fy:(List zT)→σ→Option (Bool×σ))(a1:(List zT))(a2:Int):Nat→Int→σ→Option σ
 |0,_,_=>none
 |m4+1,p5,p6=>bif decide (p5<(a1.length:Int)) then (dX ((0:Int)≤p5∧p5.toNat≤a1.length∧a1.length≤a1.length) (dX (cc (p5+(min a2 (((a1.drop p5.toNat).take (a1.length - p5.toNat)).length:Int)))) (dX (cc (p5+(min a2 (((a1.drop p5.toNat).take (a1.length - p5.toNat)).length:Int)))) (dX ((0:Int)≤p5∧(0:Int)≤p5+(min a2 (((a1.drop p5.toNat).take (a1.length - p5.toNat)).length:Int))∧p5.toNat≤(p5+(min a2 (((a1.drop p5.toNat).take (a1.length - p5.toNat)).length:Int))).toNat∧(p5+(min a2 (((a1.drop p5.toNat).take (a1.length - p5.toNat)).length:Int))).toNat≤a1.length) ((fy ((a1.drop p5.toNat).take ((p5+(min a2 (((a1.drop p5.toNat).take (a1.length - p5.toNat)).length:Int))).toNat - p5.toNat)) p6).bind fun y14=>bif !y14.1 then (some y14.2) else (dX (cc (p5+a2)) ((gU N fy a1 a2 m4) (p5+a2) y14.2))))))) else (some p6)
def kM (N:Nat){σ:Type}(a1:(List zT))(a2:Int)(fy:(List zT)→σ→Option (Bool×σ))(s0:σ):Option σ:=
 gU N fy a1 a2 N 0 s0
theorem oA {N:Nat}{σ:Type}{a1:(List zT)}{a2:Int}{fy:(List zT)→σ→Option (Bool×σ)}{s0:σ}{r:σ}(h:kM N a1 a2 fy s0=some r){l:Nat}{G:σ→List Chunk}(hY:ly Tryz.prog l G (fun (x:(List zT)) vs cs=> ∃A0 n0 c0,vs=[Y A0 n0 c0]∧cs=[cw A0 n0 c0 x]) fy):Okc Tryz.prog 118 [.func (.yield l) #[] #[],pV B1 0,pV B3 0] (bg B1 35 [Y A2 n2 c2]::cw A2 n2 c2 a1::bg B3 3 [iV a2]::(G s0)) (fun u post=>u=.tuple #[]∧post=G r):=by
 refine bm Tryz.func118 J J ?_;simp only [aP];refine I ?_;refine cO (fun m s L=> ∃p5 p6,gU N fy a1 a2 m p5 p6=some r∧s=[(0,.func (.yield l) #[] #[]),(1,pV B1 0),(2,pV B3 0),(4,iV p5)]∧L=cw A2 n2 c2 a1::bg B1 35 [Y A2 n2 c2]::bg B3 3 [iV a2]::(G p6)) N _ _ ⟨0,s0,h,J,J⟩ sA (cS [1,0,2] 3) ?_;rintro (_|m4) _ _ ⟨p5,p6,h,rfl,rfl⟩
 ·exact bu h
 rw [gU.eq_2] at h;refine ax ?_;refine I ?_;refine gR (bH 1 J J eR J) ?_;refine gR (bz 0 J aH J hE) ?_;refine I ?_;refine ar J (fun g7=> ?_) (fun g7=> ?_)
 ·replace h:=ag g7 h;refine I ?_;refine ax ?_;refine gy ?_;refine ax ?_;refine bn V _ (ab _) ?_;refine zR 0 J (bH 2 J J cX J) ?_;refine zR 1 J (bH 1 J J eR J) ?_;refine zE 2 J (aq J) ?_;obtain ⟨q8,h⟩:=aB h;refine uW 0 J (l:=p5.toNat) (h:=a1.length) q8.2.1 q8.2.2 ?_;rintro A9 n9 c9 e9;refine zR 3 J (qx 1 J e9 J hE aN J (by rw [Int.toNat_of_nonneg q8.1];rfl) q8.2.1) ?_;refine zR 4 J (bz 0 J aH J hE) ?_;refine zE 5 J (xc J J hJ hJ) ?_;refine zE 6 J (aZ J) ?_;refine be V ?_;refine I ?_;refine gR (bH 2 J J eR J) ?_;refine I ?_;obtain ⟨q10,h⟩:=aB h;refine gE (cf J J q10.1 q10.2) ?_;refine I ?_;obtain ⟨q11,h⟩:=aB h;refine gE (cf J J q11.1 q11.2) ?_;obtain ⟨q12,h⟩:=aB h;refine xR 1 J (l:=p5.toNat) (h:=(p5+(min a2 (((a1.drop p5.toNat).take (a1.length - p5.toNat)).length:Int))).toNat) q12.2.2.1 q12.2.2.2 ?_;rintro A13 n13 c13 e13;refine gR (vv 2 J e13 J hE aN J (by rw [Int.toNat_of_nonneg q12.1];rfl) (by rw [Int.toNat_of_nonneg q12.2.1];rfl) (by rw [Int.toNat_of_nonneg q12.2.1];rfl) q12.2.2.1 q12.2.2.2) ?_;obtain ⟨y14,hy14,h⟩:=aa h
  refine gD (ts (a:=(a1.drop p5.toNat).take ((p5+(min a2 (((a1.drop p5.toNat).take (a1.length - p5.toNat)).length:Int))).toNat - p5.toNat)) [cw A13 n13 c13 ((a1.drop p5.toNat).take ((p5+(min a2 (((a1.drop p5.toNat).take (a1.length - p5.toNat)).length:Int))).toNat - p5.toNat)),cw A9 n9 c9 ((a1.drop p5.toNat).take (a1.length - p5.toNat)),cw A2 n2 c2 a1,bg B1 35 [Y A2 n2 c2],bg B3 3 [iV a2]] hY hy14 J J ⟨_,_,_,J,J⟩ (xh 0 J J)) ?_;rintro _ _ ⟨rfl,rfl⟩;refine I ?_;refine ar J (fun g15=> ?_) (fun g15=> ?_)
  ·replace h:=ag g15 h;refine I ?_;obtain rfl:=ak h;exact ul J (cS [] 5) ⟨J,J⟩
  replace h:=ah g15 h;refine I ?_;refine gR (bH 4 J J cX J) ?_;obtain ⟨q16,h⟩:=aB h;refine gE (cf J J q16.1 q16.2) ?_;refine I ?_;exact ⟨m4,_,_,z1 _,⟨p5+a2,y14.2,h,J,J⟩,sA,cS [2,3,4] 5⟩
 replace h:=ah g7 h;refine I ?_;obtain rfl:=ak h;exact d8 J (cS [] 3) ⟨J,J⟩
def iX (N:Nat)(a0:(List zT))(a1:Int):Option Unit:=
 bif decide (a1<1) then none else (some ())
theorem lR {N:Nat}{a0:(List zT)}{a1:Int}{r:Unit}(h:iX N a0 a1=some r):Okc Tryz.prog 112 [Y A1 n1 c1,iV a1] ([cw A1 n1 c1 a0]) (fun u post=> ∃B900 B901,u=.func (.func 118) #[] #[pV B900 0,pV B901 0]∧post=[al B900 35 [Y A1 n1 c1],al B901 3 [iV a1]]):=by
 refine bm Tryz.func112 J J ?_;simp only [aP];refine I ?_;refine gD (aO J J) ?_;rintro _ _ ⟨B2,rfl,rfl⟩;refine gD (aO J J) ?_;rintro _ _ ⟨B3,rfl,rfl⟩;refine I ?_;refine ax ?_;refine I ?_;refine ar J (fun g4=> ?_) (fun g4=> ?_)
 ·replace h:=ag g4 h;exact bu h
 replace h:=ah g4 h;refine I ?_;refine gE (oh J) ?_;refine I ?_;obtain rfl:=ak h;exact aF J J (cS [1,0] 3) ⟨_,_,J,J⟩
theorem kH {a1:Int}{A1:Option Addr}{n1:Nat}{c1:Nat}: ∀v post,((fun (u:Value) (post:List Chunk)=> ∃B900 B901,u=.func (.func 118) #[] #[pV B900 0,pV B901 0]∧post=[al B900 35 [Y A1 n1 c1],al B901 3 [iV a1]])) v post→ ∀c∈post,bJ c:=by
 rintro _ _ ⟨_,_,rfl,rfl⟩;exact hD ne (hD ne (ae))
def eK (N:Nat)(a1:Int)(x9:(List zT)):(Unit)→Option (Option Exit×Unit)
 |()=>(cj x9 0).bind fun x12=>(bif !decide (x12.Kind=7) then (some true) else ((cj x9 1).bind fun x14=>some (decide (x14.Kind=8)))).bind fun b13=>bif b13 then (some (some .ret,())) else ((bif decide (a1=4) then ((cj x9 2).bind fun x17=>(dC N x17 7).bind fun y18=>(bif !y18 then (some true) else ((cj x9 3).bind fun x20=>(dD N x20 0 9007199254740992).bind fun y21=>some (!y21))).bind fun b19=>some b19) else (some false)).bind fun b16=>bif b16 then (some (some .ret,())) else (some (none,())))
def fd (N:Nat)(a0:(List zT))(a1:Int):Option Bool:=
 dX (a1≠0) (bif !decide ((a0.length:Int).tmod a1=0) then (some false) else ((iX N a0 a1).bind fun y6=>(kM N a0 a1 (lg (fun x st=>eK N a1 x st)) (none,())).bind fun y11=>rE y11.1 (some true) (some false) (fun _=>none)))
theorem gQ {N:Nat}{a0:(List zT)}{a1:Int}{r:Bool}(h:fd N a0 a1=some r):Okc Tryz.prog 108 [Y A1 n1 c1,iV a1] ([cw A1 n1 c1 a0]) (fun u post=>u=.bool r∧post=[]):=by
 refine bm Tryz.func108 J J ?_;simp only [aP];refine I ?_;refine gD (aO J J) ?_;rintro _ _ ⟨B2,rfl,rfl⟩;refine gD (aM wu J) ?_;rintro _ _ ⟨B3,rfl,rfl⟩;refine I ?_;refine ax ?_;refine I ?_;refine gR (bz 2 J aH J hE) ?_;refine I ?_;obtain ⟨q4,h⟩:=aB h;refine gE (jf J J q4) ?_;refine I ?_;refine ar J (fun g5=> ?_) (fun g5=> ?_)
 ·replace h:=ag g5 h;refine I ?_;refine gO (ap (us:=[.bool false]) (cs':=[.bool false]) 0 J J J J o5 J J J) ?_;rintro _ _ rfl;refine I ?_;obtain rfl:=ak h;exact bM (rs:=[.cell 4 4]) (vs:=[.bool false]) J (.cons (lE 0 J J rV) .nil) J (cS [] 3) ⟨J,J⟩
 replace h:=ah g5 h;refine I ?_;refine ax ?_;refine I ?_;obtain ⟨y6,hy6,h⟩:=aa h;refine gD (aj (lR hy6) wg J (hD (ai (i:=2) J J) ae) kH) ?_;rintro _ _ ⟨_,⟨B7,B8,rfl,rfl⟩,rfl⟩;refine nw ?_;refine eH ?_;refine gS ?_ dK (lK 0 J);refine gS ?_ dK (lK 1 J);refine wv ?_;obtain ⟨y11,hy11,h⟩:=aa h;refine tO (R:=(fun (x:(List zT)) vs cs=> ∃A0 n0 c0,vs=[Y A0 n0 c0]∧cs=[cw A0 n0 c0 x])) (fun x st=>eK N a1 x st) (fun (st:Unit) (mz:Unit)=> [al B2 3 [iV a1],al B3 4 [.bool false]]) [bg B7 35 [Y A1 n1 c1],cw A1 n1 c1 a0,bg B8 3 [iV a1]] (()) (()) J J wc J (by rintro _ _ _ ⟨_,_,_,rfl,rfl⟩;rfl) (fun l G hY=>(oA hy11 hY).mono fun _ _ hh=>hh.2) (aE [0,4,1] [] [3,2] 5 J) h ?_ ?_ ?_ ?_
 ·rintro l x9 _ je sr9 _ h _ _ ⟨A10,n10,c10,rfl,rfl⟩;replace h:eK N a1 x9 ()=some (je,sr9):=h;simp only [qP,List.zip_cons_cons,List.zip_nil_left,List.zip_nil_right,List.reverse_cons,List.reverse_nil,List.nil_append,List.cons_append];refine I ?_;refine ax ?_;refine I ?_;obtain ⟨x12,hx12,h⟩:=aa h;obtain ⟨lx12,ux12,hx12⟩:=aD hx12;refine gR (bh 0 J aH J J hE aN lx12 ux12) ?_;refine gR (kk 0 J aH J (aT lx12 ux12) iL) ?_;refine gR (cq (u:=iV x12.Kind) 0 J aH J hx12 cX (fun _ _ _ h=>by rw [show _=_ from h];rfl)) ?_;refine I ?_;obtain ⟨b13,hb13,h⟩:=aa h;refine az 6 26 b13 ?_ ?_
  ·clear h;refine ay 20 J (fun g13=> ?_) (fun g13=> ?_)
   ·have h:=ag g13 hb13;refine I ?_;obtain rfl:=ak h;exact ac sA (cS [0,1,2] 3)
   have h:=ah g13 hb13;refine I ?_;obtain ⟨x14,hx14,h⟩:=aa h;obtain ⟨lx14,ux14,hx14⟩:=aD hx14;refine bC (bh 0 J aH J J hE aN lx14 ux14) J (eI g13 J) J ?_;refine bC (kk 0 J aH J (aT lx14 ux14) iL) J (eI g13 J) J ?_;refine bC (cq (u:=iV x14.Kind) 0 J aH J hx14 cX (fun _ _ _ h=>by rw [show _=_ from h];rfl)) J (eI g13 J) J ?_;refine I ?_;obtain rfl:=ak h;exact ac sA (cS [0,1,2] 3)
  refine I ?_;refine ar J (fun g15=> ?_) (fun g15=> ?_)
  ·replace h:=ag g15 h;refine I ?_;refine gO (ap (us:=[.bool false]) (cs':=[.bool false]) 2 J J J J o5 J J J) ?_;rintro _ _ rfl;refine I ?_;obtain ⟨rfl,rfl⟩:=Prod.mk.inj (Option.some.inj h);exact su ((cS [1,2] 3).trans (fT () J))
  replace h:=ah g15 h;refine I ?_;obtain ⟨b16,hb16,h⟩:=aa h;refine az 13 42 b16 ?_ ?_
  ·clear h;refine ay 29 J (fun g16=> ?_) (fun g16=> ?_)
   ·have h:=ag g16 hb16;refine I ?_;obtain ⟨x17,hx17,h⟩:=aa h;obtain ⟨lx17,ux17,hx17⟩:=aD hx17;refine bC (bh 0 J aH J J hE aN lx17 ux17) J (aK g16 J) J ?_;refine bC (bo (us:=[iV x17.Kind,iV x17.N,.string x17.S]) 0 J aH J hx17 aL (fun _ _ _ h=>by rw [show _=_ from h];rfl)) J (aK g16 J) J ?_;obtain ⟨y18,hy18,h⟩:=aa h;refine ck (aj (dS hy18) lM J (ae) dg) J (aK g16 J) J ?_;rintro _ _ ⟨_,⟨rfl,rfl⟩,rfl⟩;refine I ?_;obtain ⟨b19,hb19,h⟩:=aa h;refine az 6 41 b19 ?_ ?_
    ·clear h;refine ay 35 J (fun g19=> ?_) (fun g19=> ?_)
     ·have h:=ag g19 hb19;refine I ?_;obtain rfl:=ak h;exact ac sA (cS [0,1,2] 3)
     have h:=ah g19 hb19;refine I ?_;obtain ⟨x20,hx20,h⟩:=aa h;obtain ⟨lx20,ux20,hx20⟩:=aD hx20;refine bC (bh 0 J aH J J hE aN lx20 ux20) J (eI g19 J) J ?_;refine bC (bo (us:=[iV x20.Kind,iV x20.N,.string x20.S]) 0 J aH J hx20 aL (fun _ _ _ h=>by rw [show _=_ from h];rfl)) J (eI g19 J) J ?_;obtain ⟨y21,hy21,h⟩:=aa h;refine ck (aj (dT hy21) lL J (ae) dh) J (eI g19 J) J ?_;rintro _ _ ⟨_,⟨rfl,rfl⟩,rfl⟩;refine I ?_;obtain rfl:=ak h;exact ac sA (cS [0,1,2] 3)
    refine I ?_;obtain rfl:=ak h;exact ac sA (cS [0,1,2] 3)
   have h:=ah g16 hb16;refine I ?_;obtain rfl:=ak h;exact ac sA (cS [0,1,2] 3)
  refine I ?_;refine ar J (fun g22=> ?_) (fun g22=> ?_)
  ·replace h:=ag g22 h;refine I ?_;refine gO (ap (us:=[.bool false]) (cs':=[.bool false]) 2 J J J J o5 J J J) ?_;rintro _ _ rfl;refine I ?_;obtain ⟨rfl,rfl⟩:=Prod.mk.inj (Option.some.inj h);exact su ((cS [1,2] 3).trans (fT () J))
  replace h:=ah g22 h;refine I ?_;obtain ⟨rfl,rfl⟩:=Prod.mk.inj (Option.some.inj h);exact wn ((cS [1,2] 3).trans (fT () J))
 ·rintro _ h;refine nv ([al B2 3 [iV a1],al B3 4 [.bool false]]) J ?_;refine I ?_;refine gO (ap (us:=[.bool true]) (cs':=[.bool true]) 1 J J J J o5 J J J) ?_;rintro _ _ rfl;refine bQ ?_;refine I ?_;obtain rfl:=ak h;exact bM (rs:=[.cell 4 4]) (vs:=[.bool true]) J (.cons (lE 1 J J rV) .nil) J (cS [] 2) ⟨J,J⟩
 ·rintro _ h;refine nv ([al B2 3 [iV a1],al B3 4 [.bool false]]) J ?_;refine I ?_;obtain rfl:=ak h;exact bM (rs:=[.cell 4 4]) (vs:=[.bool false]) J (.cons (lE 1 J J rV) .nil) J (cS [] 2) ⟨J,J⟩
 rintro i _ h;exact bu h
theorem fV {r:Bool}: ∀v post,((fun (u:Value) (post:List Chunk)=>u=.bool r∧post=[])) v post→ ∀c∈post,bJ c:=by
 rintro _ _ ⟨rfl,rfl⟩;exact ae
def fU (N:Nat)(a0:Int)(a1:(List zT))(p5:Bool):Option Bool:=
 bif p5 then (some (decide ((a1.length:Int)=0))) else (bif decide (a0=3) then ((bif decide ((a1.length:Int)=3) then ((cj a1 0).bind fun x10=>(dD N x10 0 9007199254740992).bind fun y11=>some y11) else (some false)).bind fun b9=>(bif b9 then ((cj a1 1).bind fun x13=>(dC N x13 9).bind fun y14=>some y14) else (some false)).bind fun b12=>some b12) else (bif decide (a0=4) then ((bif decide (1≤(a1.length:Int)) then (some (decide ((a1.length:Int)≤4097))) else (some false)).bind fun b16=>(bif b16 then ((cj a1 0).bind fun x18=>(dC N x18 9).bind fun y19=>some y19) else (some false)).bind fun b17=>some b17) else (bif decide (a0=6) then ((bif decide ((a1.length:Int)=2) then ((cj a1 0).bind fun x22=>(dD N x22 0 3).bind fun y23=>some y23) else (some false)).bind fun b21=>(bif b21 then ((cj a1 1).bind fun x25=>(dC N x25 9).bind fun y26=>some y26) else (some false)).bind fun b24=>some b24) else (bif decide (a0=7) then ((bif decide (4≤(a1.length:Int)) then ((cj a1 2).bind fun x29=>(dD N x29 0 1).bind fun y30=>some y30) else (some false)).bind fun b28=>(bif b28 then ((cj a1 3).bind fun x32=>(dD N x32 0 9007199254740992).bind fun y33=>some y33) else (some false)).bind fun b31=>some b31) else (bif decide (a0=8) then ((fd N a1 2).bind fun y35=>some y35) else (bif decide (a0=10) then ((bif decide (1≤(a1.length:Int)) then ((cj a1 0).bind fun x38=>some (decide (x38.Kind=7))) else (some false)).bind fun b37=>(bif b37 then (dX ((0:Int)≤1∧(1:Int).toNat≤a1.length∧a1.length≤a1.length) ((fd N ((a1.drop ((1:Int).toNat)).take (a1.length - (1:Int).toNat)) 4).bind fun y42=>some y42)) else (some false)).bind fun b39=>some b39) else (bif decide (a0=9) then ((bif decide (2≤(a1.length:Int)) then ((cj a1 0).bind fun x45=>(dD N x45 0 2).bind fun y46=>some y46) else (some false)).bind fun b44=>some b44) else (some true))))))))
def kd (N:Nat)(a0:Int)(a1:(List zT)):Option Bool:=
 bif decide (1048576<(a1.length:Int)) then (some false) else (bif decide (a0=2) then (some (decide ((a1.length:Int)≤4096))) else (bif decide (a0=1) then (fU N a0 a1 (decide (a0=1))) else (fU N a0 a1 (decide (a0=5)))))
set_option maxHeartbeats 4000000 in
theorem nq {N:Nat}{a0:Int}{a1:(List zT)}{r:Bool}(h:kd N a0 a1=some r):Okc Tryz.prog 98 [iV a0,Y A1 n1 c1] ([cw A1 n1 c1 a1]) (fun u post=>u=.bool r∧post=[]):=by
 refine bm Tryz.func98 J J ?_;simp only [aP];refine I ?_;refine ax ?_;refine I ?_;refine gR (bz 0 J aH J hE) ?_;refine I ?_;refine ar J (fun g2=> ?_) (fun g2=> ?_)
 ·replace h:=ag g2 h;refine I ?_;obtain rfl:=ak h;exact aF J J (cS [] 1) ⟨J,J⟩
 replace h:=ah g2 h;refine I ?_;refine ax ?_;refine I ?_;refine ar J (fun g3=> ?_) (fun g3=> ?_)
 ·replace h:=ag g3 h;refine I ?_;refine gR (bz 0 J aH J hE) ?_;refine I ?_;obtain rfl:=ak h;exact aF J J (cS [] 1) ⟨J,J⟩
 replace h:=ah g3 h;refine aW (fun s L=> ∃p5,fU N a0 a1 p5=some r∧s=[(1,Y A1 n1 c1),(4,.bool false),(8,iV a0),(14,.bool p5)]∧L=[cw A1 n1 c1 a1]) ?_ ?_
 ·refine I ?_;refine ar J (fun g6=> ?_) (fun g6=> ?_)
  ·replace h:=ag g6 h;refine I ?_;exact ⟨_,_,⟨decide (a0=1),h,J,J⟩,sA,cS [0] 1⟩
  replace h:=ah g6 h;refine I ?_;exact ⟨_,_,⟨decide (a0=5),h,J,J⟩,sA,cS [0] 1⟩
 rintro _ _ ⟨p5,h,rfl,rfl⟩;refine ar J (fun g7=> ?_) (fun g7=> ?_)
 ·replace h:=ag g7 h;refine I ?_;refine gR (bz 0 J aH J hE) ?_;refine I ?_;obtain rfl:=ak h;exact aF J J (cS [] 1) ⟨J,J⟩
 replace h:=ah g7 h;refine I ?_;refine ar J (fun g8=> ?_) (fun g8=> ?_)
 ·replace h:=ag g8 h;refine I ?_;refine gR (bz 0 J aH J hE) ?_;refine I ?_;obtain ⟨b9,hb9,h⟩:=aa h;refine az 5 30 b9 ?_ ?_
  ·clear h;refine ay 25 J (fun g9=> ?_) (fun g9=> ?_)
   ·have h:=ag g9 hb9;refine I ?_;obtain ⟨x10,hx10,h⟩:=aa h;obtain ⟨lx10,ux10,hx10⟩:=aD hx10;refine bC (bh 0 J aH J J hE aN lx10 ux10) J (aK g9 J) J ?_;refine bC (bo (us:=[iV x10.Kind,iV x10.N,.string x10.S]) 0 J aH J hx10 aL (fun _ _ _ h=>by rw [show _=_ from h];rfl)) J (aK g9 J) J ?_;obtain ⟨y11,hy11,h⟩:=aa h;refine ck (aj (dT hy11) lL J (ae) dh) J (aK g9 J) J ?_;rintro _ _ ⟨_,⟨rfl,rfl⟩,rfl⟩;refine I ?_;obtain rfl:=ak h;exact ac sA (cS [0] 1)
   have h:=ah g9 hb9;refine I ?_;obtain rfl:=ak h;exact ac sA (cS [0] 1)
  refine I ?_;obtain ⟨b12,hb12,h⟩:=aa h;refine az 5 36 b12 ?_ ?_
  ·clear h;refine ay 31 J (fun g12=> ?_) (fun g12=> ?_)
   ·have h:=ag g12 hb12;refine I ?_;obtain ⟨x13,hx13,h⟩:=aa h;obtain ⟨lx13,ux13,hx13⟩:=aD hx13;refine bC (bh 0 J aH J J hE aN lx13 ux13) J (aK g12 J) J ?_;refine bC (bo (us:=[iV x13.Kind,iV x13.N,.string x13.S]) 0 J aH J hx13 aL (fun _ _ _ h=>by rw [show _=_ from h];rfl)) J (aK g12 J) J ?_;obtain ⟨y14,hy14,h⟩:=aa h;refine ck (aj (dS hy14) lM J (ae) dg) J (aK g12 J) J ?_;rintro _ _ ⟨_,⟨rfl,rfl⟩,rfl⟩;refine I ?_;obtain rfl:=ak h;exact ac sA (cS [0] 1)
   have h:=ah g12 hb12;refine I ?_;obtain rfl:=ak h;exact ac sA (cS [0] 1)
  refine I ?_;obtain rfl:=ak h;exact aF J J (cS [] 1) ⟨J,J⟩
 replace h:=ah g8 h;refine I ?_;refine ar J (fun g15=> ?_) (fun g15=> ?_)
 ·replace h:=ag g15 h;refine I ?_;refine gR (bz 0 J aH J hE) ?_;refine I ?_;obtain ⟨b16,hb16,h⟩:=aa h;refine az 4 46 b16 ?_ ?_
  ·clear h;refine ay 42 J (fun g16=> ?_) (fun g16=> ?_)
   ·have h:=ag g16 hb16;refine I ?_;refine bC (bz 0 J aH J hE) J (aK g16 J) J ?_;refine I ?_;obtain rfl:=ak h;exact ac sA (cS [0] 1)
   have h:=ah g16 hb16;refine I ?_;obtain rfl:=ak h;exact ac sA (cS [0] 1)
  refine I ?_;obtain ⟨b17,hb17,h⟩:=aa h;refine az 5 52 b17 ?_ ?_
  ·clear h;refine ay 47 J (fun g17=> ?_) (fun g17=> ?_)
   ·have h:=ag g17 hb17;refine I ?_;obtain ⟨x18,hx18,h⟩:=aa h;obtain ⟨lx18,ux18,hx18⟩:=aD hx18;refine bC (bh 0 J aH J J hE aN lx18 ux18) J (aK g17 J) J ?_;refine bC (bo (us:=[iV x18.Kind,iV x18.N,.string x18.S]) 0 J aH J hx18 aL (fun _ _ _ h=>by rw [show _=_ from h];rfl)) J (aK g17 J) J ?_;obtain ⟨y19,hy19,h⟩:=aa h;refine ck (aj (dS hy19) lM J (ae) dg) J (aK g17 J) J ?_;rintro _ _ ⟨_,⟨rfl,rfl⟩,rfl⟩;refine I ?_;obtain rfl:=ak h;exact ac sA (cS [0] 1)
   have h:=ah g17 hb17;refine I ?_;obtain rfl:=ak h;exact ac sA (cS [0] 1)
  refine I ?_;obtain rfl:=ak h;exact aF J J (cS [] 1) ⟨J,J⟩
 replace h:=ah g15 h;refine I ?_;refine ar J (fun g20=> ?_) (fun g20=> ?_)
 ·replace h:=ag g20 h;refine I ?_;refine gR (bz 0 J aH J hE) ?_;refine I ?_;obtain ⟨b21,hb21,h⟩:=aa h;refine az 5 63 b21 ?_ ?_
  ·clear h;refine ay 58 J (fun g21=> ?_) (fun g21=> ?_)
   ·have h:=ag g21 hb21;refine I ?_;obtain ⟨x22,hx22,h⟩:=aa h;obtain ⟨lx22,ux22,hx22⟩:=aD hx22;refine bC (bh 0 J aH J J hE aN lx22 ux22) J (aK g21 J) J ?_;refine bC (bo (us:=[iV x22.Kind,iV x22.N,.string x22.S]) 0 J aH J hx22 aL (fun _ _ _ h=>by rw [show _=_ from h];rfl)) J (aK g21 J) J ?_;obtain ⟨y23,hy23,h⟩:=aa h;refine ck (aj (dT hy23) lL J (ae) dh) J (aK g21 J) J ?_;rintro _ _ ⟨_,⟨rfl,rfl⟩,rfl⟩;refine I ?_;obtain rfl:=ak h;exact ac sA (cS [0] 1)
   have h:=ah g21 hb21;refine I ?_;obtain rfl:=ak h;exact ac sA (cS [0] 1)
  refine I ?_;obtain ⟨b24,hb24,h⟩:=aa h;refine az 5 69 b24 ?_ ?_
  ·clear h;refine ay 64 J (fun g24=> ?_) (fun g24=> ?_)
   ·have h:=ag g24 hb24;refine I ?_;obtain ⟨x25,hx25,h⟩:=aa h;obtain ⟨lx25,ux25,hx25⟩:=aD hx25;refine bC (bh 0 J aH J J hE aN lx25 ux25) J (aK g24 J) J ?_;refine bC (bo (us:=[iV x25.Kind,iV x25.N,.string x25.S]) 0 J aH J hx25 aL (fun _ _ _ h=>by rw [show _=_ from h];rfl)) J (aK g24 J) J ?_;obtain ⟨y26,hy26,h⟩:=aa h;refine ck (aj (dS hy26) lM J (ae) dg) J (aK g24 J) J ?_;rintro _ _ ⟨_,⟨rfl,rfl⟩,rfl⟩;refine I ?_;obtain rfl:=ak h;exact ac sA (cS [0] 1)
   have h:=ah g24 hb24;refine I ?_;obtain rfl:=ak h;exact ac sA (cS [0] 1)
  refine I ?_;obtain rfl:=ak h;exact aF J J (cS [] 1) ⟨J,J⟩
 replace h:=ah g20 h;refine I ?_;refine ar J (fun g27=> ?_) (fun g27=> ?_)
 ·replace h:=ag g27 h;refine I ?_;refine gR (bz 0 J aH J hE) ?_;refine I ?_;obtain ⟨b28,hb28,h⟩:=aa h;refine az 5 80 b28 ?_ ?_
  ·clear h;refine ay 75 J (fun g28=> ?_) (fun g28=> ?_)
   ·have h:=ag g28 hb28;refine I ?_;obtain ⟨x29,hx29,h⟩:=aa h;obtain ⟨lx29,ux29,hx29⟩:=aD hx29;refine bC (bh 0 J aH J J hE aN lx29 ux29) J (aK g28 J) J ?_;refine bC (bo (us:=[iV x29.Kind,iV x29.N,.string x29.S]) 0 J aH J hx29 aL (fun _ _ _ h=>by rw [show _=_ from h];rfl)) J (aK g28 J) J ?_;obtain ⟨y30,hy30,h⟩:=aa h;refine ck (aj (dT hy30) lL J (ae) dh) J (aK g28 J) J ?_;rintro _ _ ⟨_,⟨rfl,rfl⟩,rfl⟩;refine I ?_;obtain rfl:=ak h;exact ac sA (cS [0] 1)
   have h:=ah g28 hb28;refine I ?_;obtain rfl:=ak h;exact ac sA (cS [0] 1)
  refine I ?_;obtain ⟨b31,hb31,h⟩:=aa h;refine az 5 86 b31 ?_ ?_
  ·clear h;refine ay 81 J (fun g31=> ?_) (fun g31=> ?_)
   ·have h:=ag g31 hb31;refine I ?_;obtain ⟨x32,hx32,h⟩:=aa h;obtain ⟨lx32,ux32,hx32⟩:=aD hx32;refine bC (bh 0 J aH J J hE aN lx32 ux32) J (aK g31 J) J ?_;refine bC (bo (us:=[iV x32.Kind,iV x32.N,.string x32.S]) 0 J aH J hx32 aL (fun _ _ _ h=>by rw [show _=_ from h];rfl)) J (aK g31 J) J ?_;obtain ⟨y33,hy33,h⟩:=aa h;refine ck (aj (dT hy33) lL J (ae) dh) J (aK g31 J) J ?_;rintro _ _ ⟨_,⟨rfl,rfl⟩,rfl⟩;refine I ?_;obtain rfl:=ak h;exact ac sA (cS [0] 1)
   have h:=ah g31 hb31;refine I ?_;obtain rfl:=ak h;exact ac sA (cS [0] 1)
  refine I ?_;obtain rfl:=ak h;exact aF J J (cS [] 1) ⟨J,J⟩
 replace h:=ah g27 h;refine I ?_;refine ar J (fun g34=> ?_) (fun g34=> ?_)
 ·replace h:=ag g34 h;refine I ?_;obtain ⟨y35,hy35,h⟩:=aa h;refine gD (aj (gQ hy35) tb J (hD (ai (i:=0) J J) ae) fV) ?_;rintro _ _ ⟨_,⟨rfl,rfl⟩,rfl⟩;refine I ?_;obtain rfl:=ak h;exact aF J J (cS [] 1) ⟨J,J⟩
 replace h:=ah g34 h;refine I ?_;refine ar J (fun g36=> ?_) (fun g36=> ?_)
 ·replace h:=ag g36 h;refine I ?_;refine gR (bz 0 J aH J hE) ?_;refine I ?_;obtain ⟨b37,hb37,h⟩:=aa h;refine az 6 102 b37 ?_ ?_
  ·clear h;refine ay 96 J (fun g37=> ?_) (fun g37=> ?_)
   ·have h:=ag g37 hb37;refine I ?_;obtain ⟨x38,hx38,h⟩:=aa h;obtain ⟨lx38,ux38,hx38⟩:=aD hx38;refine bC (bh 0 J aH J J hE aN lx38 ux38) J (aK g37 J) J ?_;refine bC (kk 0 J aH J (aT lx38 ux38) iL) J (aK g37 J) J ?_;refine bC (cq (u:=iV x38.Kind) 0 J aH J hx38 cX (fun _ _ _ h=>by rw [show _=_ from h];rfl)) J (aK g37 J) J ?_;refine I ?_;obtain rfl:=ak h;exact ac sA (cS [0] 1)
   have h:=ah g37 hb37;refine I ?_;obtain rfl:=ak h;exact ac sA (cS [0] 1)
  refine I ?_;obtain ⟨b39,hb39,h⟩:=aa h;refine az 4 107 b39 ?_ ?_
  ·clear h;refine ay 103 J (fun g39=> ?_) (fun g39=> ?_)
   ·have h:=ag g39 hb39;refine I ?_;obtain ⟨q40,h⟩:=aB h;refine yq 0 J (l:=(1:Int).toNat) (h:=a1.length) q40.2.1 q40.2.2 ?_;rintro A41 n41 c41 e41;refine bC (qx 1 J e41 J hE aN J (by rw [Int.toNat_of_nonneg q40.1];rfl) q40.2.1) J (aK g39 J) J ?_;obtain ⟨y42,hy42,h⟩:=aa h;refine ck (aj (gQ hy42) tb J (hD (ai (i:=0) J J) ae) fV) J (aK g39 J) J ?_;rintro _ _ ⟨_,⟨rfl,rfl⟩,rfl⟩;refine I ?_;obtain rfl:=ak h;exact ac sA (cS [1] 2)
   have h:=ah g39 hb39;refine I ?_;obtain rfl:=ak h;exact ac sA (cS [0] 1)
  refine I ?_;obtain rfl:=ak h;exact aF J J (cS [] 1) ⟨J,J⟩
 replace h:=ah g36 h;refine I ?_;refine ar J (fun g43=> ?_) (fun g43=> ?_)
 ·replace h:=ag g43 h;refine I ?_;refine gR (bz 0 J aH J hE) ?_;refine I ?_;obtain ⟨b44,hb44,h⟩:=aa h;refine az 5 118 b44 ?_ ?_
  ·clear h;refine ay 113 J (fun g44=> ?_) (fun g44=> ?_)
   ·have h:=ag g44 hb44;refine I ?_;obtain ⟨x45,hx45,h⟩:=aa h;obtain ⟨lx45,ux45,hx45⟩:=aD hx45;refine bC (bh 0 J aH J J hE aN lx45 ux45) J (aK g44 J) J ?_;refine bC (bo (us:=[iV x45.Kind,iV x45.N,.string x45.S]) 0 J aH J hx45 aL (fun _ _ _ h=>by rw [show _=_ from h];rfl)) J (aK g44 J) J ?_;obtain ⟨y46,hy46,h⟩:=aa h;refine ck (aj (dT hy46) lL J (ae) dh) J (aK g44 J) J ?_;rintro _ _ ⟨_,⟨rfl,rfl⟩,rfl⟩;refine I ?_;obtain rfl:=ak h;exact ac sA (cS [0] 1)
   have h:=ah g44 hb44;refine I ?_;obtain rfl:=ak h;exact ac sA (cS [0] 1)
  refine I ?_;obtain rfl:=ak h;exact aF J J (cS [] 1) ⟨J,J⟩
 replace h:=ah g43 h;refine I ?_;obtain rfl:=ak h;exact aF J J (cS [] 1) ⟨J,J⟩
theorem lW {r:Bool}: ∀v post,((fun (u:Value) (post:List Chunk)=>u=.bool r∧post=[])) v post→ ∀c∈post,bJ c:=by
 rintro _ _ ⟨rfl,rfl⟩;exact ae
end Go.Proofs.YtanojiedimeegaaGreat