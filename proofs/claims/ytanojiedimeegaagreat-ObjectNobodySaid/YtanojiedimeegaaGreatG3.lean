/- Merged texts: part 3. No conditions of their own. -/
import Derived.Test.YtanojiedimeegaaGreatG2
import Derived.Test.YtanojiedimeegaaGreatChecked
import Derived.ProofKit
namespace Go.Proofs.YtanojiedimeegaaGreat
theorem hJ:type_of% Tryz.underlying3:=Tryz.underlying3
theorem hH:type_of% Tryz.underlying9:=Tryz.underlying9
theorem hE:type_of% Tryz.underlying35:=Tryz.underlying35
variable {A1 A2 A3 A4 A5:Option Addr} {B1 B3 B6 M7 c1 c2 c3 c4 c5 n1 n2 n3 n4 n5:Nat}
open Go.RowKit Asn
set_option maxRecDepth 20000
structure At where
 Way:Int
 Steps:Int
 Calls:Int
 Made:Int
 Young:Int
 Full:Int
 Sites:Int
 deriving DecidableEq,Inhabited
def yW:Rep At:=.flat 7 (fun x=> [iV x.Way,iV x.Steps,iV x.Calls,iV x.Made,iV x.Young,iV x.Full,iV x.Sites]) (fun _=>rfl) (fun _=>rfl)
structure AF where
 at_:(List (Int×Bool))
 deriving DecidableEq,Inhabited
structure AA where
 Kind:Int
 N:Int
 S:ByteArray
 deriving DecidableEq,Inhabited
def bA:Rep AA:=.flat 3 (fun x=> [iV x.Kind,iV x.N,.string x.S]) (fun _=>rfl) (fun _=>rfl)
structure Aw where
 Kind:Int
 Shape:Int
 Flags:Int
 Age:Int
 Slots:(List AA)
 More:(List AA)
 deriving DecidableEq,Inhabited
def ln:Rep Aw where
 sz:=6
 rel S w vs x:= ∃A4 n4 c4 A5 n5 c5,vs=[iV x.Kind,iV x.Shape,iV x.Flags,iV x.Age,Y A4 n4 c4,Y A5 n5 c5]∧SlR bA S w (Y A4 n4 c4) x.Slots∧SlR bA S w (Y A5 n5 c5) x.More
 loc:=fun h ⟨_,_,_,_,_,_,e,h4,h5⟩=>⟨_,_,_,_,_,_,e,h4.loc h,h5.loc h⟩
 mono:=fun h ⟨_,_,_,_,_,_,e,h4,h5⟩=>⟨_,_,_,_,_,_,e,h4.mono h,h5.mono h⟩
 len:=fun ⟨_,_,_,_,_,_,e,_⟩=>by rw [e];rfl
 one:=fun ⟨_,_,_,_,_,_,e,_⟩=>by rw [e];rfl
theorem pz (x:Aw):vQ ln x fun vs cs=> ∃A4 n4 c4 A5 n5 c5,vs=[iV x.Kind,iV x.Shape,iV x.Flags,iV x.Age,Y A4 n4 c4,Y A5 n5 c5]∧cs=[ko bA (Y A4 n4 c4) x.Slots,ko bA (Y A5 n5 c5) x.More]:=fun S w vs ⟨_,_,_,_,_,_,e,h4,h5⟩=>⟨_,⟨_,_,_,_,_,_,e,rfl⟩,hD h4 (hD h5 (ac))⟩
structure Ar where
 Young:(List Aw)
 Old:(List Aw)
 deriving DecidableEq,Inhabited
def yV:Rep Ar where
 sz:=2
 rel S w vs x:= ∃A0 n0 c0 A1 n1 c1,vs=[Y A0 n0 c0,Y A1 n1 c1]∧SlR ln S w (Y A0 n0 c0) x.Young∧SlR ln S w (Y A1 n1 c1) x.Old
 loc:=fun h ⟨_,_,_,_,_,_,e,h0,h1⟩=>⟨_,_,_,_,_,_,e,h0.loc h,h1.loc h⟩
 mono:=fun h ⟨_,_,_,_,_,_,e,h0,h1⟩=>⟨_,_,_,_,_,_,e,h0.mono h,h1.mono h⟩
 len:=fun ⟨_,_,_,_,_,_,e,_⟩=>by rw [e];rfl
 one:=fun ⟨_,_,_,_,_,_,e,_⟩=>by rw [e];rfl
structure Ay where
 m_:Ar
 roots_:(List AA)
 pending_:(List AA)
 set_:AF
 deriving DecidableEq,Inhabited
structure Au where
 Kind:Int
 N:Int
 S:ByteArray
 deriving DecidableEq,Inhabited
def lm:Rep Au:=.flat 3 (fun x=> [iV x.Kind,iV x.N,.string x.S]) (fun _=>rfl) (fun _=>rfl)
structure Aq where
 Up:Int
 Key:Au
 Attrs:Int
 Len:Int
 deriving DecidableEq,Inhabited
def lS:Rep Aq:=.flat 6 (fun x=> [iV x.Up,iV x.Key.Kind,iV x.Key.N,.string x.Key.S,iV x.Attrs,iV x.Len]) (fun _=>rfl) (fun _=>rfl)
structure AD where
 up_:Int
 key_:Au
 attrs_:Int
 deriving DecidableEq,Inhabited
def zt:Rep AD:=.flat 5 (fun x=> [iV x.up_,iV x.key_.Kind,iV x.key_.N,.string x.key_.S,iV x.attrs_]) (fun _=>rfl) (fun _=>rfl)
structure AG where
 shapes_:(List Aq)
 next_:(List (AD×Int))
 deriving DecidableEq,Inhabited
structure Az where
 steps_:Int
 made_:Int
 calls_:Int
 deriving DecidableEq,Inhabited
def zp:Rep Az:=.flat 3 (fun x=> [iV x.steps_,iV x.made_,iV x.calls_]) (fun _=>rfl) (fun _=>rfl)
structure AH where
 Kind:Int
 Key:Au
 S:ByteArray
 deriving DecidableEq,Inhabited
def ta:Rep AH:=.flat 5 (fun x=> [iV x.Kind,iV x.Key.Kind,iV x.Key.N,.string x.Key.S,.string x.S]) (fun _=>rfl) (fun _=>rfl)
structure AE where
 spent_:Az
 config_:At
 host_:Unit
 heap_:Ay
 shapes_:AG
 symbols_:(List ByteArray)
 epoch_:Int
 serial_:Int
 sleepers_:Int
 events_:(List AH)
 out_:(List ByteArray)
 deriving DecidableEq,Inhabited
structure AB where
 Cell:Aw
 w_:AE
 at_:AA
 deriving DecidableEq,Inhabited
structure Ax where
 Key:Au
 Attrs:Int
 Value:AA
 Get:AA
 Set:AA
 deriving DecidableEq,Inhabited
def ll:Rep Ax:=.flat 13 (fun x=> [iV x.Key.Kind,iV x.Key.N,.string x.Key.S,iV x.Attrs,iV x.Value.Kind,iV x.Value.N,.string x.Value.S,iV x.Get.Kind,iV x.Get.N,.string x.Get.S,iV x.Set.Kind,iV x.Set.N,.string x.Set.S]) (fun _=>rfl) (fun _=>rfl)
structure AC where
 Has:Int
 Attrs:Int
 Value:AA
 Get:AA
 Set:AA
 deriving DecidableEq,Inhabited
def xB:Rep AC:=.flat 11 (fun x=> [iV x.Has,iV x.Attrs,iV x.Value.Kind,iV x.Value.N,.string x.Value.S,iV x.Get.Kind,iV x.Get.N,.string x.Get.S,iV x.Set.Kind,iV x.Set.N,.string x.Set.S]) (fun _=>rfl) (fun _=>rfl)
abbrev aX (A:Option Addr)(n c:Nat):=dq bA 29 (.slice A n c)
abbrev bp (A:Option Addr)(n c:Nat):=ko wh (.slice A n c)
abbrev bD (A:Option Addr)(n c:Nat):=dq ln 37 (.slice A n c)
abbrev cx (A:Option Addr)(n c:Nat):=ko bA (.slice A n c)
abbrev cU (A:Option Addr)(n c:Nat):=ko ta (.slice A n c)
abbrev dx (A:Option Addr)(n c:Nat):=dq lS 114 (.slice A n c)
abbrev kk (A:Option Addr)(n c:Nat):=dq lm 44 (.slice A n c)
abbrev lV (A:Option Addr)(n c:Nat):=ko ln (.slice A n c)
abbrev oH (A:Option Addr)(n c:Nat):=ko lS (.slice A n c)
theorem xo:ao Tryz.prog 5:=⟨Tryz.f5,Tryz.func5,rfl,rfl⟩
theorem ze:ao Tryz.prog 7:=⟨Tryz.f7,Tryz.func7,rfl,rfl⟩
theorem uW:ao Tryz.prog 9:=⟨Tryz.f9,Tryz.func9,rfl,rfl⟩
theorem sL:ao Tryz.prog 10:=⟨Tryz.f10,Tryz.func10,rfl,rfl⟩
theorem vE:ao Tryz.prog 11:=⟨Tryz.f11,Tryz.func11,rfl,rfl⟩
theorem vD:ao Tryz.prog 12:=⟨Tryz.f12,Tryz.func12,rfl,rfl⟩
theorem vC:ao Tryz.prog 13:=⟨Tryz.f13,Tryz.func13,rfl,rfl⟩
theorem rn:ao Tryz.prog 14:=⟨Tryz.f14,Tryz.func14,rfl,rfl⟩
theorem yD:ao Tryz.prog 15:=⟨Tryz.f15,Tryz.func15,rfl,rfl⟩
theorem vB:ao Tryz.prog 16:=⟨Tryz.f16,Tryz.func16,rfl,rfl⟩
theorem vA:ao Tryz.prog 17:=⟨Tryz.f17,Tryz.func17,rfl,rfl⟩
theorem vz:ao Tryz.prog 18:=⟨Tryz.f18,Tryz.func18,rfl,rfl⟩
theorem vy:ao Tryz.prog 19:=⟨Tryz.f19,Tryz.func19,rfl,rfl⟩
theorem vv:ao Tryz.prog 20:=⟨Tryz.f20,Tryz.func20,rfl,rfl⟩
theorem yC:ao Tryz.prog 21:=⟨Tryz.f21,Tryz.func21,rfl,rfl⟩
theorem sK:ao Tryz.prog 22:=⟨Tryz.f22,Tryz.func22,rfl,rfl⟩
theorem yB:ao Tryz.prog 23:=⟨Tryz.f23,Tryz.func23,rfl,rfl⟩
theorem sJ:ao Tryz.prog 24:=⟨Tryz.f24,Tryz.func24,rfl,rfl⟩
theorem vu:ao Tryz.prog 25:=⟨Tryz.f25,Tryz.func25,rfl,rfl⟩
theorem yA:ao Tryz.prog 26:=⟨Tryz.f26,Tryz.func26,rfl,rfl⟩
theorem yz:ao Tryz.prog 27:=⟨Tryz.f27,Tryz.func27,rfl,rfl⟩
theorem yy:ao Tryz.prog 28:=⟨Tryz.f28,Tryz.func28,rfl,rfl⟩
theorem oq:ao Tryz.prog 29:=⟨Tryz.f29,Tryz.func29,rfl,rfl⟩
theorem vt:ao Tryz.prog 30:=⟨Tryz.f30,Tryz.func30,rfl,rfl⟩
theorem pX:ao Tryz.prog 31:=⟨Tryz.f31,Tryz.func31,rfl,rfl⟩
theorem sI:ao Tryz.prog 32:=⟨Tryz.f32,Tryz.func32,rfl,rfl⟩
theorem yx:ao Tryz.prog 33:=⟨Tryz.f33,Tryz.func33,rfl,rfl⟩
theorem vq:ao Tryz.prog 34:=⟨Tryz.f34,Tryz.func34,rfl,rfl⟩
theorem yw:ao Tryz.prog 35:=⟨Tryz.f35,Tryz.func35,rfl,rfl⟩
theorem vo:ao Tryz.prog 36:=⟨Tryz.f36,Tryz.func36,rfl,rfl⟩
theorem vm:ao Tryz.prog 37:=⟨Tryz.f37,Tryz.func37,rfl,rfl⟩
theorem yv:ao Tryz.prog 38:=⟨Tryz.f38,Tryz.func38,rfl,rfl⟩
theorem sH:ao Tryz.prog 39:=⟨Tryz.f39,Tryz.func39,rfl,rfl⟩
theorem vl:ao Tryz.prog 40:=⟨Tryz.f40,Tryz.func40,rfl,rfl⟩
theorem cX:ao Tryz.prog 41:=⟨Tryz.f41,Tryz.func41,rfl,rfl⟩
theorem yu:ao Tryz.prog 42:=⟨Tryz.f42,Tryz.func42,rfl,rfl⟩
theorem oo:ao Tryz.prog 43:=⟨Tryz.f43,Tryz.func43,rfl,rfl⟩
theorem vj:ao Tryz.prog 44:=⟨Tryz.f44,Tryz.func44,rfl,rfl⟩
theorem yt:ao Tryz.prog 45:=⟨Tryz.f45,Tryz.func45,rfl,rfl⟩
theorem yr:ao Tryz.prog 46:=⟨Tryz.f46,Tryz.func46,rfl,rfl⟩
theorem rm:ao Tryz.prog 47:=⟨Tryz.f47,Tryz.func47,rfl,rfl⟩
theorem jT:ao Tryz.prog 48:=⟨Tryz.f48,Tryz.func48,rfl,rfl⟩
theorem vh:ao Tryz.prog 49:=⟨Tryz.f49,Tryz.func49,rfl,rfl⟩
theorem mY:ao Tryz.prog 50:=⟨Tryz.f50,Tryz.func50,rfl,rfl⟩
theorem rl:ao Tryz.prog 51:=⟨Tryz.f51,Tryz.func51,rfl,rfl⟩
theorem rk:ao Tryz.prog 52:=⟨Tryz.f52,Tryz.func52,rfl,rfl⟩
theorem yq:ao Tryz.prog 53:=⟨Tryz.f53,Tryz.func53,rfl,rfl⟩
theorem ve:ao Tryz.prog 54:=⟨Tryz.f54,Tryz.func54,rfl,rfl⟩
theorem yp:ao Tryz.prog 55:=⟨Tryz.f55,Tryz.func55,rfl,rfl⟩
theorem yo:ao Tryz.prog 56:=⟨Tryz.f56,Tryz.func56,rfl,rfl⟩
theorem pW:ao Tryz.prog 57:=⟨Tryz.f57,Tryz.func57,rfl,rfl⟩
theorem yn:ao Tryz.prog 58:=⟨Tryz.f58,Tryz.func58,rfl,rfl⟩
theorem vd:ao Tryz.prog 59:=⟨Tryz.f59,Tryz.func59,rfl,rfl⟩
theorem mX:ao Tryz.prog 60:=⟨Tryz.f60,Tryz.func60,rfl,rfl⟩
theorem ym:ao Tryz.prog 61:=⟨Tryz.f61,Tryz.func61,rfl,rfl⟩
theorem sG:ao Tryz.prog 62:=⟨Tryz.f62,Tryz.func62,rfl,rfl⟩
theorem sF:ao Tryz.prog 63:=⟨Tryz.f63,Tryz.func63,rfl,rfl⟩
theorem sE:ao Tryz.prog 64:=⟨Tryz.f64,Tryz.func64,rfl,rfl⟩
theorem mW:ao Tryz.prog 65:=⟨Tryz.f65,Tryz.func65,rfl,rfl⟩
theorem om:ao Tryz.prog 66:=⟨Tryz.f66,Tryz.func66,rfl,rfl⟩
theorem yl:ao Tryz.prog 67:=⟨Tryz.f67,Tryz.func67,rfl,rfl⟩
theorem mV:ao Tryz.prog 68:=⟨Tryz.f68,Tryz.func68,rfl,rfl⟩
theorem sD:ao Tryz.prog 69:=⟨Tryz.f69,Tryz.func69,rfl,rfl⟩
theorem sC:ao Tryz.prog 70:=⟨Tryz.f70,Tryz.func70,rfl,rfl⟩
theorem yk:ao Tryz.prog 71:=⟨Tryz.f71,Tryz.func71,rfl,rfl⟩
theorem yj:ao Tryz.prog 72:=⟨Tryz.f72,Tryz.func72,rfl,rfl⟩
theorem yi:ao Tryz.prog 73:=⟨Tryz.f73,Tryz.func73,rfl,rfl⟩
theorem vc:ao Tryz.prog 74:=⟨Tryz.f74,Tryz.func74,rfl,rfl⟩
theorem sB:ao Tryz.prog 75:=⟨Tryz.f75,Tryz.func75,rfl,rfl⟩
theorem yh:ao Tryz.prog 76:=⟨Tryz.f76,Tryz.func76,rfl,rfl⟩
theorem sy:ao Tryz.prog 77:=⟨Tryz.f77,Tryz.func77,rfl,rfl⟩
theorem yg:ao Tryz.prog 78:=⟨Tryz.f78,Tryz.func78,rfl,rfl⟩
theorem vb:ao Tryz.prog 79:=⟨Tryz.f79,Tryz.func79,rfl,rfl⟩
theorem va:ao Tryz.prog 80:=⟨Tryz.f80,Tryz.func80,rfl,rfl⟩
theorem yf:ao Tryz.prog 81:=⟨Tryz.f81,Tryz.func81,rfl,rfl⟩
theorem ye:ao Tryz.prog 82:=⟨Tryz.f82,Tryz.func82,rfl,rfl⟩
theorem sx:ao Tryz.prog 83:=⟨Tryz.f83,Tryz.func83,rfl,rfl⟩
theorem uZ:ao Tryz.prog 84:=⟨Tryz.f84,Tryz.func84,rfl,rfl⟩
theorem yd:ao Tryz.prog 85:=⟨Tryz.f85,Tryz.func85,rfl,rfl⟩
theorem uY:ao Tryz.prog 86:=⟨Tryz.f86,Tryz.func86,rfl,rfl⟩
theorem yc:ao Tryz.prog 87:=⟨Tryz.f87,Tryz.func87,rfl,rfl⟩
theorem uX:ao Tryz.prog 88:=⟨Tryz.f88,Tryz.func88,rfl,rfl⟩
theorem sw:ao Tryz.prog 89:=⟨Tryz.f89,Tryz.func89,rfl,rfl⟩
theorem fj:ao Tryz.prog 90:=⟨Tryz.f90,Tryz.func90,rfl,rfl⟩
theorem sv:ao Tryz.prog 91:=⟨Tryz.f91,Tryz.func91,rfl,rfl⟩
theorem yb:ao Tryz.prog 92:=⟨Tryz.f92,Tryz.func92,rfl,rfl⟩
theorem ya:ao Tryz.prog 93:=⟨Tryz.f93,Tryz.func93,rfl,rfl⟩
theorem xZ:ao Tryz.prog 94:=⟨Tryz.f94,Tryz.func94,rfl,rfl⟩
theorem uV:ao Tryz.prog 95:=⟨Tryz.f95,Tryz.func95,rfl,rfl⟩
theorem xY:ao Tryz.prog 96:=⟨Tryz.f96,Tryz.func96,rfl,rfl⟩
theorem xX:ao Tryz.prog 97:=⟨Tryz.f97,Tryz.func97,rfl,rfl⟩
theorem xW:ao Tryz.prog 98:=⟨Tryz.f98,Tryz.func98,rfl,rfl⟩
theorem rj:ao Tryz.prog 99:=⟨Tryz.f99,Tryz.func99,rfl,rfl⟩
theorem wT:ao Tryz.prog 100:=⟨Tryz.f100,Tryz.func100,rfl,rfl⟩
theorem rp:ao Tryz.prog 101:=⟨Tryz.f101,Tryz.func101,rfl,rfl⟩
theorem ma:ao Tryz.prog 102:=⟨Tryz.f102,Tryz.func102,rfl,rfl⟩
theorem tH:ao Tryz.prog 103:=⟨Tryz.f103,Tryz.func103,rfl,rfl⟩
theorem tG:ao Tryz.prog 104:=⟨Tryz.f104,Tryz.func104,rfl,rfl⟩
theorem wS:ao Tryz.prog 105:=⟨Tryz.f105,Tryz.func105,rfl,rfl⟩
theorem lZ:ao Tryz.prog 106:=⟨Tryz.f106,Tryz.func106,rfl,rfl⟩
theorem lY:ao Tryz.prog 107:=⟨Tryz.f107,Tryz.func107,rfl,rfl⟩
theorem tD:ao Tryz.prog 108:=⟨Tryz.f108,Tryz.func108,rfl,rfl⟩
theorem wR:ao Tryz.prog 109:=⟨Tryz.f109,Tryz.func109,rfl,rfl⟩
theorem wQ:ao Tryz.prog 110:=⟨Tryz.f110,Tryz.func110,rfl,rfl⟩
theorem wP:ao Tryz.prog 112:=⟨Tryz.f112,Tryz.func112,rfl,rfl⟩
theorem tC:ao Tryz.prog 113:=⟨Tryz.f113,Tryz.func113,rfl,rfl⟩
theorem wO:ao Tryz.prog 114:=⟨Tryz.f114,Tryz.func114,rfl,rfl⟩
theorem tA:ao Tryz.prog 115:=⟨Tryz.f115,Tryz.func115,rfl,rfl⟩
theorem wN:ao Tryz.prog 116:=⟨Tryz.f116,Tryz.func116,rfl,rfl⟩
theorem wM:ao Tryz.prog 118:=⟨Tryz.f118,Tryz.func118,rfl,rfl⟩
theorem wL:ao Tryz.prog 119:=⟨Tryz.f119,Tryz.func119,rfl,rfl⟩
theorem tz:ao Tryz.prog 120:=⟨Tryz.f120,Tryz.func120,rfl,rfl⟩
theorem wK:ao Tryz.prog 121:=⟨Tryz.f121,Tryz.func121,rfl,rfl⟩
theorem wE (b o:Nat)(w:World):(Instr.fieldAt 27 (pV b o) 0).run Tryz.prog w=.ok (pV b o) w:=by kernel_rfl
theorem wD (b o:Nat)(w:World):(Instr.fieldAt 27 (pV b o) 1).run Tryz.prog w=.ok (.pointer (some ⟨b,o+1,none⟩)) w:=by kernel_rfl
theorem wC (b o:Nat)(w:World):(Instr.fieldAt 27 (pV b o) 2).run Tryz.prog w=.ok (.pointer (some ⟨b,o+2,none⟩)) w:=by kernel_rfl
theorem tr (b o:Nat)(w:World):(Instr.fieldAt 27 (pV b o) 3).run Tryz.prog w=.ok (.pointer (some ⟨b,o+3,none⟩)) w:=by kernel_rfl
theorem wB (b o:Nat)(w:World):(Instr.fieldAt 27 (pV b o) 4).run Tryz.prog w=.ok (.pointer (some ⟨b,o+4,none⟩)) w:=by kernel_rfl
theorem wA (b o:Nat)(w:World):(Instr.fieldAt 27 (pV b o) 5).run Tryz.prog w=.ok (.pointer (some ⟨b,o+5,none⟩)) w:=by kernel_rfl
theorem wz (b o:Nat)(w:World):(Instr.fieldAt 27 (pV b o) 6).run Tryz.prog w=.ok (.pointer (some ⟨b,o+6,none⟩)) w:=by kernel_rfl
theorem iN (b o:Nat)(w:World):(Instr.fieldAt 29 (pV b o) 0).run Tryz.prog w=.ok (pV b o) w:=by kernel_rfl
theorem nB (b o:Nat)(w:World):(Instr.fieldAt 29 (pV b o) 1).run Tryz.prog w=.ok (.pointer (some ⟨b,o+1,none⟩)) w:=by kernel_rfl
theorem wy (b o:Nat)(w:World):(Instr.fieldAt 29 (pV b o) 2).run Tryz.prog w=.ok (.pointer (some ⟨b,o+2,none⟩)) w:=by kernel_rfl
theorem wx (b o:Nat)(w:World):(Instr.fieldAt 37 (pV b o) 0).run Tryz.prog w=.ok (pV b o) w:=by kernel_rfl
theorem jz (b o:Nat)(w:World):(Instr.fieldAt 37 (pV b o) 1).run Tryz.prog w=.ok (.pointer (some ⟨b,o+1,none⟩)) w:=by kernel_rfl
theorem tq (b o:Nat)(w:World):(Instr.fieldAt 37 (pV b o) 2).run Tryz.prog w=.ok (.pointer (some ⟨b,o+2,none⟩)) w:=by kernel_rfl
theorem iM (b o:Nat)(w:World):(Instr.fieldAt 37 (pV b o) 3).run Tryz.prog w=.ok (.pointer (some ⟨b,o+3,none⟩)) w:=by kernel_rfl
theorem eQ (b o:Nat)(w:World):(Instr.fieldAt 37 (pV b o) 4).run Tryz.prog w=.ok (.pointer (some ⟨b,o+4,none⟩)) w:=by kernel_rfl
theorem rb (b o:Nat)(w:World):(Instr.fieldAt 37 (pV b o) 5).run Tryz.prog w=.ok (.pointer (some ⟨b,o+5,none⟩)) w:=by kernel_rfl
theorem ww (b o:Nat)(w:World):(Instr.fieldAt 44 (pV b o) 0).run Tryz.prog w=.ok (pV b o) w:=by kernel_rfl
theorem tp (b o:Nat)(w:World):(Instr.fieldAt 44 (pV b o) 1).run Tryz.prog w=.ok (.pointer (some ⟨b,o+1,none⟩)) w:=by kernel_rfl
theorem ra (b o:Nat)(w:World):(Instr.fieldAt 44 (pV b o) 2).run Tryz.prog w=.ok (.pointer (some ⟨b,o+2,none⟩)) w:=by kernel_rfl
theorem wv (b o:Nat)(w:World):(Instr.fieldAt 46 (pV b o) 0).run Tryz.prog w=.ok (pV b o) w:=by kernel_rfl
theorem wu (b o:Nat)(w:World):(Instr.fieldAt 46 (pV b o) 1).run Tryz.prog w=.ok (.pointer (some ⟨b,o+1,none⟩)) w:=by kernel_rfl
theorem wt (b o:Nat)(w:World):(Instr.fieldAt 46 (pV b o) 2).run Tryz.prog w=.ok (.pointer (some ⟨b,o+2,none⟩)) w:=by kernel_rfl
theorem tn (b o:Nat)(w:World):(Instr.fieldAt 46 (pV b o) 3).run Tryz.prog w=.ok (.pointer (some ⟨b,o+5,none⟩)) w:=by kernel_rfl
theorem tk (b o:Nat)(w:World):(Instr.fieldAt 46 (pV b o) 4).run Tryz.prog w=.ok (.pointer (some ⟨b,o+8,none⟩)) w:=by kernel_rfl
theorem pi (b o:Nat)(w:World):(Instr.fieldAt 52 (pV b o) 0).run Tryz.prog w=.ok (pV b o) w:=by kernel_rfl
theorem qZ (b o:Nat)(w:World):(Instr.fieldAt 52 (pV b o) 1).run Tryz.prog w=.ok (.pointer (some ⟨b,o+3,none⟩)) w:=by kernel_rfl
theorem tj (b o:Nat)(w:World):(Instr.fieldAt 52 (pV b o) 2).run Tryz.prog w=.ok (.pointer (some ⟨b,o+4,none⟩)) w:=by kernel_rfl
theorem ph (b o:Nat)(w:World):(Instr.fieldAt 52 (pV b o) 3).run Tryz.prog w=.ok (.pointer (some ⟨b,o+7,none⟩)) w:=by kernel_rfl
theorem pg (b o:Nat)(w:World):(Instr.fieldAt 52 (pV b o) 4).run Tryz.prog w=.ok (.pointer (some ⟨b,o+10,none⟩)) w:=by kernel_rfl
theorem ti (b o:Nat)(w:World):(Instr.fieldAt 67 (pV b o) 1).run Tryz.prog w=.ok (.pointer (some ⟨b,o+1,none⟩)) w:=by kernel_rfl
theorem th (b o:Nat)(w:World):(Instr.fieldAt 73 (pV b o) 0).run Tryz.prog w=.ok (pV b o) w:=by kernel_rfl
theorem tg (b o:Nat)(w:World):(Instr.fieldAt 73 (pV b o) 1).run Tryz.prog w=.ok (.pointer (some ⟨b,o+3,none⟩)) w:=by kernel_rfl
theorem gH (b o:Nat)(w:World):(Instr.fieldAt 73 (pV b o) 3).run Tryz.prog w=.ok (.pointer (some ⟨b,o+11,none⟩)) w:=by kernel_rfl
theorem ws (b o:Nat)(w:World):(Instr.fieldAt 73 (pV b o) 4).run Tryz.prog w=.ok (.pointer (some ⟨b,o+12,none⟩)) w:=by kernel_rfl
theorem wr (b o:Nat)(w:World):(Instr.fieldAt 73 (pV b o) 6).run Tryz.prog w=.ok (.pointer (some ⟨b,o+14,none⟩)) w:=by kernel_rfl
theorem di (b o:Nat)(w:World):(Instr.fieldAt 88 (pV b o) 0).run Tryz.prog w=.ok (pV b o) w:=by kernel_rfl
theorem kC (b o:Nat)(w:World):(Instr.fieldAt 88 (pV b o) 1).run Tryz.prog w=.ok (.pointer (some ⟨b,o+6,none⟩)) w:=by kernel_rfl
theorem tf (b o:Nat)(w:World):(Instr.fieldAt 88 (pV b o) 2).run Tryz.prog w=.ok (.pointer (some ⟨b,o+7,none⟩)) w:=by kernel_rfl
theorem pf (b o:Nat)(w:World):(Instr.fieldAt 96 (pV b o) 0).run Tryz.prog w=.ok (pV b o) w:=by kernel_rfl
theorem te (b o:Nat)(w:World):(Instr.fieldAt 96 (pV b o) 1).run Tryz.prog w=.ok (.pointer (some ⟨b,o+1,none⟩)) w:=by kernel_rfl
theorem nA (b o:Nat)(w:World):(Instr.fieldAt 99 (pV b o) 0).run Tryz.prog w=.ok (pV b o) w:=by kernel_rfl
theorem qY (b o:Nat)(w:World):(Instr.fieldAt 99 (pV b o) 1).run Tryz.prog w=.ok (.pointer (some ⟨b,o+2,none⟩)) w:=by kernel_rfl
theorem nz (b o:Nat)(w:World):(Instr.fieldAt 99 (pV b o) 3).run Tryz.prog w=.ok (.pointer (some ⟨b,o+4,none⟩)) w:=by kernel_rfl
theorem nE (b o:Nat)(w:World):(Instr.fieldAt 114 (pV b o) 0).run Tryz.prog w=.ok (pV b o) w:=by kernel_rfl
theorem nD (b o:Nat)(w:World):(Instr.fieldAt 114 (pV b o) 1).run Tryz.prog w=.ok (.pointer (some ⟨b,o+1,none⟩)) w:=by kernel_rfl
theorem ly (b o:Nat)(w:World):(Instr.fieldAt 114 (pV b o) 2).run Tryz.prog w=.ok (.pointer (some ⟨b,o+4,none⟩)) w:=by kernel_rfl
theorem nC (b o:Nat)(w:World):(Instr.fieldAt 114 (pV b o) 3).run Tryz.prog w=.ok (.pointer (some ⟨b,o+5,none⟩)) w:=by kernel_rfl
theorem ke (b o:Nat)(w:World):(Instr.fieldAt 118 (pV b o) 0).run Tryz.prog w=.ok (pV b o) w:=by kernel_rfl
theorem pN (b o:Nat)(w:World):(Instr.fieldAt 118 (pV b o) 1).run Tryz.prog w=.ok (.pointer (some ⟨b,o+1,none⟩)) w:=by kernel_rfl
theorem uK (b o:Nat)(w:World):(Instr.fieldAt 143 (pV b o) 0).run Tryz.prog w=.ok (pV b o) w:=by kernel_rfl
theorem dc:eI Tryz.prog 3=true:=by kernel_rfl
theorem sh:eI Tryz.prog 4=true:=by kernel_rfl
theorem xD:eI Tryz.prog 9=true:=by kernel_rfl
theorem oE:eI Tryz.prog 22=true:=by kernel_rfl
theorem eR:eI Tryz.prog 35=true:=by kernel_rfl
theorem jv:eI Tryz.prog 49=true:=by kernel_rfl
theorem xf:eI Tryz.prog 64=true:=by kernel_rfl
theorem qA:eI Tryz.prog 94=true:=by kernel_rfl
theorem qz:eI Tryz.prog 97=true:=by kernel_rfl
theorem xF:eI Tryz.prog 109=true:=by kernel_rfl
theorem jb:eI Tryz.prog 115=true:=by kernel_rfl
theorem si:eI Tryz.prog 116=true:=by kernel_rfl
theorem xE:eI Tryz.prog 141=true:=by kernel_rfl
theorem xq:lI Tryz.prog 27 7=true:=by kernel_rfl
theorem aJ:lI Tryz.prog 29 3=true:=by kernel_rfl
theorem cy:lI Tryz.prog 37 6=true:=by kernel_rfl
theorem ci:lI Tryz.prog 44 3=true:=by kernel_rfl
theorem cH:lI Tryz.prog 46 11=true:=by kernel_rfl
theorem dQ:lI Tryz.prog 52 13=true:=by kernel_rfl
theorem xp:lI Tryz.prog 96 2=true:=by kernel_rfl
theorem jU:lI Tryz.prog 114 6=true:=by kernel_rfl
theorem fK:dL Tryz.prog 3 1=true:=by kernel_rfl
theorem pn:dL Tryz.prog 4 1=true:=by kernel_rfl
theorem aT:dL Tryz.prog 29 3=true:=by kernel_rfl
theorem mI:dL Tryz.prog 35 1=true:=by kernel_rfl
theorem eg:dL Tryz.prog 37 6=true:=by kernel_rfl
theorem fu:dL Tryz.prog 44 3=true:=by kernel_rfl
theorem xA:dL Tryz.prog 46 11=true:=by kernel_rfl
theorem da:dL Tryz.prog 52 13=true:=by kernel_rfl
theorem xz:dL Tryz.prog 94 1=true:=by kernel_rfl
theorem wc:dL Tryz.prog 109 1=true:=by kernel_rfl
theorem co:dL Tryz.prog 114 6=true:=by kernel_rfl
theorem wb:dL Tryz.prog 115 1=true:=by kernel_rfl
theorem yP (w:World):(zeroValue 3).run Tryz.prog w=.ok (iV 0) w:=by kernel_rfl
theorem xc (w:World):(zeroValue 4).run Tryz.prog w=.ok (.bool false) w:=by kernel_rfl
theorem ee (w:World):(zeroValue 29).run Tryz.prog w=.ok (.agg #[iV 0,iV 0,.string ⟨#[]⟩]) w:=by kernel_rfl
theorem kZ (w:World):(zeroValue 37).run Tryz.prog w=.ok (.agg #[iV 0,iV 0,iV 0,iV 0,Y none 0 0,Y none 0 0]) w:=by kernel_rfl
theorem sc (w:World):(zeroValue 44).run Tryz.prog w=.ok (.agg #[iV 0,iV 0,.string ⟨#[]⟩]) w:=by kernel_rfl
theorem xx (w:World):(zeroValue 46).run Tryz.prog w=.ok (.agg #[iV 0,iV 0,iV 0,iV 0,.string ⟨#[]⟩,iV 0,iV 0,.string ⟨#[]⟩,iV 0,iV 0,.string ⟨#[]⟩]) w:=by kernel_rfl
theorem eS (w:World):(zeroValue 52).run Tryz.prog w=.ok (.agg #[iV 0,iV 0,.string ⟨#[]⟩,iV 0,iV 0,iV 0,.string ⟨#[]⟩,iV 0,iV 0,.string ⟨#[]⟩,iV 0,iV 0,.string ⟨#[]⟩]) w:=by kernel_rfl
theorem vW (w:World):(zeroValue 109).run Tryz.prog w=.ok (Y none 0 0) w:=by kernel_rfl
theorem kl (w:World):(zeroValue 114).run Tryz.prog w=.ok (.agg #[iV 0,iV 0,iV 0,.string ⟨#[]⟩,iV 0,iV 0]) w:=by kernel_rfl
theorem uJ (x0_:Int)(x1_:Int)(x2_:Int)(x3_:Int)(x4_a:Option Addr)(x4_n x4_c:Nat)(x5_a:Option Addr)(x5_n x5_c:Nat)(w:World):(Instr.field 37 (.agg #[iV x0_,iV x1_,iV x2_,iV x3_,.slice x4_a x4_n x4_c,.slice x5_a x5_n x5_c]) 0).run Tryz.prog w=.ok (iV x0_) w:=by kernel_rfl
theorem mZ (x1_:Int)(x2_:Int)(x3_:Int)(x4_:Int)(x5_:Int)(x6_:Int)(w:World):(Instr.build 27 #[(1,iV x1_),(2,iV x2_),(3,iV x3_),(4,iV x4_),(5,iV x5_),(6,iV x6_)]).run Tryz.prog w=.ok (.agg #[iV 0,iV x1_,iV x2_,iV x3_,iV x4_,iV x5_,iV x6_]) w:=by kernel_rfl
theorem dw  (w:World):(Instr.build 29 #[]).run Tryz.prog w=.ok (.agg #[iV 0,iV 0,.string ⟨#[]⟩]) w:=by kernel_rfl
theorem nO (x0_:Int)(w:World):(Instr.build 29 #[(0,iV x0_)]).run Tryz.prog w=.ok (.agg #[iV x0_,iV 0,.string ⟨#[]⟩]) w:=by kernel_rfl
theorem kG (x0_:Int)(x1_:Int)(w:World):(Instr.build 29 #[(0,iV x0_),(1,iV x1_)]).run Tryz.prog w=.ok (.agg #[iV x0_,iV x1_,.string ⟨#[]⟩]) w:=by kernel_rfl
theorem tI  (w:World):(Instr.build 37 #[]).run Tryz.prog w=.ok (.agg #[iV 0,iV 0,iV 0,iV 0,Y none 0 0,Y none 0 0]) w:=by kernel_rfl
theorem r6 (x0_:Int)(w:World):(Instr.build 37 #[(0,iV x0_)]).run Tryz.prog w=.ok (.agg #[iV x0_,iV 0,iV 0,iV 0,Y none 0 0,Y none 0 0]) w:=by kernel_rfl
theorem rx (x0_:Int)(x2_:Int)(x4_a:Option Addr)(x4_n x4_c:Nat)(w:World):(Instr.build 37 #[(0,iV x0_),(2,iV x2_),(4,.slice x4_a x4_n x4_c)]).run Tryz.prog w=.ok (.agg #[iV x0_,iV 0,iV x2_,iV 0,.slice x4_a x4_n x4_c,Y none 0 0]) w:=by kernel_rfl
theorem pY (x0_:Int)(x2_:Int)(x4_a:Option Addr)(x4_n x4_c:Nat)(x5_a:Option Addr)(x5_n x5_c:Nat)(w:World):(Instr.build 37 #[(0,iV x0_),(2,iV x2_),(4,.slice x4_a x4_n x4_c),(5,.slice x5_a x5_n x5_c)]).run Tryz.prog w=.ok (.agg #[iV x0_,iV 0,iV x2_,iV 0,.slice x4_a x4_n x4_c,.slice x5_a x5_n x5_c]) w:=by kernel_rfl
theorem sO (x0_:Int)(x4_a:Option Addr)(x4_n x4_c:Nat)(w:World):(Instr.build 37 #[(0,iV x0_),(4,.slice x4_a x4_n x4_c)]).run Tryz.prog w=.ok (.agg #[iV x0_,iV 0,iV 0,iV 0,.slice x4_a x4_n x4_c,Y none 0 0]) w:=by kernel_rfl
theorem sN (x0_:Int)(x2_:ByteArray)(w:World):(Instr.build 44 #[(0,iV x0_),(2,.string x2_)]).run Tryz.prog w=.ok (.agg #[iV x0_,iV 0,.string x2_]) w:=by kernel_rfl
theorem vL (x1_:Int)(w:World):(Instr.build 44 #[(1,iV x1_)]).run Tryz.prog w=.ok (.agg #[iV 0,iV x1_,.string ⟨#[]⟩]) w:=by kernel_rfl
theorem rv (x0_:Int)(x1_:Int)(x2_0_:Int)(x2_1_:Int)(x2_2_:ByteArray)(w:World):(Instr.build 46 #[(0,iV x0_),(1,iV x1_),(2,.agg #[iV x2_0_,iV x2_1_,.string x2_2_])]).run Tryz.prog w=.ok (.agg #[iV x0_,iV x1_,iV x2_0_,iV x2_1_,.string x2_2_,iV 0,iV 0,.string ⟨#[]⟩,iV 0,iV 0,.string ⟨#[]⟩]) w:=by kernel_rfl
theorem jD  (w:World):(Instr.build 52 #[]).run Tryz.prog w=.ok (.agg #[iV 0,iV 0,.string ⟨#[]⟩,iV 0,iV 0,iV 0,.string ⟨#[]⟩,iV 0,iV 0,.string ⟨#[]⟩,iV 0,iV 0,.string ⟨#[]⟩]) w:=by kernel_rfl
theorem vK (x0_0_:Int)(x0_1_:Int)(x0_2_:ByteArray)(w:World):(Instr.build 52 #[(0,.agg #[iV x0_0_,iV x0_1_,.string x0_2_])]).run Tryz.prog w=.ok (.agg #[iV x0_0_,iV x0_1_,.string x0_2_,iV 0,iV 0,iV 0,.string ⟨#[]⟩,iV 0,iV 0,.string ⟨#[]⟩,iV 0,iV 0,.string ⟨#[]⟩]) w:=by kernel_rfl
theorem sM (x0_0_:Int)(x0_1_:Int)(x0_2_:ByteArray)(x1_:Int)(w:World):(Instr.build 52 #[(0,.agg #[iV x0_0_,iV x0_1_,.string x0_2_]),(1,iV x1_)]).run Tryz.prog w=.ok (.agg #[iV x0_0_,iV x0_1_,.string x0_2_,iV x1_,iV 0,iV 0,.string ⟨#[]⟩,iV 0,iV 0,.string ⟨#[]⟩,iV 0,iV 0,.string ⟨#[]⟩]) w:=by kernel_rfl
theorem ru (x0_0_:Int)(x0_1_:Int)(x0_2_:ByteArray)(x1_:Int)(x2_0_:Int)(x2_1_:Int)(x2_2_:ByteArray)(w:World):(Instr.build 52 #[(0,.agg #[iV x0_0_,iV x0_1_,.string x0_2_]),(1,iV x1_),(2,.agg #[iV x2_0_,iV x2_1_,.string x2_2_])]).run Tryz.prog w=.ok (.agg #[iV x0_0_,iV x0_1_,.string x0_2_,iV x1_,iV x2_0_,iV x2_1_,.string x2_2_,iV 0,iV 0,.string ⟨#[]⟩,iV 0,iV 0,.string ⟨#[]⟩]) w:=by kernel_rfl
theorem rt (x1_0_:Int)(x1_1_:Int)(x1_2_:Int)(x1_3_:Int)(x1_4_:Int)(x1_5_:Int)(x1_6_:Int)(x3_:Option Addr)(x4_:Option Addr)(w:World):(Instr.build 73 #[(1,.agg #[iV x1_0_,iV x1_1_,iV x1_2_,iV x1_3_,iV x1_4_,iV x1_5_,iV x1_6_]),(3,.pointer x3_),(4,.pointer x4_)]).run Tryz.prog w=.ok (.agg #[iV 0,iV 0,iV 0,iV x1_0_,iV x1_1_,iV x1_2_,iV x1_3_,iV x1_4_,iV x1_5_,iV x1_6_,.nilIface,.pointer x3_,.pointer x4_,Y none 0 0,iV 0,iV 0,iV 0,Y none 0 0,Y none 0 0]) w:=by kernel_rfl
theorem rq (x0_0_:Int)(x0_1_:Int)(x0_2_:Int)(x0_3_:Int)(x0_4_a:Option Addr)(x0_4_n x0_4_c:Nat)(x0_5_a:Option Addr)(x0_5_n x0_5_c:Nat)(x1_:Option Addr)(x2_0_:Int)(x2_1_:Int)(x2_2_:ByteArray)(w:World):(Instr.build 88 #[(0,.agg #[iV x0_0_,iV x0_1_,iV x0_2_,iV x0_3_,.slice x0_4_a x0_4_n x0_4_c,.slice x0_5_a x0_5_n x0_5_c]),(1,.pointer x1_),(2,.agg #[iV x2_0_,iV x2_1_,.string x2_2_])]).run Tryz.prog w=.ok (.agg #[iV x0_0_,iV x0_1_,iV x0_2_,iV x0_3_,.slice x0_4_a x0_4_n x0_4_c,.slice x0_5_a x0_5_n x0_5_c,.pointer x1_,iV x2_0_,iV x2_1_,.string x2_2_]) w:=by kernel_rfl
theorem vJ (x3_:Option Addr)(w:World):(Instr.build 99 #[(3,.pointer x3_)]).run Tryz.prog w=.ok (.agg #[Y none 0 0,Y none 0 0,Y none 0 0,Y none 0 0,.pointer x3_]) w:=by kernel_rfl
theorem vM  (w:World):(Instr.build 114 #[]).run Tryz.prog w=.ok (.agg #[iV 0,iV 0,iV 0,.string ⟨#[]⟩,iV 0,iV 0]) w:=by kernel_rfl
theorem ue (x0_:Int)(w:World):(Instr.build 114 #[(0,iV x0_)]).run Tryz.prog w=.ok (.agg #[iV x0_,iV 0,iV 0,.string ⟨#[]⟩,iV 0,iV 0]) w:=by kernel_rfl
theorem o5 (x0_:Int)(x1_0_:Int)(x1_1_:Int)(x1_2_:ByteArray)(x2_:Int)(x3_:Int)(w:World):(Instr.build 114 #[(0,iV x0_),(1,.agg #[iV x1_0_,iV x1_1_,.string x1_2_]),(2,iV x2_),(3,iV x3_)]).run Tryz.prog w=.ok (.agg #[iV x0_,iV x1_0_,iV x1_1_,.string x1_2_,iV x2_,iV x3_]) w:=by kernel_rfl
theorem r8 (x1_0_:Int)(x1_1_:Int)(x1_2_:ByteArray)(x2_:Int)(w:World):(Instr.build 114 #[(1,.agg #[iV x1_0_,iV x1_1_,.string x1_2_]),(2,iV x2_)]).run Tryz.prog w=.ok (.agg #[iV 0,iV x1_0_,iV x1_1_,.string x1_2_,iV x2_,iV 0]) w:=by kernel_rfl
theorem r7 (x0_a:Option Addr)(x0_n x0_c:Nat)(x1_:Option Nat)(w:World):(Instr.build 118 #[(0,.slice x0_a x0_n x0_c),(1,.map x1_)]).run Tryz.prog w=.ok (.agg #[.slice x0_a x0_n x0_c,.map x1_]) w:=by kernel_rfl
theorem ud (x0_:Option Nat)(w:World):(Instr.build 143 #[(0,.map x0_)]).run Tryz.prog w=.ok (.agg #[.map x0_]) w:=by kernel_rfl
theorem mD (x0_:Int)(x1_0_:Int)(x1_1_:Int)(x1_2_:ByteArray)(x2_:Int)(w:World):(Instr.build 154 #[(0,iV x0_),(1,.agg #[iV x1_0_,iV x1_1_,.string x1_2_]),(2,iV x2_)]).run Tryz.prog w=.ok (.agg #[iV x0_,iV x1_0_,iV x1_1_,.string x1_2_,iV x2_]) w:=by kernel_rfl
theorem vI  (w:World):(Instr.buildSlice 35 0 #[]).run Tryz.prog w=.ok (.slice (some ⟨w.heap.size,0,none⟩) 0 0) (w.alloc (.cells #[] 29)):=by kernel_rfl
theorem kj (x0_0_:Int)(x0_1_:Int)(x0_2_:ByteArray)(w:World):(Instr.buildSlice 35 1 #[(0,.agg #[iV x0_0_,iV x0_1_,.string x0_2_])]).run Tryz.prog w=.ok (.slice (some ⟨w.heap.size,0,none⟩) 1 1) (w.alloc (.cells #[iV x0_0_,iV x0_1_,.string x0_2_] 29)):=by kernel_rfl
theorem r5 (x0_0_:Int)(x0_1_:Int)(x0_2_:ByteArray)(x1_0_:Int)(x1_1_:Int)(x1_2_:ByteArray)(w:World):(Instr.buildSlice 35 2 #[(0,.agg #[iV x0_0_,iV x0_1_,.string x0_2_]),(1,.agg #[iV x1_0_,iV x1_1_,.string x1_2_])]).run Tryz.prog w=.ok (.slice (some ⟨w.heap.size,0,none⟩) 2 2) (w.alloc (.cells #[iV x0_0_,iV x0_1_,.string x0_2_,iV x1_0_,iV x1_1_,.string x1_2_] 29)):=by kernel_rfl
theorem vH (x0_0_:Int)(x0_1_:Int)(x0_2_:ByteArray)(x1_0_:Int)(x1_1_:Int)(x1_2_:ByteArray)(x2_0_:Int)(x2_1_:Int)(x2_2_:ByteArray)(x3_0_:Int)(x3_1_:Int)(x3_2_:ByteArray)(w:World):(Instr.buildSlice 35 4 #[(0,.agg #[iV x0_0_,iV x0_1_,.string x0_2_]),(1,.agg #[iV x1_0_,iV x1_1_,.string x1_2_]),(2,.agg #[iV x2_0_,iV x2_1_,.string x2_2_]),(3,.agg #[iV x3_0_,iV x3_1_,.string x3_2_])]).run Tryz.prog w=.ok (.slice (some ⟨w.heap.size,0,none⟩) 4 4) (w.alloc (.cells #[iV x0_0_,iV x0_1_,.string x0_2_,iV x1_0_,iV x1_1_,.string x1_2_,iV x2_0_,iV x2_1_,.string x2_2_,iV x3_0_,iV x3_1_,.string x3_2_] 29)):=by kernel_rfl
theorem rZ (x0_0_:Int)(x0_1_:Int)(x0_2_:ByteArray)(w:World):(Instr.buildSlice 41 1 #[(0,.agg #[iV x0_0_,iV x0_1_,.string x0_2_])]).run Tryz.prog w=.ok (.slice (some ⟨w.heap.size,0,none⟩) 1 1) (w.alloc (.cells #[iV x0_0_,iV x0_1_,.string x0_2_] 44)):=by kernel_rfl
theorem vG (x0_0_0_:Int)(x0_0_1_:Int)(x0_0_2_:ByteArray)(x0_1_:Int)(x0_2_0_:Int)(x0_2_1_:Int)(x0_2_2_:ByteArray)(x0_3_0_:Int)(x0_3_1_:Int)(x0_3_2_:ByteArray)(x0_4_0_:Int)(x0_4_1_:Int)(x0_4_2_:ByteArray)(w:World):(Instr.buildSlice 60 1 #[(0,.agg #[iV x0_0_0_,iV x0_0_1_,.string x0_0_2_,iV x0_1_,iV x0_2_0_,iV x0_2_1_,.string x0_2_2_,iV x0_3_0_,iV x0_3_1_,.string x0_3_2_,iV x0_4_0_,iV x0_4_1_,.string x0_4_2_])]).run Tryz.prog w=.ok (.slice (some ⟨w.heap.size,0,none⟩) 1 1) (w.alloc (.cells #[iV x0_0_0_,iV x0_0_1_,.string x0_0_2_,iV x0_1_,iV x0_2_0_,iV x0_2_1_,.string x0_2_2_,iV x0_3_0_,iV x0_3_1_,.string x0_3_2_,iV x0_4_0_,iV x0_4_1_,.string x0_4_2_] 52)):=by kernel_rfl
theorem vF (x0_0_:Int)(x0_1_:Int)(x0_2_:Int)(x0_3_:Int)(x0_4_a:Option Addr)(x0_4_n x0_4_c:Nat)(x0_5_a:Option Addr)(x0_5_n x0_5_c:Nat)(w:World):(Instr.buildSlice 94 1 #[(0,.agg #[iV x0_0_,iV x0_1_,iV x0_2_,iV x0_3_,.slice x0_4_a x0_4_n x0_4_c,.slice x0_5_a x0_5_n x0_5_c])]).run Tryz.prog w=.ok (.slice (some ⟨w.heap.size,0,none⟩) 1 1) (w.alloc (.cells #[iV x0_0_,iV x0_1_,iV x0_2_,iV x0_3_,.slice x0_4_a x0_4_n x0_4_c,.slice x0_5_a x0_5_n x0_5_c] 37)):=by kernel_rfl
theorem qJ (x0_:Int)(w:World):(Instr.buildSlice 109 1 #[(0,iV x0_)]).run Tryz.prog w=.ok (.slice (some ⟨w.heap.size,0,none⟩) 1 1) (w.alloc (.cells #[iV x0_] 3)):=by kernel_rfl
theorem ot (x0_0_:Int)(x0_1_0_:Int)(x0_1_1_:Int)(x0_1_2_:ByteArray)(x0_2_:Int)(x0_3_:Int)(w:World):(Instr.buildSlice 115 1 #[(0,.agg #[iV x0_0_,iV x0_1_0_,iV x0_1_1_,.string x0_1_2_,iV x0_2_,iV x0_3_])]).run Tryz.prog w=.ok (.slice (some ⟨w.heap.size,0,none⟩) 1 1) (w.alloc (.cells #[iV x0_0_,iV x0_1_0_,iV x0_1_1_,.string x0_1_2_,iV x0_2_,iV x0_3_] 114)):=by kernel_rfl
theorem zG:nb Tryz.prog 3 1 8=true:=by kernel_rfl
theorem ul:nb Tryz.prog 29 3 32=true:=by kernel_rfl
theorem zs:nb Tryz.prog 37 6 80=true:=by kernel_rfl
theorem yQ:nb Tryz.prog 44 3 32=true:=by kernel_rfl
theorem zr:nb Tryz.prog 52 13 136=true:=by kernel_rfl
theorem yR:nb Tryz.prog 114 6 56=true:=by kernel_rfl
instance:Fc (eI Tryz.prog 3=true):=⟨dc⟩
instance:Fc (eI Tryz.prog 4=true):=⟨sh⟩
instance:Fc (eI Tryz.prog 9=true):=⟨xD⟩
instance:Fc (eI Tryz.prog 22=true):=⟨oE⟩
instance:Fc (eI Tryz.prog 35=true):=⟨eR⟩
instance:Fc (eI Tryz.prog 49=true):=⟨jv⟩
instance:Fc (eI Tryz.prog 64=true):=⟨xf⟩
instance:Fc (eI Tryz.prog 94=true):=⟨qA⟩
instance:Fc (eI Tryz.prog 97=true):=⟨qz⟩
instance:Fc (eI Tryz.prog 109=true):=⟨xF⟩
instance:Fc (eI Tryz.prog 115=true):=⟨jb⟩
instance:Fc (eI Tryz.prog 116=true):=⟨si⟩
instance:Fc (eI Tryz.prog 141=true):=⟨xE⟩
instance:FcA0 Tryz.prog 27 0:=⟨wE⟩
instance:FcA Tryz.prog 27 1 1:=⟨wD⟩
instance:FcA Tryz.prog 27 2 2:=⟨wC⟩
instance:FcA Tryz.prog 27 3 3:=⟨tr⟩
instance:FcA Tryz.prog 27 4 4:=⟨wB⟩
instance:FcA Tryz.prog 27 5 5:=⟨wA⟩
instance:FcA Tryz.prog 27 6 6:=⟨wz⟩
instance:FcA0 Tryz.prog 29 0:=⟨iN⟩
instance:FcA Tryz.prog 29 1 1:=⟨nB⟩
instance:FcA Tryz.prog 29 2 2:=⟨wy⟩
instance:FcA0 Tryz.prog 37 0:=⟨wx⟩
instance:FcA Tryz.prog 37 1 1:=⟨jz⟩
instance:FcA Tryz.prog 37 2 2:=⟨tq⟩
instance:FcA Tryz.prog 37 3 3:=⟨iM⟩
instance:FcA Tryz.prog 37 4 4:=⟨eQ⟩
instance:FcA Tryz.prog 37 5 5:=⟨rb⟩
instance:FcA0 Tryz.prog 44 0:=⟨ww⟩
instance:FcA Tryz.prog 44 1 1:=⟨tp⟩
instance:FcA Tryz.prog 44 2 2:=⟨ra⟩
instance:FcA0 Tryz.prog 46 0:=⟨wv⟩
instance:FcA Tryz.prog 46 1 1:=⟨wu⟩
instance:FcA Tryz.prog 46 2 2:=⟨wt⟩
instance:FcA Tryz.prog 46 3 5:=⟨tn⟩
instance:FcA Tryz.prog 46 4 8:=⟨tk⟩
instance:FcA0 Tryz.prog 52 0:=⟨pi⟩
instance:FcA Tryz.prog 52 1 3:=⟨qZ⟩
instance:FcA Tryz.prog 52 2 4:=⟨tj⟩
instance:FcA Tryz.prog 52 3 7:=⟨ph⟩
instance:FcA Tryz.prog 52 4 10:=⟨pg⟩
instance:FcA Tryz.prog 67 1 1:=⟨ti⟩
instance:FcA0 Tryz.prog 73 0:=⟨th⟩
instance:FcA Tryz.prog 73 1 3:=⟨tg⟩
instance:FcA Tryz.prog 73 3 11:=⟨gH⟩
instance:FcA Tryz.prog 73 4 12:=⟨ws⟩
instance:FcA Tryz.prog 73 6 14:=⟨wr⟩
instance:FcA0 Tryz.prog 88 0:=⟨di⟩
instance:FcA Tryz.prog 88 1 6:=⟨kC⟩
instance:FcA Tryz.prog 88 2 7:=⟨tf⟩
instance:FcA0 Tryz.prog 96 0:=⟨pf⟩
instance:FcA Tryz.prog 96 1 1:=⟨te⟩
instance:FcA0 Tryz.prog 99 0:=⟨nA⟩
instance:FcA Tryz.prog 99 1 2:=⟨qY⟩
instance:FcA Tryz.prog 99 3 4:=⟨nz⟩
instance:FcA0 Tryz.prog 114 0:=⟨nE⟩
instance:FcA Tryz.prog 114 1 1:=⟨nD⟩
instance:FcA Tryz.prog 114 2 4:=⟨ly⟩
instance:FcA Tryz.prog 114 3 5:=⟨nC⟩
instance:FcA0 Tryz.prog 118 0:=⟨ke⟩
instance:FcA Tryz.prog 118 1 1:=⟨pN⟩
instance:FcA0 Tryz.prog 143 0:=⟨uK⟩
theorem qD:Tryz.prog.eqGuardType Tryz.prog.depth 29=false:=by kernel_rfl
theorem tt (x y:AA)(w:World):(Op.equalIn 10000 29 (.agg #[iV x.Kind,iV x.N,.string x.S]) (.agg #[iV y.Kind,iV y.N,.string y.S])).run Tryz.prog w=.ok (decide (x=y)) w:=by
 obtain ⟨xKind,xN,xS⟩:=x;obtain ⟨yKind,yN,yS⟩:=y;show (Op.equalIn 10000 29 (.agg #[iV xKind,iV xN,.string xS]) (.agg #[iV yKind,iV yN,.string yS])).run Tryz.prog w=_
 go_simp
 simp only [nN];by_cases h0:xKind=yKind<;>by_cases h1:xN=yN<;>by_cases h2:xS=yS<;>simp [h0,h1,h2]
theorem lA {s:bx}{C:World→Prop}{d:Option Nat}{ty u:TypeId}{pos:String}{af:Array Edge}{gd:Option (Nat×Bool)}{a b:Operand}{x y:AA}(hx:bG s a=some (.agg #[iV x.Kind,iV x.N,.string x.S]))(hy:bG s b=some (.agg #[iV y.Kind,iV y.N,.string y.S])):Ev Tryz.prog s C ⟨d,.binOp .eql 29 a b u,ty,pos,af,gd⟩ (.bool (decide (x=y))):=
 cQ hx hy fun w=>by
  rw [Sem.run_bind,run_eqGuard_agg w _ _ _ _ _ _ qD];simp only [Result.andThen_ok];rw [run_eql_struct,tt];rfl
theorem t9 {s:bx}{C:World→Prop}{d:Option Nat}{ty u:TypeId}{pos:String}{af:Array Edge}{gd:Option (Nat×Bool)}{a b:Operand}{x y:AA}(hx:bG s a=some (.agg #[iV x.Kind,iV x.N,.string x.S]))(hy:bG s b=some (.agg #[iV y.Kind,iV y.N,.string y.S])):Ev Tryz.prog s C ⟨d,.binOp .neq 29 a b u,ty,pos,af,gd⟩ (.bool (!decide (x=y))):=
 cQ hx hy fun w=>by
  rw [Sem.run_bind,run_eqGuard_agg w _ _ _ _ _ _ qD];simp only [Result.andThen_ok];rw [run_neq_struct,tt];rfl
theorem t5:Tryz.prog.eqGuardType Tryz.prog.depth 44=false:=by kernel_rfl
theorem wI (x y:Au)(w:World):(Op.equalIn 10000 44 (.agg #[iV x.Kind,iV x.N,.string x.S]) (.agg #[iV y.Kind,iV y.N,.string y.S])).run Tryz.prog w=.ok (decide (x=y)) w:=by
 obtain ⟨xKind,xN,xS⟩:=x;obtain ⟨yKind,yN,yS⟩:=y;show (Op.equalIn 10000 44 (.agg #[iV xKind,iV xN,.string xS]) (.agg #[iV yKind,iV yN,.string yS])).run Tryz.prog w=_
 go_simp
 simp only [nN];by_cases h0:xKind=yKind<;>by_cases h1:xN=yN<;>by_cases h2:xS=yS<;>simp [h0,h1,h2]
theorem uN {s:bx}{C:World→Prop}{d:Option Nat}{ty u:TypeId}{pos:String}{af:Array Edge}{gd:Option (Nat×Bool)}{a b:Operand}{x y:Au}(hx:bG s a=some (.agg #[iV x.Kind,iV x.N,.string x.S]))(hy:bG s b=some (.agg #[iV y.Kind,iV y.N,.string y.S])):Ev Tryz.prog s C ⟨d,.binOp .eql 44 a b u,ty,pos,af,gd⟩ (.bool (decide (x=y))):=
 cQ hx hy fun w=>by
  rw [Sem.run_bind,run_eqGuard_agg w _ _ _ _ _ _ t5];simp only [Result.andThen_ok];rw [run_eql_struct,wI];rfl
theorem t4:Tryz.prog.eqGuardType Tryz.prog.depth 52=false:=by kernel_rfl
theorem wH (x y:Ax)(w:World):(Op.equalIn 10000 52 (.agg #[iV x.Key.Kind,iV x.Key.N,.string x.Key.S,iV x.Attrs,iV x.Value.Kind,iV x.Value.N,.string x.Value.S,iV x.Get.Kind,iV x.Get.N,.string x.Get.S,iV x.Set.Kind,iV x.Set.N,.string x.Set.S]) (.agg #[iV y.Key.Kind,iV y.Key.N,.string y.Key.S,iV y.Attrs,iV y.Value.Kind,iV y.Value.N,.string y.Value.S,iV y.Get.Kind,iV y.Get.N,.string y.Get.S,iV y.Set.Kind,iV y.Set.N,.string y.Set.S])).run Tryz.prog w=.ok (decide (x=y)) w:=by
 obtain ⟨⟨xKeyKind,xKeyN,xKeyS⟩,xAttrs,⟨xValueKind,xValueN,xValueS⟩,⟨xGetKind,xGetN,xGetS⟩,⟨xSetKind,xSetN,xSetS⟩⟩:=x;obtain ⟨⟨yKeyKind,yKeyN,yKeyS⟩,yAttrs,⟨yValueKind,yValueN,yValueS⟩,⟨yGetKind,yGetN,yGetS⟩,⟨ySetKind,ySetN,ySetS⟩⟩:=y;show (Op.equalIn 10000 52 (.agg #[iV xKeyKind,iV xKeyN,.string xKeyS,iV xAttrs,iV xValueKind,iV xValueN,.string xValueS,iV xGetKind,iV xGetN,.string xGetS,iV xSetKind,iV xSetN,.string xSetS]) (.agg #[iV yKeyKind,iV yKeyN,.string yKeyS,iV yAttrs,iV yValueKind,iV yValueN,.string yValueS,iV yGetKind,iV yGetN,.string yGetS,iV ySetKind,iV ySetN,.string ySetS])).run Tryz.prog w=_
 go_simp
 simp only [nN];by_cases h0:xKeyKind=yKeyKind
 rotate_left
 ·simp [h0]
 by_cases h1:xKeyN=yKeyN
 rotate_left
 ·simp [h0,h1]
 by_cases h2:xKeyS=yKeyS
 rotate_left
 ·simp [h0,h1,h2]
 by_cases h3:xAttrs=yAttrs
 rotate_left
 ·simp [h0,h1,h2,h3]
 by_cases h4:xValueKind=yValueKind
 rotate_left
 ·simp [h0,h1,h2,h3,h4]
 by_cases h5:xValueN=yValueN
 rotate_left
 ·simp [h0,h1,h2,h3,h4,h5]
 by_cases h6:xValueS=yValueS
 rotate_left
 ·simp [h0,h1,h2,h3,h4,h5,h6]
 by_cases h7:xGetKind=yGetKind
 rotate_left
 ·simp [h0,h1,h2,h3,h4,h5,h6,h7]
 by_cases h8:xGetN=yGetN
 rotate_left
 ·simp [h0,h1,h2,h3,h4,h5,h6,h7,h8]
 by_cases h9:xGetS=yGetS
 rotate_left
 ·simp [h0,h1,h2,h3,h4,h5,h6,h7,h8,h9]
 by_cases h10:xSetKind=ySetKind
 rotate_left
 ·simp [h0,h1,h2,h3,h4,h5,h6,h7,h8,h9,h10]
 by_cases h11:xSetN=ySetN
 rotate_left
 ·simp [h0,h1,h2,h3,h4,h5,h6,h7,h8,h9,h10,h11]
 by_cases h12:xSetS=ySetS
 rotate_left
 ·simp [h0,h1,h2,h3,h4,h5,h6,h7,h8,h9,h10,h11,h12]
 simp [h0,h1,h2,h3,h4,h5,h6,h7,h8,h9,h10,h11,h12]
theorem qE {s:bx}{C:World→Prop}{d:Option Nat}{ty u:TypeId}{pos:String}{af:Array Edge}{gd:Option (Nat×Bool)}{a b:Operand}{x y:Ax}(hx:bG s a=some (.agg #[iV x.Key.Kind,iV x.Key.N,.string x.Key.S,iV x.Attrs,iV x.Value.Kind,iV x.Value.N,.string x.Value.S,iV x.Get.Kind,iV x.Get.N,.string x.Get.S,iV x.Set.Kind,iV x.Set.N,.string x.Set.S]))(hy:bG s b=some (.agg #[iV y.Key.Kind,iV y.Key.N,.string y.Key.S,iV y.Attrs,iV y.Value.Kind,iV y.Value.N,.string y.Value.S,iV y.Get.Kind,iV y.Get.N,.string y.Get.S,iV y.Set.Kind,iV y.Set.N,.string y.Set.S])):Ev Tryz.prog s C ⟨d,.binOp .neq 52 a b u,ty,pos,af,gd⟩ (.bool (!decide (x=y))):=
 cQ hx hy fun w=>by
  rw [Sem.run_bind,run_eqGuard_agg w _ _ _ _ _ _ t4];simp only [Result.andThen_ok];rw [run_neq_struct,wH];rfl
theorem uQ (x y:AD)(w:World):(Op.equalIn 10000 154 (.agg #[iV x.up_,iV x.key_.Kind,iV x.key_.N,.string x.key_.S,iV x.attrs_]) (.agg #[iV y.up_,iV y.key_.Kind,iV y.key_.N,.string y.key_.S,iV y.attrs_])).run Tryz.prog w=.ok (decide (x=y)) w:=by
 obtain ⟨xup_,⟨xkey_Kind,xkey_N,xkey_S⟩,xattrs_⟩:=x;obtain ⟨yup_,⟨ykey_Kind,ykey_N,ykey_S⟩,yattrs_⟩:=y;show (Op.equalIn 10000 154 (.agg #[iV xup_,iV xkey_Kind,iV xkey_N,.string xkey_S,iV xattrs_]) (.agg #[iV yup_,iV ykey_Kind,iV ykey_N,.string ykey_S,iV yattrs_])).run Tryz.prog w=_
 go_simp
 simp only [nN];by_cases h0:xup_=yup_
 rotate_left
 ·simp [h0]
 by_cases h1:xkey_Kind=ykey_Kind
 rotate_left
 ·simp [h0,h1]
 by_cases h2:xkey_N=ykey_N
 rotate_left
 ·simp [h0,h1,h2]
 by_cases h3:xkey_S=ykey_S
 rotate_left
 ·simp [h0,h1,h2,h3]
 by_cases h4:xattrs_=yattrs_
 rotate_left
 ·simp [h0,h1,h2,h3,h4]
 simp [h0,h1,h2,h3,h4]
def aH (x:AD):Value:=.agg #[iV x.up_,iV x.key_.Kind,iV x.key_.N,.string x.key_.S,iV x.attrs_]
theorem pK:KeyOk Tryz.prog 154 aH where
 und:=⟨_,Tryz.underlying154,fun a b=> .inl rfl⟩
 eq:=fun a b w=>uQ a b w
 check:=fun e a w=>by
  obtain ⟨xup_,⟨xkey_Kind,xkey_N,xkey_S⟩,xattrs_⟩:=a;kernel_rfl
 bits:=fun a=>by
  obtain ⟨xup_,⟨xkey_Kind,xkey_N,xkey_S⟩,xattrs_⟩:=a;simp [aH,Instr.sameBits,sP]
def cr (N:Nat)(a0:Int)(a1:Int)(a2:Int):Option Bool:=
 (bif decide (a1≤a0) then (some (decide (a0≤a2))) else (some false)).bind fun b1=>some b1
theorem cB {N:Nat}{a0:Int}{a1:Int}{a2:Int}{r:Bool}(h:cr N a0 a1 a2=some r):Okc Tryz.prog 60 [iV a0,iV a1,iV a2] ([]) (fun u post=>u=.bool r∧post=[]):=by
 refine bh Tryz.func60 J J ?_;simp only [aL];refine I ?_;obtain ⟨b1,hb1,h⟩:=aa h;refine aC 4 14 b1 ?_ ?_
 ·clear h;refine ay 10 J (fun g1=> ?_) (fun g1=> ?_)
  ·have h:=ad g1 hb1;refine I ?_;obtain rfl:=ak h;exact ab sA (cS [] 0)
  have h:=ae g1 hb1;refine I ?_;obtain rfl:=ak h;exact ab sA (cS [] 0)
 refine I ?_;obtain rfl:=ak h;exact aE J J (cS [] 0) ⟨J,J⟩
theorem cm {r:Bool}: ∀v post,((fun (u:Value) (post:List Chunk)=>u=.bool r∧post=[])) v post→ ∀c∈post,bL c:=by
 rintro _ _ ⟨rfl,rfl⟩;exact ac
def mo (N:Nat)(a0:At):Option Bool:=
 (cr N a0.Way 0 1).bind fun y2=>(bif y2 then ((cr N a0.Steps 0 1073741824).bind fun y4=>some y4) else (some false)).bind fun b3=>(bif b3 then ((cr N a0.Calls 1 200).bind fun y6=>some y6) else (some false)).bind fun b5=>(bif b5 then ((cr N a0.Made 0 1048576).bind fun y8=>some y8) else (some false)).bind fun b7=>(bif b7 then ((cr N a0.Young 0 1073741824).bind fun y10=>some y10) else (some false)).bind fun b9=>(bif b9 then ((cr N a0.Full 0 1073741824).bind fun y12=>some y12) else (some false)).bind fun b11=>(bif b11 then ((cr N a0.Sites 0 4).bind fun y14=>some y14) else (some false)).bind fun b13=>some b13
theorem pt {N:Nat}{a0:At}{r:Bool}(h:mo N a0=some r):Okc Tryz.prog 26 [.agg #[iV a0.Way,iV a0.Steps,iV a0.Calls,iV a0.Made,iV a0.Young,iV a0.Full,iV a0.Sites]] ([]) (fun u post=>u=.bool r∧post=[]):=by
 refine bh Tryz.func26 J J ?_;simp only [aL];refine I ?_;refine gD (aI J J) ?_;rintro _ _ ⟨B1,rfl,rfl⟩;refine I ?_;obtain ⟨y2,hy2,h⟩:=aa h;refine gD (fN (cB hy2) mX J J J (ac) cm) ?_;rintro _ _ ⟨_,⟨rfl,rfl⟩,rfl⟩;refine I ?_;obtain ⟨b3,hb3,h⟩:=aa h;refine aC 5 13 b3 ?_ ?_
 ·clear h;refine ay 8 J (fun g3=> ?_) (fun g3=> ?_)
  ·have h:=ad g3 hb3;refine I ?_;obtain ⟨y4,hy4,h⟩:=aa h;refine bF (fN (cB hy4) mX J J J (ac) cm) J (aS g3 J) J ?_;rintro _ _ ⟨_,⟨rfl,rfl⟩,rfl⟩;refine I ?_;obtain rfl:=ak h;exact ab sA (cS [0] 1)
  have h:=ae g3 hb3;refine I ?_;obtain rfl:=ak h;exact ab sA (cS [0] 1)
 refine I ?_;obtain ⟨b5,hb5,h⟩:=aa h;refine aC 5 19 b5 ?_ ?_
 ·clear h;refine ay 14 J (fun g5=> ?_) (fun g5=> ?_)
  ·have h:=ad g5 hb5;refine I ?_;obtain ⟨y6,hy6,h⟩:=aa h;refine bF (fN (cB hy6) mX J J J (ac) cm) J (aS g5 J) J ?_;rintro _ _ ⟨_,⟨rfl,rfl⟩,rfl⟩;refine I ?_;obtain rfl:=ak h;exact ab sA (cS [0] 1)
  have h:=ae g5 hb5;refine I ?_;obtain rfl:=ak h;exact ab sA (cS [0] 1)
 refine I ?_;obtain ⟨b7,hb7,h⟩:=aa h;refine aC 5 25 b7 ?_ ?_
 ·clear h;refine ay 20 J (fun g7=> ?_) (fun g7=> ?_)
  ·have h:=ad g7 hb7;refine I ?_;obtain ⟨y8,hy8,h⟩:=aa h;refine bF (fN (cB hy8) mX J J J (ac) cm) J (aS g7 J) J ?_;rintro _ _ ⟨_,⟨rfl,rfl⟩,rfl⟩;refine I ?_;obtain rfl:=ak h;exact ab sA (cS [0] 1)
  have h:=ae g7 hb7;refine I ?_;obtain rfl:=ak h;exact ab sA (cS [0] 1)
 refine I ?_;obtain ⟨b9,hb9,h⟩:=aa h;refine aC 5 31 b9 ?_ ?_
 ·clear h;refine ay 26 J (fun g9=> ?_) (fun g9=> ?_)
  ·have h:=ad g9 hb9;refine I ?_;obtain ⟨y10,hy10,h⟩:=aa h;refine bF (fN (cB hy10) mX J J J (ac) cm) J (aS g9 J) J ?_;rintro _ _ ⟨_,⟨rfl,rfl⟩,rfl⟩;refine I ?_;obtain rfl:=ak h;exact ab sA (cS [0] 1)
  have h:=ae g9 hb9;refine I ?_;obtain rfl:=ak h;exact ab sA (cS [0] 1)
 refine I ?_;obtain ⟨b11,hb11,h⟩:=aa h;refine aC 5 37 b11 ?_ ?_
 ·clear h;refine ay 32 J (fun g11=> ?_) (fun g11=> ?_)
  ·have h:=ad g11 hb11;refine I ?_;obtain ⟨y12,hy12,h⟩:=aa h;refine bF (fN (cB hy12) mX J J J (ac) cm) J (aS g11 J) J ?_;rintro _ _ ⟨_,⟨rfl,rfl⟩,rfl⟩;refine I ?_;obtain rfl:=ak h;exact ab sA (cS [0] 1)
  have h:=ae g11 hb11;refine I ?_;obtain rfl:=ak h;exact ab sA (cS [0] 1)
 refine I ?_;obtain ⟨b13,hb13,h⟩:=aa h;refine aC 5 43 b13 ?_ ?_
 ·clear h;refine ay 38 J (fun g13=> ?_) (fun g13=> ?_)
  ·have h:=ad g13 hb13;refine I ?_;obtain ⟨y14,hy14,h⟩:=aa h;refine bF (fN (cB hy14) mX J J J (ac) cm) J (aS g13 J) J ?_;rintro _ _ ⟨_,⟨rfl,rfl⟩,rfl⟩;refine I ?_;obtain rfl:=ak h;exact ab sA (cS [0] 1)
  have h:=ae g13 hb13;refine I ?_;obtain rfl:=ak h;exact ab sA (cS [0] 1)
 refine I ?_;obtain rfl:=ak h;exact aE J J (cS [] 1) ⟨J,J⟩
theorem nX {r:Bool}: ∀v post,((fun (u:Value) (post:List Chunk)=>u=.bool r∧post=[])) v post→ ∀c∈post,bL c:=by
 rintro _ _ ⟨rfl,rfl⟩;exact ac
def ni (N:Nat):Option AF:=
 some (⟨([]:(List (Int×Bool)))⟩:AF)
theorem qh {N:Nat}{r:AF}(h:ni N=some r):Okc Tryz.prog 61 [] ([]) (fun u post=> ∃B0 M1,u=pV B0 0∧post=[al B0 143 [.map (some M1)],aK cW cY M1 r.at_]):=by
 refine bh Tryz.func61 J J ?_;simp only [aL];refine I ?_;refine gD (pA (ek:=cW) (ev:=cY)) ?_;rintro _ _ ⟨M1,rfl,rfl⟩;refine gE (aN J (ud _)) ?_;refine gD (aI J J) ?_;rintro _ _ ⟨B2,rfl,rfl⟩;refine I ?_;obtain rfl:=ak h;exact aE J J (cS [0,1] 2) ⟨_,_,J,J⟩
def pL (N:Nat):Option Ay:=
 (ni N).bind fun y1=>some (⟨(⟨[],[]⟩:Ar),[],[],y1⟩:Ay)
theorem rR {N:Nat}{r:Ay}(h:pL N=some r):Okc Tryz.prog 27 [] ([]) (fun u post=> ∃B0 A1 n1 c1 A2 n2 c2 A3 n3 c3 A4 n4 c4 B5 M6,u=pV B0 0∧post=[al B0 99 [Y A1 n1 c1,Y A2 n2 c2,Y A3 n3 c3,Y A4 n4 c4,pV B5 0],bD A1 n1 c1 r.m_.Young,bD A2 n2 c2 r.m_.Old,aX A3 n3 c3 r.roots_,aX A4 n4 c4 r.pending_,al B5 143 [.map (some M6)],aK cW cY M6 r.set_.at_]):=by
 refine bh Tryz.func27 J J ?_;simp only [aL];refine I ?_;obtain ⟨y1,hy1,h⟩:=aa h;refine gD (aB (qh hy1) ym J (az [] [] [] 0 J)) ?_;rintro _ _ ⟨_,⟨B2,M3,rfl,rfl⟩,rfl⟩;refine gE (aN J (vJ _)) ?_;refine gD (aI J J) ?_;rintro _ _ ⟨B4,rfl,rfl⟩;refine I ?_;obtain rfl:=ak h;exact aE J J ((ep ln 37 _).trans ((ep ln 37 _).trans ((ep bA 29 _).trans ((ep bA 29 _).trans (cS [4,3,2,1,0,5,6] 7))))) ⟨_,_,_,_,_,_,_,_,_,_,_,_,_,_,_,J,J⟩
def oy (N:Nat):Option AG:=
 some (⟨([(⟨(-1),(⟨0,0,⟨#[]⟩⟩:Au),0,0⟩:Aq)]:List Aq),([]:(List (AD×Int)))⟩:AG)
theorem qN {N:Nat}{r:AG}(h:oy N=some r):Okc Tryz.prog 28 [] ([]) (fun u post=> ∃B0 A1 n1 c1 M2,u=pV B0 0∧post=[al B0 118 [Y A1 n1 c1,.map (some M2)],dx A1 n1 c1 r.shapes_,aK aH cV M2 r.next_]):=by
 refine bh Tryz.func28 J J ?_;simp only [aL];refine I ?_;refine gE (aN J (ue _)) ?_;refine gD (cc (R:=lS) (vss:=[[iV (-1),iV 0,iV 0,.string (⟨#[]⟩),iV 0,iV 0]]) (xs:=[(⟨(-1),(⟨0,0,⟨#[]⟩⟩:Au),0,0⟩:Aq)]) J (ot _ _ _ _ _ _) J J (fun _ _ hr=> .cons J All2.nil)) ?_;rintro _ _ ⟨A1,n1,c1,rfl,rfl⟩;refine gD (pA (ek:=aH) (ev:=cV)) ?_;rintro _ _ ⟨M2,rfl,rfl⟩;refine gE (aN J (r7 _ _ _ _)) ?_;refine gD (aI J J) ?_;rintro _ _ ⟨B3,rfl,rfl⟩;refine I ?_;obtain rfl:=ak h;exact aE J J (cS [0,2,1] 3) ⟨_,_,_,_,_,J,J⟩
def bZ (N:Nat)(a0:Ay):Option Bool:=
 some false
theorem cn {N:Nat}{a0:Ay}{r:Bool}(h:bZ N a0=some r):Okc Tryz.prog 50 [pV B1 0] ([bd B1 99 [Y A2 n2 c2,Y A3 n3 c3,Y A4 n4 c4,Y A5 n5 c5,pV B6 0],lV A2 n2 c2 a0.m_.Young,lV A3 n3 c3 a0.m_.Old,cx A4 n4 c4 a0.roots_,cx A5 n5 c5 a0.pending_,bd B6 143 [.map (some M7)],eA cW cY M7 a0.set_.at_]) (fun u post=>u=.bool r∧post=[]):=by
 refine bh Tryz.func50 J J ?_;simp only [aL];refine I ?_;refine gE (cE J Tryz.underlying49) ?_;refine I ?_;refine gR (bw 0 J J qz J) ?_;refine gE (cE J Tryz.underlying97) ?_;refine I ?_;obtain rfl:=ak h;exact aE J J (cS [] 7) ⟨J,J⟩
theorem bR {r:Bool}: ∀v post,((fun (u:Value) (post:List Chunk)=>u=.bool r∧post=[])) v post→ ∀c∈post,bL c:=by
 rintro _ _ ⟨rfl,rfl⟩;exact ac
def eN (N:Nat)(a0:Ay)(a1:Int):Option AA:=
 (bZ N a0).bind fun y9=>(bif y9 then (some true) else (some (decide (a1<0)))).bind fun b10=>(bif b10 then (some true) else (some (decide ((a0.roots_.length:Int)≤a1)))).bind fun b11=>bif b11 then (some (⟨0,0,⟨#[]⟩⟩:AA)) else ((cg a0.roots_ a1).bind fun x13=>some x13)
theorem f6 {N:Nat}{a0:Ay}{a1:Int}{r:AA}(h:eN N a0 a1=some r):Okc Tryz.prog 32 [pV B1 0,iV a1] ([bd B1 99 [Y A2 n2 c2,Y A3 n3 c3,Y A4 n4 c4,Y A5 n5 c5,pV B6 0],lV A2 n2 c2 a0.m_.Young,lV A3 n3 c3 a0.m_.Old,cx A4 n4 c4 a0.roots_,cx A5 n5 c5 a0.pending_,bd B6 143 [.map (some M7)],eA cW cY M7 a0.set_.at_]) (fun u post=>u=.agg #[iV r.Kind,iV r.N,.string r.S]∧post=[]):=by
 refine bh Tryz.func32 J J ?_;simp only [aL];refine I ?_;refine gD (aP ee J) ?_;rintro _ _ ⟨B8,rfl,rfl⟩;refine I ?_;refine aw ?_;refine I ?_;obtain ⟨y9,hy9,h⟩:=aa h;refine gD (ag (cn hy9) mY J (hD (ai (i:=1) J J) (hD (ai (i:=2) J J) (hD (ai (i:=3) J J) (hD (ai (i:=4) J J) (hD (ai (i:=5) J J) (hD (ai (i:=6) J J) (hD (ai (i:=7) J J) ac))))))) bR) ?_;rintro _ _ ⟨_,⟨rfl,rfl⟩,rfl⟩;refine I ?_;obtain ⟨b10,hb10,h⟩:=aa h;refine aC 3 10 b10 ?_ ?_
 ·clear h;refine ay 7 J (fun g10=> ?_) (fun g10=> ?_)
  ·have h:=ad g10 hb10;refine I ?_;obtain rfl:=ak h;exact ab sA (cS [0,1,2,3,4,5,6,7] 8)
  have h:=ae g10 hb10;refine I ?_;obtain rfl:=ak h;exact ab sA (cS [0,1,2,3,4,5,6,7] 8)
 refine I ?_;obtain ⟨b11,hb11,h⟩:=aa h;refine aC 8 19 b11 ?_ ?_
 ·clear h;refine ay 11 J (fun g11=> ?_) (fun g11=> ?_)
  ·have h:=ad g11 hb11;refine I ?_;obtain rfl:=ak h;exact ab sA (cS [0,1,2,3,4,5,6,7] 8)
  have h:=ae g11 hb11;refine I ?_;refine bi (bw 1 J J eR J) J (cq g11 J) J ?_;refine bi (bz 4 J aG J hE) J (cq g11 J) J ?_;refine I ?_;obtain rfl:=ak h;exact ab sA (cS [0,1,2,3,4,5,6,7] 8)
 refine I ?_;refine ap J (fun g12=> ?_) (fun g12=> ?_)
 ·replace h:=ad g12 h;refine I ?_;refine gE (aN J (dw)) ?_;refine gO (ar (us:=[iV 0,iV 0,.string (⟨#[]⟩)]) (cs':=[iV 0,iV 0,.string (⟨#[]⟩)]) 0 J J J J aT J J J) ?_;rintro _ _ rfl;refine I ?_;obtain rfl:=ak h;exact ca (rs:=[.cell 4 29]) (vs:=[.agg #[iV 0,iV 0,.string (⟨#[]⟩)]]) J (.cons (bq 0 J J aJ) .nil) J (cS [] 8) ⟨J,J⟩
 replace h:=ae g12 h;refine I ?_;refine gR (bw 1 J J eR J) ?_;refine I ?_;obtain ⟨x13,hx13,h⟩:=aa h;obtain ⟨lx13,ux13,hx13⟩:=aF hx13;refine gR (bf 4 J aG J J hE aT lx13 ux13) ?_;refine gR (bn (us:=[iV x13.Kind,iV x13.N,.string x13.S]) 4 J aG J hx13 aJ (fun _ _ _ h=>by rw [show _=_ from h];rfl)) ?_;refine gO (ar (us:=[iV x13.Kind,iV x13.N,.string x13.S]) (cs':=[iV x13.Kind,iV x13.N,.string x13.S]) 0 J J J J aT J J J) ?_;rintro _ _ rfl;refine I ?_;obtain rfl:=ak h;exact ca (rs:=[.cell 4 29]) (vs:=[.agg #[iV x13.Kind,iV x13.N,.string x13.S]]) J (.cons (bq 0 J J aJ) .nil) J (cS [] 8) ⟨J,J⟩
theorem fe {r:AA}: ∀v post,((fun (u:Value) (post:List Chunk)=>u=.agg #[iV r.Kind,iV r.N,.string r.S]∧post=[])) v post→ ∀c∈post,bL c:=by
 rintro _ _ ⟨rfl,rfl⟩;exact ac
def iu (N:Nat){σ:Type}(fy:(Bool×AA)→σ→Option (Bool×σ))(a1:Aw):Nat→Int→σ→Option σ
 |0,_,_=>none
 |m15+1,p16,p17=>bif decide (p16<(a1.More.length:Int)) then ((cg a1.More p16).bind fun x19=>(bif !decide (a1.Kind=8) then ((bif !decide (a1.Kind=10) then (some true) else (some (decide (p16.tmod 2=0)))).bind fun b22=>some b22) else (some false)).bind fun b21=>(fy (b21,x19) p17).bind fun y23=>bif !y23.1 then (some y23.2) else (dC (bV (p16+1)) ((iu N fy a1 m15) (p16+1) y23.2))) else (some p17)
def lH (N:Nat){σ:Type}(fy:(Bool×AA)→σ→Option (Bool×σ))(a1:Aw)(p5:σ):Option σ:=
 iu N fy a1 N 0 p5
def jj (N:Nat){σ:Type}(fy:(Bool×AA)→σ→Option (Bool×σ))(a1:Aw):Nat→Int→σ→Option σ
 |0,_,_=>none
 |m6+1,p7,p8=>bif decide (p7<(a1.Slots.length:Int)) then ((cg a1.Slots p7).bind fun x10=>(fy (true,x10) p8).bind fun y12=>bif !y12.1 then (some y12.2) else (dC (bV (p7+1)) ((jj N fy a1 m6) (p7+1) y12.2))) else (lH N fy a1 p8)
def jR (N:Nat){σ:Type}(a1:Aw)(fy:(Bool×AA)→σ→Option (Bool×σ))(s0:σ):Option σ:=
 jj N fy a1 N 0 s0
theorem lG {N:Nat}{σ:Type}{a1:Aw}{fy:(Bool×AA)→σ→Option (Bool×σ)}{s0:σ}{r:σ}(h:jR N a1 fy s0=some r){l:Nat}{G:σ→List Chunk}(hY:mc Tryz.prog l G (fun x=> [.bool x.1,.agg #[iV x.2.Kind,iV x.2.N,.string x.2.S]]) fy):Okc Tryz.prog 104 [.func (.yield l) #[] #[],pV B1 0] (bd B1 37 [iV a1.Kind,iV a1.Shape,iV a1.Flags,iV a1.Age,Y A2 n2 c2,Y A3 n3 c3]::cx A2 n2 c2 a1.Slots::cx A3 n3 c3 a1.More::(G s0)) (fun u post=>u=.tuple #[]∧post=G r):=by
 refine bh Tryz.func104 J J ?_;simp only [aL];refine aW (fun s L=> ∃p5,lH N fy a1 p5=some r∧s=[(0,.func (.yield l) #[] #[]),(1,pV B1 0)]∧L=cx A2 n2 c2 a1.Slots::cx A3 n3 c3 a1.More::bd B1 37 [iV a1.Kind,iV a1.Shape,iV a1.Flags,iV a1.Age,Y A2 n2 c2,Y A3 n3 c3]::(G p5)) ?_ ?_
 ·refine I ?_;refine gR (bw 0 J J eR J) ?_;refine gR (bz 1 J aG J hE) ?_;refine I ?_;refine cC (fun m s L=> ∃p7 p8,jj N fy a1 m p7 p8=some r∧s=[(0,.func (.yield l) #[] #[]),(1,pV B1 0),(9,Y A2 n2 c2),(10,iV (a1.Slots.length:Int)),(11,iV p7)]∧L=cx A2 n2 c2 a1.Slots::cx A3 n3 c3 a1.More::bd B1 37 [iV a1.Kind,iV a1.Shape,iV a1.Flags,iV a1.Age,Y A2 n2 c2,Y A3 n3 c3]::(G p8)) N _ _ ⟨0,s0,h,J,J⟩ sA (cS [1,2,0] 3) ?_;rintro (_|m6) _ _ ⟨p7,p8,h,rfl,rfl⟩
  ·exact bj h
  rw [jj.eq_2] at h;refine I ?_;refine aw ?_;refine ap J (fun g9=> ?_) (fun g9=> ?_)
  ·replace h:=ad g9 h;refine I ?_;refine aw ?_;refine I ?_;obtain ⟨x10,hx10,h⟩:=aa h;obtain ⟨lx10,ux10,hx10⟩:=aF hx10;refine gR (bf 0 J aG J J hE aT lx10 ux10) ?_;refine gR (bn (us:=[iV x10.Kind,iV x10.N,.string x10.S]) 0 J aG J hx10 aJ (fun _ _ _ h=>by rw [show _=_ from h];rfl)) ?_;refine gD (aP ee J) ?_;rintro _ _ ⟨B11,rfl,rfl⟩;refine gO (ar (us:=[iV x10.Kind,iV x10.N,.string x10.S]) (cs':=[iV x10.Kind,iV x10.N,.string x10.S]) 0 J J J J aT J J J) ?_;rintro _ _ rfl;refine I ?_;refine gR (aj (us:=[iV x10.Kind,iV x10.N,.string x10.S]) 0 J J aJ J) ?_;obtain ⟨y12,hy12,h⟩:=aa h;refine gD (qy (a:=(true,x10)) [al B11 29 [iV x10.Kind,iV x10.N,.string x10.S],cx A2 n2 c2 a1.Slots,cx A3 n3 c3 a1.More,bd B1 37 [iV a1.Kind,iV a1.Shape,iV a1.Flags,iV a1.Age,Y A2 n2 c2,Y A3 n3 c3]] hY hy12 J J) ?_;rintro _ _ ⟨rfl,rfl⟩;refine I ?_;refine ap J (fun g13=> ?_) (fun g13=> ?_)
   ·replace h:=ad g13 h;refine I ?_;obtain rfl:=ak h;exact uR J (cS [] 4) ⟨J,J⟩
   replace h:=ae g13 h;refine I ?_;obtain ⟨q14,h⟩:=aA h;refine gE (bT J J q14.1 q14.2) ?_;refine I ?_;exact ⟨m6,_,_,AK _,⟨p7+1,y12.2,h,J,J⟩,sA,cS [1,2,3] 4⟩
  replace h:=ae g9 h;refine I ?_;exact ⟨_,_,⟨p8,h,J,J⟩,sA,cS [0,1,2] 3⟩
 rintro _ _ ⟨p5,h,rfl,rfl⟩;refine I ?_;refine gR (bw 2 J J eR J) ?_;refine gR (bz 1 J aG J hE) ?_;refine I ?_;refine cC (fun m s L=> ∃p16 p17,iu N fy a1 m p16 p17=some r∧s=[(0,.func (.yield l) #[] #[]),(1,pV B1 0),(21,Y A3 n3 c3),(22,iV (a1.More.length:Int)),(23,iV p16)]∧L=cx A3 n3 c3 a1.More::cx A2 n2 c2 a1.Slots::bd B1 37 [iV a1.Kind,iV a1.Shape,iV a1.Flags,iV a1.Age,Y A2 n2 c2,Y A3 n3 c3]::(G p17)) N _ _ ⟨0,p5,h,J,J⟩ sA (cS [1,0,2] 3) ?_;rintro (_|m15) _ _ ⟨p16,p17,h,rfl,rfl⟩
 ·exact bj h
 rw [iu.eq_2] at h;refine I ?_;refine aw ?_;refine ap J (fun g18=> ?_) (fun g18=> ?_)
 ·replace h:=ad g18 h;refine I ?_;refine aw ?_;refine I ?_;obtain ⟨x19,hx19,h⟩:=aa h;obtain ⟨lx19,ux19,hx19⟩:=aF hx19;refine gR (bf 0 J aG J J hE aT lx19 ux19) ?_;refine gR (bn (us:=[iV x19.Kind,iV x19.N,.string x19.S]) 0 J aG J hx19 aJ (fun _ _ _ h=>by rw [show _=_ from h];rfl)) ?_;refine gD (aP ee J) ?_;rintro _ _ ⟨B20,rfl,rfl⟩;refine I ?_;refine gO (ar (us:=[iV x19.Kind,iV x19.N,.string x19.S]) (cs':=[iV x19.Kind,iV x19.N,.string x19.S]) 0 J J J J aT J J J) ?_;rintro _ _ rfl;refine bJ ?_;refine I ?_;refine gR (bw 3 J J dc J) ?_;refine I ?_;obtain ⟨b21,hb21,h⟩:=aa h;refine aC 9 40 b21 ?_ ?_
  ·clear h;refine ay 31 J (fun g21=> ?_) (fun g21=> ?_)
   ·have h:=ad g21 hb21;refine I ?_;refine bi (bw 3 J J dc J) J (aS g21 J) J ?_;refine I ?_;obtain ⟨b22,hb22,h⟩:=aa h;refine aC 4 39 b22 ?_ ?_
    ·clear h;refine ay 35 J (fun g22=> ?_) (fun g22=> ?_)
     ·have h:=ad g22 hb22;refine I ?_;obtain rfl:=ak h;exact ab sA (cS [0,1,2,3] 4)
     have h:=ae g22 hb22;refine I ?_;refine fG (ij J J (by decide)) J (cq g22 J) J ?_;refine I ?_;obtain rfl:=ak h;exact ab sA (cS [0,1,2,3] 4)
    refine I ?_;obtain rfl:=ak h;exact ab sA (cS [0,1,2,3] 4)
   have h:=ae g21 hb21;refine I ?_;obtain rfl:=ak h;exact ab sA (cS [0,1,2,3] 4)
  refine I ?_;refine gR (aj (us:=[iV x19.Kind,iV x19.N,.string x19.S]) 0 J J aJ J) ?_;obtain ⟨y23,hy23,h⟩:=aa h;refine gD (qy (a:=(b21,x19)) [al B20 29 [iV x19.Kind,iV x19.N,.string x19.S],cx A3 n3 c3 a1.More,cx A2 n2 c2 a1.Slots,bd B1 37 [iV a1.Kind,iV a1.Shape,iV a1.Flags,iV a1.Age,Y A2 n2 c2,Y A3 n3 c3]] hY hy23 J J) ?_;rintro _ _ ⟨rfl,rfl⟩;refine I ?_;refine ap J (fun g24=> ?_) (fun g24=> ?_)
  ·replace h:=ad g24 h;refine I ?_;obtain rfl:=ak h;exact uR J (cS [] 4) ⟨J,J⟩
  replace h:=ae g24 h;refine I ?_;obtain ⟨q25,h⟩:=aA h;refine gE (bT J J q25.1 q25.2) ?_;refine I ?_;exact ⟨m15,_,_,AK _,⟨p16+1,y23.2,h,J,J⟩,sA,cS [1,2,3] 4⟩
 replace h:=ae g18 h;refine I ?_;obtain rfl:=ak h;exact d8 J (cS [] 3) ⟨J,J⟩
def mU (N:Nat)(a0:Aw):Option Unit:=
 some ()
theorem oO {N:Nat}{a0:Aw}{r:Unit}(h:mU N a0=some r):Okc Tryz.prog 95 [.agg #[iV a0.Kind,iV a0.Shape,iV a0.Flags,iV a0.Age,Y A1 n1 c1,Y A2 n2 c2]] ([cx A1 n1 c1 a0.Slots,cx A2 n2 c2 a0.More]) (fun u post=> ∃B900,u=.func (.func 104) #[] #[pV B900 0]∧post=[al B900 37 [iV a0.Kind,iV a0.Shape,iV a0.Flags,iV a0.Age,Y A1 n1 c1,Y A2 n2 c2]]):=by
 refine bh Tryz.func95 J J ?_;simp only [aL];refine I ?_;refine gD (aI J J) ?_;rintro _ _ ⟨B3,rfl,rfl⟩;refine I ?_;refine gE (oK J) ?_;refine I ?_;obtain rfl:=ak h;exact aE J J (cS [0] 3) ⟨_,J,J⟩
theorem mB {a0:Aw}{A1:Option Addr}{n1:Nat}{c1:Nat}{A2:Option Addr}{n2:Nat}{c2:Nat}: ∀v post,((fun (u:Value) (post:List Chunk)=> ∃B900,u=.func (.func 104) #[] #[pV B900 0]∧post=[al B900 37 [iV a0.Kind,iV a0.Shape,iV a0.Flags,iV a0.Age,Y A1 n1 c1,Y A2 n2 c2]])) v post→ ∀c∈post,bL c:=by
 rintro _ _ ⟨_,rfl,rfl⟩;exact hD nw (ac)
def jB (N:Nat)(a0:AA)(p10:Bool):Option Bool:=
 bif p10 then (some (decide (1≤a0.N))) else ((bif decide (a0.N=0) then (some (decide (0≤a0.Kind))) else (some false)).bind fun b14=>(bif b14 then (some (decide (a0.Kind≤9))) else (some false)).bind fun b15=>some b15)
def pS (N:Nat)(a0:AA):Option Bool:=
 bif decide (a0.Kind=5) then ((bif decide (a0.N=0) then (some (decide ((a0.S.size:Int)≤65536))) else (some false)).bind fun b3=>some b3) else (bif !(a0.S.toList==(⟨#[]⟩:ByteArray).toList) then (some false) else (bif decide (a0.Kind=2) then ((bif decide (a0.N=0) then (some true) else (some (decide (a0.N=1)))).bind fun b6=>some b6) else (bif decide (a0.Kind=3) then ((bif decide ((-9007199254740992)≤a0.N) then (some (decide (a0.N≤9007199254740992))) else (some false)).bind fun b8=>some b8) else (bif decide (a0.Kind=6) then (jB N a0 (decide (a0.Kind=6))) else (bif decide (a0.Kind=7) then (jB N a0 (decide (a0.Kind=7))) else (jB N a0 (decide (a0.Kind=9))))))))
theorem rW {N:Nat}{a0:AA}{r:Bool}(h:pS N a0=some r):Okc Tryz.prog 96 [.agg #[iV a0.Kind,iV a0.N,.string a0.S]] ([]) (fun u post=>u=.bool r∧post=[]):=by
 refine bh Tryz.func96 J J ?_;simp only [aL];refine I ?_;refine gD (aI J J) ?_;rintro _ _ ⟨B1,rfl,rfl⟩;refine I ?_;refine aw ?_;refine I ?_;refine ap J (fun g2=> ?_) (fun g2=> ?_)
 ·replace h:=ad g2 h;refine I ?_;obtain ⟨b3,hb3,h⟩:=aa h;refine aC 5 14 b3 ?_ ?_
  ·clear h;refine ay 9 J (fun g3=> ?_) (fun g3=> ?_)
   ·have h:=ad g3 hb3;refine I ?_;refine fG (nG J hH) J (aS g3 J) J ?_;refine I ?_;obtain rfl:=ak h;exact ab sA (cS [0] 1)
   have h:=ae g3 hb3;refine I ?_;obtain rfl:=ak h;exact ab sA (cS [0] 1)
  refine I ?_;obtain rfl:=ak h;exact aE J J (cS [] 1) ⟨J,J⟩
 replace h:=ae g2 h;refine I ?_;refine aw ?_;refine I ?_;refine gE (uL J J) ?_;refine I ?_;refine ap J (fun g4=> ?_) (fun g4=> ?_)
 ·replace h:=ad g4 h;refine I ?_;obtain rfl:=ak h;exact aE J J (cS [] 1) ⟨J,J⟩
 replace h:=ae g4 h;refine I ?_;refine aw ?_;refine I ?_;refine ap J (fun g5=> ?_) (fun g5=> ?_)
 ·replace h:=ad g5 h;refine I ?_;obtain ⟨b6,hb6,h⟩:=aa h;refine aC 4 29 b6 ?_ ?_
  ·clear h;refine ay 25 J (fun g6=> ?_) (fun g6=> ?_)
   ·have h:=ad g6 hb6;refine I ?_;obtain rfl:=ak h;exact ab sA (cS [0] 1)
   have h:=ae g6 hb6;refine I ?_;obtain rfl:=ak h;exact ab sA (cS [0] 1)
  refine I ?_;obtain rfl:=ak h;exact aE J J (cS [] 1) ⟨J,J⟩
 replace h:=ae g5 h;refine I ?_;refine ap J (fun g7=> ?_) (fun g7=> ?_)
 ·replace h:=ad g7 h;refine I ?_;obtain ⟨b8,hb8,h⟩:=aa h;refine aC 4 39 b8 ?_ ?_
  ·clear h;refine ay 35 J (fun g8=> ?_) (fun g8=> ?_)
   ·have h:=ad g8 hb8;refine I ?_;obtain rfl:=ak h;exact ab sA (cS [0] 1)
   have h:=ae g8 hb8;refine I ?_;obtain rfl:=ak h;exact ab sA (cS [0] 1)
  refine I ?_;obtain rfl:=ak h;exact aE J J (cS [] 1) ⟨J,J⟩
 replace h:=ae g7 h;refine aW (fun s L=> ∃p10,jB N a0 p10=some r∧s=[(1,pV B1 0),(2,.bool false),(40,.bool p10)]∧L=[al B1 29 [iV a0.Kind,iV a0.N,.string a0.S]]) ?_ ?_
 ·refine I ?_;refine ap J (fun g11=> ?_) (fun g11=> ?_)
  ·replace h:=ad g11 h;refine I ?_;exact ⟨_,_,⟨decide (a0.Kind=6),h,J,J⟩,sA,cS [0] 1⟩
  replace h:=ae g11 h;refine I ?_;refine ap J (fun g12=> ?_) (fun g12=> ?_)
  ·replace h:=ad g12 h;refine I ?_;exact ⟨_,_,⟨decide (a0.Kind=7),h,J,J⟩,sA,cS [0] 1⟩
  replace h:=ae g12 h;refine I ?_;exact ⟨_,_,⟨decide (a0.Kind=9),h,J,J⟩,sA,cS [0] 1⟩
 rintro _ _ ⟨p10,h,rfl,rfl⟩;refine ap J (fun g13=> ?_) (fun g13=> ?_)
 ·replace h:=ad g13 h;refine I ?_;obtain rfl:=ak h;exact aE J J (cS [] 1) ⟨J,J⟩
 replace h:=ae g13 h;refine I ?_;obtain ⟨b14,hb14,h⟩:=aa h;refine aC 4 54 b14 ?_ ?_
 ·clear h;refine ay 50 J (fun g14=> ?_) (fun g14=> ?_)
  ·have h:=ad g14 hb14;refine I ?_;obtain rfl:=ak h;exact ab sA (cS [0] 1)
  have h:=ae g14 hb14;refine I ?_;obtain rfl:=ak h;exact ab sA (cS [0] 1)
 refine I ?_;obtain ⟨b15,hb15,h⟩:=aa h;refine aC 4 59 b15 ?_ ?_
 ·clear h;refine ay 55 J (fun g15=> ?_) (fun g15=> ?_)
  ·have h:=ad g15 hb15;refine I ?_;obtain rfl:=ak h;exact ab sA (cS [0] 1)
  have h:=ae g15 hb15;refine I ?_;obtain rfl:=ak h;exact ab sA (cS [0] 1)
 refine I ?_;obtain rfl:=ak h;exact aE J J (cS [] 1) ⟨J,J⟩
theorem qp {r:Bool}: ∀v post,((fun (u:Value) (post:List Chunk)=>u=.bool r∧post=[])) v post→ ∀c∈post,bL c:=by
 rintro _ _ ⟨rfl,rfl⟩;exact ac
def dW (N:Nat)(p2:Bool):Option Bool:=
 bif p2 then (some true) else (some false)
def pT (N:Nat)(a0:Int):Option Bool:=
 bif decide (a0=1) then (dW N (decide (a0=1))) else (bif decide (a0=2) then (dW N (decide (a0=2))) else (bif decide (a0=3) then (dW N (decide (a0=3))) else (bif decide (a0=6) then (dW N (decide (a0=6))) else (bif decide (a0=8) then (dW N (decide (a0=8))) else (bif decide (a0=9) then (dW N (decide (a0=9))) else (dW N (decide (a0=10))))))))
theorem rX {N:Nat}{a0:Int}{r:Bool}(h:pT N a0=some r):Okc Tryz.prog 105 [iV a0] ([]) (fun u post=>u=.bool r∧post=[]):=by
 refine bh Tryz.func105 J J ?_;simp only [aL];refine I ?_;refine aw ?_;refine I ?_;refine aW (fun s L=> ∃p2,dW N p2=some r∧s=[(2,.bool false),(4,.bool p2)]∧L=[]) ?_ ?_
 ·refine I ?_;refine ap J (fun g3=> ?_) (fun g3=> ?_)
  ·replace h:=ad g3 h;refine I ?_;exact ⟨_,_,⟨decide (a0=1),h,J,J⟩,sA,cS [] 0⟩
  replace h:=ae g3 h;refine I ?_;refine ap J (fun g4=> ?_) (fun g4=> ?_)
  ·replace h:=ad g4 h;refine I ?_;exact ⟨_,_,⟨decide (a0=2),h,J,J⟩,sA,cS [] 0⟩
  replace h:=ae g4 h;refine I ?_;refine ap J (fun g5=> ?_) (fun g5=> ?_)
  ·replace h:=ad g5 h;refine I ?_;exact ⟨_,_,⟨decide (a0=3),h,J,J⟩,sA,cS [] 0⟩
  replace h:=ae g5 h;refine I ?_;refine ap J (fun g6=> ?_) (fun g6=> ?_)
  ·replace h:=ad g6 h;refine I ?_;exact ⟨_,_,⟨decide (a0=6),h,J,J⟩,sA,cS [] 0⟩
  replace h:=ae g6 h;refine I ?_;refine ap J (fun g7=> ?_) (fun g7=> ?_)
  ·replace h:=ad g7 h;refine I ?_;exact ⟨_,_,⟨decide (a0=8),h,J,J⟩,sA,cS [] 0⟩
  replace h:=ae g7 h;refine I ?_;refine ap J (fun g8=> ?_) (fun g8=> ?_)
  ·replace h:=ad g8 h;refine I ?_;exact ⟨_,_,⟨decide (a0=9),h,J,J⟩,sA,cS [] 0⟩
  replace h:=ae g8 h;refine I ?_;exact ⟨_,_,⟨decide (a0=10),h,J,J⟩,sA,cS [] 0⟩
 rintro _ _ ⟨p2,h,rfl,rfl⟩;refine ap J (fun g9=> ?_) (fun g9=> ?_)
 ·replace h:=ad g9 h;refine I ?_;obtain rfl:=ak h;exact aE J J (cS [] 0) ⟨J,J⟩
 replace h:=ae g9 h;refine I ?_;obtain rfl:=ak h;exact aE J J (cS [] 0) ⟨J,J⟩
theorem qr {r:Bool}: ∀v post,((fun (u:Value) (post:List Chunk)=>u=.bool r∧post=[])) v post→ ∀c∈post,bL c:=by
 rintro _ _ ⟨rfl,rfl⟩;exact ac
def dD (N:Nat)(a0:AA)(a1:Int):Option Bool:=
 (bif decide (a0.Kind=0) then (some true) else (some (decide (a0.Kind=a1)))).bind fun b2=>some b2
theorem dO {N:Nat}{a0:AA}{a1:Int}{r:Bool}(h:dD N a0 a1=some r):Okc Tryz.prog 106 [.agg #[iV a0.Kind,iV a0.N,.string a0.S],iV a1] ([]) (fun u post=>u=.bool r∧post=[]):=by
 refine bh Tryz.func106 J J ?_;simp only [aL];refine I ?_;refine gD (aI J J) ?_;rintro _ _ ⟨B1,rfl,rfl⟩;refine I ?_;obtain ⟨b2,hb2,h⟩:=aa h;refine aC 5 13 b2 ?_ ?_
 ·clear h;refine ay 8 J (fun g2=> ?_) (fun g2=> ?_)
  ·have h:=ad g2 hb2;refine I ?_;obtain rfl:=ak h;exact ab sA (cS [0] 1)
  have h:=ae g2 hb2;refine I ?_;obtain rfl:=ak h;exact ab sA (cS [0] 1)
 refine I ?_;obtain rfl:=ak h;exact aE J J (cS [] 1) ⟨J,J⟩
theorem dl {r:Bool}: ∀v post,((fun (u:Value) (post:List Chunk)=>u=.bool r∧post=[])) v post→ ∀c∈post,bL c:=by
 rintro _ _ ⟨rfl,rfl⟩;exact ac
def jA (N:Nat)(a0:Aw):Option Bool:=
 (pT N a0.Kind).bind fun y4=>(bif y4 then (some true) else ((bif decide (a0.Kind=7) then (some (decide (0<(a0.Slots.length:Int)))) else (some false)).bind fun b6=>some b6)).bind fun b5=>bif b5 then ((bif decide (1≤(a0.Slots.length:Int)) then (some (decide ((a0.Slots.length:Int)≤1025))) else (some false)).bind fun b8=>(bif b8 then ((cg a0.Slots 0).bind fun x10=>(bif decide (x10.Kind=1) then (some true) else ((cg a0.Slots 0).bind fun x12=>some (decide (x12.Kind=7)))).bind fun b11=>some b11) else (some false)).bind fun b9=>some b9) else (bif decide (a0.Kind=7) then (some (decide (a0.Shape=0))) else ((bif !decide (a0.Shape=0) then (some true) else (some (!decide (a0.Flags=0)))).bind fun b14=>bif b14 then (some false) else (bif decide (a0.Kind=5) then ((bif decide ((a0.Slots.length:Int)=2) then ((cg a0.Slots 0).bind fun x18=>(dD N x18 7).bind fun y19=>some y19) else (some false)).bind fun b17=>(bif b17 then ((cg a0.Slots 1).bind fun x21=>(dD N x21 7).bind fun y22=>some y22) else (some false)).bind fun b20=>some b20) else (some (decide ((a0.Slots.length:Int)=0))))))
theorem mT {N:Nat}{a0:Aw}{r:Bool}(h:jA N a0=some r):Okc Tryz.prog 97 [.agg #[iV a0.Kind,iV a0.Shape,iV a0.Flags,iV a0.Age,Y A1 n1 c1,Y A2 n2 c2]] ([cx A1 n1 c1 a0.Slots,cx A2 n2 c2 a0.More]) (fun u post=>u=.bool r∧post=[]):=by
 refine bh Tryz.func97 J J ?_;simp only [aL];refine I ?_;refine gD (aI J J) ?_;rintro _ _ ⟨B3,rfl,rfl⟩;refine I ?_;refine aw ?_;refine I ?_;obtain ⟨y4,hy4,h⟩:=aa h;refine gD (ag (rX hy4) wS J (ac) qr) ?_;rintro _ _ ⟨_,⟨rfl,rfl⟩,rfl⟩;refine I ?_;obtain ⟨b5,hb5,h⟩:=aa h;refine aC 10 16 b5 ?_ ?_
 ·clear h;refine ay 6 J (fun g5=> ?_) (fun g5=> ?_)
  ·have h:=ad g5 hb5;refine I ?_;obtain rfl:=ak h;exact ab sA (cS [0,1,2] 3)
  have h:=ae g5 hb5;refine I ?_;obtain ⟨b6,hb6,h⟩:=aa h;refine aC 5 15 b6 ?_ ?_
  ·clear h;refine ay 10 J (fun g6=> ?_) (fun g6=> ?_)
   ·have h:=ad g6 hb6;refine I ?_;refine bi (bz 1 J aG J hE) J (aS g6 J) J ?_;refine I ?_;obtain rfl:=ak h;exact ab sA (cS [0,1,2] 3)
   have h:=ae g6 hb6;refine I ?_;obtain rfl:=ak h;exact ab sA (cS [0,1,2] 3)
  refine I ?_;obtain rfl:=ak h;exact ab sA (cS [0,1,2] 3)
 refine I ?_;refine ap J (fun g7=> ?_) (fun g7=> ?_)
 ·replace h:=ad g7 h;refine I ?_;refine gR (bz 1 J aG J hE) ?_;refine I ?_;obtain ⟨b8,hb8,h⟩:=aa h;refine aC 5 26 b8 ?_ ?_
  ·clear h;refine ay 21 J (fun g8=> ?_) (fun g8=> ?_)
   ·have h:=ad g8 hb8;refine I ?_;refine bi (bz 1 J aG J hE) J (aS g8 J) J ?_;refine I ?_;obtain rfl:=ak h;exact ab sA (cS [0,1,2] 3)
   have h:=ae g8 hb8;refine I ?_;obtain rfl:=ak h;exact ab sA (cS [0,1,2] 3)
  refine I ?_;obtain ⟨b9,hb9,h⟩:=aa h;refine aC 15 42 b9 ?_ ?_
  ·clear h;refine ay 27 J (fun g9=> ?_) (fun g9=> ?_)
   ·have h:=ad g9 hb9;refine I ?_;obtain ⟨x10,hx10,h⟩:=aa h;obtain ⟨lx10,ux10,hx10⟩:=aF hx10;refine bi (bf 1 J aG J J hE aT lx10 ux10) J (aS g9 J) J ?_;refine bi (jH 1 J aG J (aQ lx10 ux10) iN) J (aS g9 J) J ?_;refine bi (cf (u:=iV x10.Kind) 1 J aG J hx10 dc (fun _ _ _ h=>by rw [show _=_ from h];rfl)) J (aS g9 J) J ?_;refine I ?_;obtain ⟨b11,hb11,h⟩:=aa h;refine aC 7 41 b11 ?_ ?_
    ·clear h;refine ay 34 J (fun g11=> ?_) (fun g11=> ?_)
     ·have h:=ad g11 hb11;refine I ?_;obtain rfl:=ak h;exact ab sA (cS [0,1,2] 3)
     have h:=ae g11 hb11;refine I ?_;obtain ⟨x12,hx12,h⟩:=aa h;obtain ⟨lx12,ux12,hx12⟩:=aF hx12;refine bi (bf 1 J aG J J hE aT lx12 ux12) J (cq g11 J) J ?_;refine bi (jH 1 J aG J (aQ lx12 ux12) iN) J (cq g11 J) J ?_;refine bi (cf (u:=iV x12.Kind) 1 J aG J hx12 dc (fun _ _ _ h=>by rw [show _=_ from h];rfl)) J (cq g11 J) J ?_;refine I ?_;obtain rfl:=ak h;exact ab sA (cS [0,1,2] 3)
    refine I ?_;obtain rfl:=ak h;exact ab sA (cS [0,1,2] 3)
   have h:=ae g9 hb9;refine I ?_;obtain rfl:=ak h;exact ab sA (cS [0,1,2] 3)
  refine I ?_;obtain rfl:=ak h;exact aE J J (cS [] 3) ⟨J,J⟩
 replace h:=ae g7 h;refine I ?_;refine aw ?_;refine I ?_;refine ap J (fun g13=> ?_) (fun g13=> ?_)
 ·replace h:=ad g13 h;refine I ?_;obtain rfl:=ak h;exact aE J J (cS [] 3) ⟨J,J⟩
 replace h:=ae g13 h;refine I ?_;refine aw ?_;refine I ?_;obtain ⟨b14,hb14,h⟩:=aa h;refine aC 4 56 b14 ?_ ?_
 ·clear h;refine ay 52 J (fun g14=> ?_) (fun g14=> ?_)
  ·have h:=ad g14 hb14;refine I ?_;obtain rfl:=ak h;exact ab sA (cS [0,1,2] 3)
  have h:=ae g14 hb14;refine I ?_;obtain rfl:=ak h;exact ab sA (cS [0,1,2] 3)
 refine I ?_;refine ap J (fun g15=> ?_) (fun g15=> ?_)
 ·replace h:=ad g15 h;refine I ?_;obtain rfl:=ak h;exact aE J J (cS [] 3) ⟨J,J⟩
 replace h:=ae g15 h;refine I ?_;refine aw ?_;refine I ?_;refine ap J (fun g16=> ?_) (fun g16=> ?_)
 ·replace h:=ad g16 h;refine I ?_;refine gR (bz 1 J aG J hE) ?_;refine I ?_;obtain ⟨b17,hb17,h⟩:=aa h;refine aC 6 70 b17 ?_ ?_
  ·clear h;refine ay 64 J (fun g17=> ?_) (fun g17=> ?_)
   ·have h:=ad g17 hb17;refine I ?_;obtain ⟨x18,hx18,h⟩:=aa h;obtain ⟨lx18,ux18,hx18⟩:=aF hx18;refine bi (bf 1 J aG J J hE aT lx18 ux18) J (aS g17 J) J ?_;refine bi (bn (us:=[iV x18.Kind,iV x18.N,.string x18.S]) 1 J aG J hx18 aJ (fun _ _ _ h=>by rw [show _=_ from h];rfl)) J (aS g17 J) J ?_;obtain ⟨y19,hy19,h⟩:=aa h;refine bF (ag (dO hy19) lZ J (ac) dl) J (aS g17 J) J ?_;rintro _ _ ⟨_,⟨rfl,rfl⟩,rfl⟩;refine I ?_;obtain rfl:=ak h;exact ab sA (cS [0,1,2] 3)
   have h:=ae g17 hb17;refine I ?_;obtain rfl:=ak h;exact ab sA (cS [0,1,2] 3)
  refine I ?_;obtain ⟨b20,hb20,h⟩:=aa h;refine aC 6 77 b20 ?_ ?_
  ·clear h;refine ay 71 J (fun g20=> ?_) (fun g20=> ?_)
   ·have h:=ad g20 hb20;refine I ?_;obtain ⟨x21,hx21,h⟩:=aa h;obtain ⟨lx21,ux21,hx21⟩:=aF hx21;refine bi (bf 1 J aG J J hE aT lx21 ux21) J (aS g20 J) J ?_;refine bi (bn (us:=[iV x21.Kind,iV x21.N,.string x21.S]) 1 J aG J hx21 aJ (fun _ _ _ h=>by rw [show _=_ from h];rfl)) J (aS g20 J) J ?_;obtain ⟨y22,hy22,h⟩:=aa h;refine bF (ag (dO hy22) lZ J (ac) dl) J (aS g20 J) J ?_;rintro _ _ ⟨_,⟨rfl,rfl⟩,rfl⟩;refine I ?_;obtain rfl:=ak h;exact ab sA (cS [0,1,2] 3)
   have h:=ae g20 hb20;refine I ?_;obtain rfl:=ak h;exact ab sA (cS [0,1,2] 3)
  refine I ?_;obtain rfl:=ak h;exact aE J J (cS [] 3) ⟨J,J⟩
 replace h:=ae g16 h;refine I ?_;refine gR (bz 1 J aG J hE) ?_;refine I ?_;obtain rfl:=ak h;exact aE J J (cS [] 3) ⟨J,J⟩
theorem lF {r:Bool}: ∀v post,((fun (u:Value) (post:List Chunk)=>u=.bool r∧post=[])) v post→ ∀c∈post,bL c:=by
 rintro _ _ ⟨rfl,rfl⟩;exact ac
def dE (N:Nat)(a0:AA)(a1:Int)(a2:Int):Option Bool:=
 (bif decide (a0.Kind=3) then (some (decide (a1≤a0.N))) else (some false)).bind fun b2=>(bif b2 then (some (decide (a0.N≤a2))) else (some false)).bind fun b3=>some b3
theorem dP {N:Nat}{a0:AA}{a1:Int}{a2:Int}{r:Bool}(h:dE N a0 a1 a2=some r):Okc Tryz.prog 107 [.agg #[iV a0.Kind,iV a0.N,.string a0.S],iV a1,iV a2] ([]) (fun u post=>u=.bool r∧post=[]):=by
 refine bh Tryz.func107 J J ?_;simp only [aL];refine I ?_;refine gD (aI J J) ?_;rintro _ _ ⟨B1,rfl,rfl⟩;refine I ?_;obtain ⟨b2,hb2,h⟩:=aa h;refine aC 5 15 b2 ?_ ?_
 ·clear h;refine ay 10 J (fun g2=> ?_) (fun g2=> ?_)
  ·have h:=ad g2 hb2;refine I ?_;obtain rfl:=ak h;exact ab sA (cS [0] 1)
  have h:=ae g2 hb2;refine I ?_;obtain rfl:=ak h;exact ab sA (cS [0] 1)
 refine I ?_;obtain ⟨b3,hb3,h⟩:=aa h;refine aC 5 21 b3 ?_ ?_
 ·clear h;refine ay 16 J (fun g3=> ?_) (fun g3=> ?_)
  ·have h:=ad g3 hb3;refine I ?_;obtain rfl:=ak h;exact ab sA (cS [0] 1)
  have h:=ae g3 hb3;refine I ?_;obtain rfl:=ak h;exact ab sA (cS [0] 1)
 refine I ?_;obtain rfl:=ak h;exact aE J J (cS [] 1) ⟨J,J⟩
theorem dm {r:Bool}: ∀v post,((fun (u:Value) (post:List Chunk)=>u=.bool r∧post=[])) v post→ ∀c∈post,bL c:=by
 rintro _ _ ⟨rfl,rfl⟩;exact ac
def ic (N:Nat){σ:Type}(fy:(List AA)→σ→Option (Bool×σ))(a1:(List AA))(a2:Int):Nat→Int→σ→Option σ
 |0,_,_=>none
 |m4+1,p5,p6=>bif decide (p5<(a1.length:Int)) then (dC ((0:Int)≤p5∧p5.toNat≤a1.length∧a1.length≤a1.length) (dC (bV (p5+(min a2 (((a1.drop p5.toNat).take (a1.length - p5.toNat)).length:Int)))) (dC (bV (p5+(min a2 (((a1.drop p5.toNat).take (a1.length - p5.toNat)).length:Int)))) (dC ((0:Int)≤p5∧(0:Int)≤p5+(min a2 (((a1.drop p5.toNat).take (a1.length - p5.toNat)).length:Int))∧p5.toNat≤(p5+(min a2 (((a1.drop p5.toNat).take (a1.length - p5.toNat)).length:Int))).toNat∧(p5+(min a2 (((a1.drop p5.toNat).take (a1.length - p5.toNat)).length:Int))).toNat≤a1.length) ((fy ((a1.drop p5.toNat).take ((p5+(min a2 (((a1.drop p5.toNat).take (a1.length - p5.toNat)).length:Int))).toNat - p5.toNat)) p6).bind fun y14=>bif !y14.1 then (some y14.2) else (dC (bV (p5+a2)) ((ic N fy a1 a2 m4) (p5+a2) y14.2))))))) else (some p6)
def lb (N:Nat){σ:Type}(a1:(List AA))(a2:Int)(fy:(List AA)→σ→Option (Bool×σ))(s0:σ):Option σ:=
 ic N fy a1 a2 N 0 s0
theorem oT {N:Nat}{σ:Type}{a1:(List AA)}{a2:Int}{fy:(List AA)→σ→Option (Bool×σ)}{s0:σ}{r:σ}(h:lb N a1 a2 fy s0=some r){l:Nat}{G:σ→List Chunk}(hY:lJ Tryz.prog l G (fun (x:(List AA)) vs cs=> ∃A0 n0 c0,vs=[Y A0 n0 c0]∧cs=[cx A0 n0 c0 x]) fy):Okc Tryz.prog 118 [.func (.yield l) #[] #[],pV B1 0,pV B3 0] (bd B1 35 [Y A2 n2 c2]::cx A2 n2 c2 a1::bd B3 3 [iV a2]::(G s0)) (fun u post=>u=.tuple #[]∧post=G r):=by
 refine bh Tryz.func118 J J ?_;simp only [aL];refine I ?_;refine cC (fun m s L=> ∃p5 p6,ic N fy a1 a2 m p5 p6=some r∧s=[(0,.func (.yield l) #[] #[]),(1,pV B1 0),(2,pV B3 0),(4,iV p5)]∧L=cx A2 n2 c2 a1::bd B1 35 [Y A2 n2 c2]::bd B3 3 [iV a2]::(G p6)) N _ _ ⟨0,s0,h,J,J⟩ sA (cS [1,0,2] 3) ?_;rintro (_|m4) _ _ ⟨p5,p6,h,rfl,rfl⟩
 ·exact bj h
 rw [ic.eq_2] at h;refine aw ?_;refine I ?_;refine gR (bw 1 J J eR J) ?_;refine gR (bz 0 J aG J hE) ?_;refine I ?_;refine ap J (fun g7=> ?_) (fun g7=> ?_)
 ·replace h:=ad g7 h;refine I ?_;refine aw ?_;refine gj ?_;refine aw ?_;refine bg V _ (am _) ?_;refine zR 0 J (bw 2 J J dc J) ?_;refine zR 1 J (bw 1 J J eR J) ?_;refine zE 2 J (av J) ?_;obtain ⟨q8,h⟩:=aA h;refine vO 0 J (l:=p5.toNat) (h:=a1.length) q8.2.1 q8.2.2 ?_;rintro A9 n9 c9 e9;refine zR 3 J (o9 1 J e9 J hE aT J (by rw [Int.toNat_of_nonneg q8.1];rfl) q8.2.1) ?_;refine zR 4 J (bz 0 J aG J hE) ?_;refine zE 5 J (xP J J hJ hJ) ?_;refine zE 6 J (aY J) ?_;refine aZ V ?_;refine I ?_;refine gR (bw 2 J J eR J) ?_;refine I ?_;obtain ⟨q10,h⟩:=aA h;refine gE (bT J J q10.1 q10.2) ?_;refine I ?_;obtain ⟨q11,h⟩:=aA h;refine gE (bT J J q11.1 q11.2) ?_;obtain ⟨q12,h⟩:=aA h;refine yM 1 J (l:=p5.toNat) (h:=(p5+(min a2 (((a1.drop p5.toNat).take (a1.length - p5.toNat)).length:Int))).toNat) q12.2.2.1 q12.2.2.2 ?_;rintro A13 n13 c13 e13;refine gR (wg 2 J e13 J hE aT J (by rw [Int.toNat_of_nonneg q12.1];rfl) (by rw [Int.toNat_of_nonneg q12.2.1];rfl) (by rw [Int.toNat_of_nonneg q12.2.1];rfl) q12.2.2.1 q12.2.2.2) ?_;obtain ⟨y14,hy14,h⟩:=aa h
  refine gD (tY (a:=(a1.drop p5.toNat).take ((p5+(min a2 (((a1.drop p5.toNat).take (a1.length - p5.toNat)).length:Int))).toNat - p5.toNat)) [cx A13 n13 c13 ((a1.drop p5.toNat).take ((p5+(min a2 (((a1.drop p5.toNat).take (a1.length - p5.toNat)).length:Int))).toNat - p5.toNat)),cx A9 n9 c9 ((a1.drop p5.toNat).take (a1.length - p5.toNat)),cx A2 n2 c2 a1,bd B1 35 [Y A2 n2 c2],bd B3 3 [iV a2]] hY hy14 J J ⟨_,_,_,J,J⟩ (xV 0 J J)) ?_;rintro _ _ ⟨rfl,rfl⟩;refine I ?_;refine ap J (fun g15=> ?_) (fun g15=> ?_)
  ·replace h:=ad g15 h;refine I ?_;obtain rfl:=ak h;exact uR J (cS [] 5) ⟨J,J⟩
  replace h:=ae g15 h;refine I ?_;refine gR (bw 4 J J dc J) ?_;obtain ⟨q16,h⟩:=aA h;refine gE (bT J J q16.1 q16.2) ?_;refine I ?_;exact ⟨m4,_,_,AK _,⟨p5+a2,y14.2,h,J,J⟩,sA,cS [2,3,4] 5⟩
 replace h:=ae g7 h;refine I ?_;obtain rfl:=ak h;exact d8 J (cS [] 3) ⟨J,J⟩
def iZ (N:Nat)(a0:(List AA))(a1:Int):Option Unit:=
 bif decide (a1<1) then none else (some ())
theorem mg {N:Nat}{a0:(List AA)}{a1:Int}{r:Unit}(h:iZ N a0 a1=some r):Okc Tryz.prog 112 [Y A1 n1 c1,iV a1] ([cx A1 n1 c1 a0]) (fun u post=> ∃B900 B901,u=.func (.func 118) #[] #[pV B900 0,pV B901 0]∧post=[al B900 35 [Y A1 n1 c1],al B901 3 [iV a1]]):=by
 refine bh Tryz.func112 J J ?_;simp only [aL];refine I ?_;refine gD (aI J J) ?_;rintro _ _ ⟨B2,rfl,rfl⟩;refine gD (aI J J) ?_;rintro _ _ ⟨B3,rfl,rfl⟩;refine I ?_;refine aw ?_;refine I ?_;refine ap J (fun g4=> ?_) (fun g4=> ?_)
 ·replace h:=ad g4 h;exact bj h
 replace h:=ae g4 h;refine I ?_;refine gE (oK J) ?_;refine I ?_;obtain rfl:=ak h;exact aE J J (cS [1,0] 3) ⟨_,_,J,J⟩
theorem kW {a1:Int}{A1:Option Addr}{n1:Nat}{c1:Nat}: ∀v post,((fun (u:Value) (post:List Chunk)=> ∃B900 B901,u=.func (.func 118) #[] #[pV B900 0,pV B901 0]∧post=[al B900 35 [Y A1 n1 c1],al B901 3 [iV a1]])) v post→ ∀c∈post,bL c:=by
 rintro _ _ ⟨_,_,rfl,rfl⟩;exact hD nw (hD nw (ac))
def eM (N:Nat)(a1:Int)(x9:(List AA)):(Unit)→Option (Option Exit×Unit)
 |()=>(cg x9 0).bind fun x12=>(bif !decide (x12.Kind=7) then (some true) else ((cg x9 1).bind fun x14=>some (decide (x14.Kind=8)))).bind fun b13=>bif b13 then (some (some .ret,())) else ((bif decide (a1=4) then ((cg x9 2).bind fun x17=>(dD N x17 7).bind fun y18=>(bif !y18 then (some true) else ((cg x9 3).bind fun x20=>(dE N x20 0 9007199254740992).bind fun y21=>some (!y21))).bind fun b19=>some b19) else (some false)).bind fun b16=>bif b16 then (some (some .ret,())) else (some (none,())))
def fi (N:Nat)(a0:(List AA))(a1:Int):Option Bool:=
 dC (a1≠0) (bif !decide ((a0.length:Int).tmod a1=0) then (some false) else ((iZ N a0 a1).bind fun y6=>(lb N a0 a1 (lv (fun x st=>eM N a1 x st)) (none,())).bind fun y11=>rY y11.1 (some true) (some false) (fun _=>none)))
theorem ia {N:Nat}{a0:(List AA)}{a1:Int}{r:Bool}(h:fi N a0 a1=some r):Okc Tryz.prog 108 [Y A1 n1 c1,iV a1] ([cx A1 n1 c1 a0]) (fun u post=>u=.bool r∧post=[]):=by
 refine bh Tryz.func108 J J ?_;simp only [aL];refine I ?_;refine gD (aI J J) ?_;rintro _ _ ⟨B2,rfl,rfl⟩;refine gD (aP xc J) ?_;rintro _ _ ⟨B3,rfl,rfl⟩;refine I ?_;refine aw ?_;refine I ?_;refine gR (bz 2 J aG J hE) ?_;refine I ?_;obtain ⟨q4,h⟩:=aA h;refine gE (ij J J q4) ?_;refine I ?_;refine ap J (fun g5=> ?_) (fun g5=> ?_)
 ·replace h:=ad g5 h;refine I ?_;refine gO (ar (us:=[.bool false]) (cs':=[.bool false]) 0 J J J J pn J J J) ?_;rintro _ _ rfl;refine I ?_;obtain rfl:=ak h;exact ca (rs:=[.cell 4 4]) (vs:=[.bool false]) J (.cons (lP 0 J J sh) .nil) J (cS [] 3) ⟨J,J⟩
 replace h:=ae g5 h;refine I ?_;refine aw ?_;refine I ?_;obtain ⟨y6,hy6,h⟩:=aa h;refine gD (ag (mg hy6) wP J (hD (ai (i:=2) J J) ac) kW) ?_;rintro _ _ ⟨_,⟨B7,B8,rfl,rfl⟩,rfl⟩;refine nS ?_;refine eB ?_;refine jl ?_ dn (lX 0 J);refine jl ?_ dn (lX 1 J);refine xd ?_;obtain ⟨y11,hy11,h⟩:=aa h;refine ui (R:=(fun (x:(List AA)) vs cs=> ∃A0 n0 c0,vs=[Y A0 n0 c0]∧cs=[cx A0 n0 c0 x])) (fun x st=>eM N a1 x st) (fun (st:Unit) (mz:Unit)=> [al B2 3 [iV a1],al B3 4 [.bool false]]) [bd B7 35 [Y A1 n1 c1],cx A1 n1 c1 a0,bd B8 3 [iV a1]] (()) (()) J J wM J (by rintro _ _ _ ⟨_,_,_,rfl,rfl⟩;rfl) (fun l G hY=>(oT hy11 hY).mono fun _ _ hh=>hh.2) (az [0,4,1] [] [3,2] 5 J) h ?_ ?_ ?_ ?_
 ·rintro l x9 _ je sr9 _ h _ _ ⟨A10,n10,c10,rfl,rfl⟩;replace h:eM N a1 x9 ()=some (je,sr9):=h;simp only [re,List.zip_cons_cons,List.zip_nil_left,List.zip_nil_right,List.reverse_cons,List.reverse_nil,List.nil_append,List.cons_append];refine I ?_;refine aw ?_;refine I ?_;obtain ⟨x12,hx12,h⟩:=aa h;obtain ⟨lx12,ux12,hx12⟩:=aF hx12;refine gR (bf 0 J aG J J hE aT lx12 ux12) ?_;refine gR (jH 0 J aG J (aQ lx12 ux12) iN) ?_;refine gR (cf (u:=iV x12.Kind) 0 J aG J hx12 dc (fun _ _ _ h=>by rw [show _=_ from h];rfl)) ?_;refine I ?_;obtain ⟨b13,hb13,h⟩:=aa h;refine aC 6 26 b13 ?_ ?_
  ·clear h;refine ay 20 J (fun g13=> ?_) (fun g13=> ?_)
   ·have h:=ad g13 hb13;refine I ?_;obtain rfl:=ak h;exact ab sA (cS [0,1,2] 3)
   have h:=ae g13 hb13;refine I ?_;obtain ⟨x14,hx14,h⟩:=aa h;obtain ⟨lx14,ux14,hx14⟩:=aF hx14;refine bi (bf 0 J aG J J hE aT lx14 ux14) J (cq g13 J) J ?_;refine bi (jH 0 J aG J (aQ lx14 ux14) iN) J (cq g13 J) J ?_;refine bi (cf (u:=iV x14.Kind) 0 J aG J hx14 dc (fun _ _ _ h=>by rw [show _=_ from h];rfl)) J (cq g13 J) J ?_;refine I ?_;obtain rfl:=ak h;exact ab sA (cS [0,1,2] 3)
  refine I ?_;refine ap J (fun g15=> ?_) (fun g15=> ?_)
  ·replace h:=ad g15 h;refine I ?_;refine gO (ar (us:=[.bool false]) (cs':=[.bool false]) 2 J J J J pn J J J) ?_;rintro _ _ rfl;refine I ?_;obtain ⟨rfl,rfl⟩:=Prod.mk.inj (Option.some.inj h);exact sR ((cS [1,2] 3).trans (ge () J))
  replace h:=ae g15 h;refine I ?_;obtain ⟨b16,hb16,h⟩:=aa h;refine aC 13 42 b16 ?_ ?_
  ·clear h;refine ay 29 J (fun g16=> ?_) (fun g16=> ?_)
   ·have h:=ad g16 hb16;refine I ?_;obtain ⟨x17,hx17,h⟩:=aa h;obtain ⟨lx17,ux17,hx17⟩:=aF hx17;refine bi (bf 0 J aG J J hE aT lx17 ux17) J (aS g16 J) J ?_;refine bi (bn (us:=[iV x17.Kind,iV x17.N,.string x17.S]) 0 J aG J hx17 aJ (fun _ _ _ h=>by rw [show _=_ from h];rfl)) J (aS g16 J) J ?_;obtain ⟨y18,hy18,h⟩:=aa h;refine bF (ag (dO hy18) lZ J (ac) dl) J (aS g16 J) J ?_;rintro _ _ ⟨_,⟨rfl,rfl⟩,rfl⟩;refine I ?_;obtain ⟨b19,hb19,h⟩:=aa h;refine aC 6 41 b19 ?_ ?_
    ·clear h;refine ay 35 J (fun g19=> ?_) (fun g19=> ?_)
     ·have h:=ad g19 hb19;refine I ?_;obtain rfl:=ak h;exact ab sA (cS [0,1,2] 3)
     have h:=ae g19 hb19;refine I ?_;obtain ⟨x20,hx20,h⟩:=aa h;obtain ⟨lx20,ux20,hx20⟩:=aF hx20;refine bi (bf 0 J aG J J hE aT lx20 ux20) J (cq g19 J) J ?_;refine bi (bn (us:=[iV x20.Kind,iV x20.N,.string x20.S]) 0 J aG J hx20 aJ (fun _ _ _ h=>by rw [show _=_ from h];rfl)) J (cq g19 J) J ?_;obtain ⟨y21,hy21,h⟩:=aa h;refine bF (ag (dP hy21) lY J (ac) dm) J (cq g19 J) J ?_;rintro _ _ ⟨_,⟨rfl,rfl⟩,rfl⟩;refine I ?_;obtain rfl:=ak h;exact ab sA (cS [0,1,2] 3)
    refine I ?_;obtain rfl:=ak h;exact ab sA (cS [0,1,2] 3)
   have h:=ae g16 hb16;refine I ?_;obtain rfl:=ak h;exact ab sA (cS [0,1,2] 3)
  refine I ?_;refine ap J (fun g22=> ?_) (fun g22=> ?_)
  ·replace h:=ad g22 h;refine I ?_;refine gO (ar (us:=[.bool false]) (cs':=[.bool false]) 2 J J J J pn J J J) ?_;rintro _ _ rfl;refine I ?_;obtain ⟨rfl,rfl⟩:=Prod.mk.inj (Option.some.inj h);exact sR ((cS [1,2] 3).trans (ge () J))
  replace h:=ae g22 h;refine I ?_;obtain ⟨rfl,rfl⟩:=Prod.mk.inj (Option.some.inj h);exact wW ((cS [1,2] 3).trans (ge () J))
 ·rintro _ h;refine nR ([al B2 3 [iV a1],al B3 4 [.bool false]]) J ?_;refine I ?_;refine gO (ar (us:=[.bool true]) (cs':=[.bool true]) 1 J J J J pn J J J) ?_;rintro _ _ rfl;refine bJ ?_;refine I ?_;obtain rfl:=ak h;exact ca (rs:=[.cell 4 4]) (vs:=[.bool true]) J (.cons (lP 1 J J sh) .nil) J (cS [] 2) ⟨J,J⟩
 ·rintro _ h;refine nR ([al B2 3 [iV a1],al B3 4 [.bool false]]) J ?_;refine I ?_;obtain rfl:=ak h;exact ca (rs:=[.cell 4 4]) (vs:=[.bool false]) J (.cons (lP 1 J J sh) .nil) J (cS [] 2) ⟨J,J⟩
 rintro i _ h;exact bj h
theorem gh {r:Bool}: ∀v post,((fun (u:Value) (post:List Chunk)=>u=.bool r∧post=[])) v post→ ∀c∈post,bL c:=by
 rintro _ _ ⟨rfl,rfl⟩;exact ac
def gg (N:Nat)(a0:Int)(a1:(List AA))(p5:Bool):Option Bool:=
 bif p5 then (some (decide ((a1.length:Int)=0))) else (bif decide (a0=3) then ((bif decide ((a1.length:Int)=3) then ((cg a1 0).bind fun x10=>(dE N x10 0 9007199254740992).bind fun y11=>some y11) else (some false)).bind fun b9=>(bif b9 then ((cg a1 1).bind fun x13=>(dD N x13 9).bind fun y14=>some y14) else (some false)).bind fun b12=>some b12) else (bif decide (a0=4) then ((bif decide (1≤(a1.length:Int)) then (some (decide ((a1.length:Int)≤4097))) else (some false)).bind fun b16=>(bif b16 then ((cg a1 0).bind fun x18=>(dD N x18 9).bind fun y19=>some y19) else (some false)).bind fun b17=>some b17) else (bif decide (a0=6) then ((bif decide ((a1.length:Int)=2) then ((cg a1 0).bind fun x22=>(dE N x22 0 3).bind fun y23=>some y23) else (some false)).bind fun b21=>(bif b21 then ((cg a1 1).bind fun x25=>(dD N x25 9).bind fun y26=>some y26) else (some false)).bind fun b24=>some b24) else (bif decide (a0=7) then ((bif decide (4≤(a1.length:Int)) then ((cg a1 2).bind fun x29=>(dE N x29 0 1).bind fun y30=>some y30) else (some false)).bind fun b28=>(bif b28 then ((cg a1 3).bind fun x32=>(dE N x32 0 9007199254740992).bind fun y33=>some y33) else (some false)).bind fun b31=>some b31) else (bif decide (a0=8) then ((fi N a1 2).bind fun y35=>some y35) else (bif decide (a0=10) then ((bif decide (1≤(a1.length:Int)) then ((cg a1 0).bind fun x38=>some (decide (x38.Kind=7))) else (some false)).bind fun b37=>(bif b37 then (dC ((0:Int)≤1∧(1:Int).toNat≤a1.length∧a1.length≤a1.length) ((fi N ((a1.drop ((1:Int).toNat)).take (a1.length - (1:Int).toNat)) 4).bind fun y42=>some y42)) else (some false)).bind fun b39=>some b39) else (bif decide (a0=9) then ((bif decide (2≤(a1.length:Int)) then ((cg a1 0).bind fun x45=>(dE N x45 0 2).bind fun y46=>some y46) else (some false)).bind fun b44=>some b44) else (some true))))))))
def ki (N:Nat)(a0:Int)(a1:(List AA)):Option Bool:=
 bif decide (1048576<(a1.length:Int)) then (some false) else (bif decide (a0=2) then (some (decide ((a1.length:Int)≤4096))) else (bif decide (a0=1) then (gg N a0 a1 (decide (a0=1))) else (gg N a0 a1 (decide (a0=5)))))
set_option maxHeartbeats 4000000 in
theorem nK {N:Nat}{a0:Int}{a1:(List AA)}{r:Bool}(h:ki N a0 a1=some r):Okc Tryz.prog 98 [iV a0,Y A1 n1 c1] ([cx A1 n1 c1 a1]) (fun u post=>u=.bool r∧post=[]):=by
 refine bh Tryz.func98 J J ?_;simp only [aL];refine I ?_;refine aw ?_;refine I ?_;refine gR (bz 0 J aG J hE) ?_;refine I ?_;refine ap J (fun g2=> ?_) (fun g2=> ?_)
 ·replace h:=ad g2 h;refine I ?_;obtain rfl:=ak h;exact aE J J (cS [] 1) ⟨J,J⟩
 replace h:=ae g2 h;refine I ?_;refine aw ?_;refine I ?_;refine ap J (fun g3=> ?_) (fun g3=> ?_)
 ·replace h:=ad g3 h;refine I ?_;refine gR (bz 0 J aG J hE) ?_;refine I ?_;obtain rfl:=ak h;exact aE J J (cS [] 1) ⟨J,J⟩
 replace h:=ae g3 h;refine aW (fun s L=> ∃p5,gg N a0 a1 p5=some r∧s=[(1,Y A1 n1 c1),(4,.bool false),(8,iV a0),(14,.bool p5)]∧L=[cx A1 n1 c1 a1]) ?_ ?_
 ·refine I ?_;refine ap J (fun g6=> ?_) (fun g6=> ?_)
  ·replace h:=ad g6 h;refine I ?_;exact ⟨_,_,⟨decide (a0=1),h,J,J⟩,sA,cS [0] 1⟩
  replace h:=ae g6 h;refine I ?_;exact ⟨_,_,⟨decide (a0=5),h,J,J⟩,sA,cS [0] 1⟩
 rintro _ _ ⟨p5,h,rfl,rfl⟩;refine ap J (fun g7=> ?_) (fun g7=> ?_)
 ·replace h:=ad g7 h;refine I ?_;refine gR (bz 0 J aG J hE) ?_;refine I ?_;obtain rfl:=ak h;exact aE J J (cS [] 1) ⟨J,J⟩
 replace h:=ae g7 h;refine I ?_;refine ap J (fun g8=> ?_) (fun g8=> ?_)
 ·replace h:=ad g8 h;refine I ?_;refine gR (bz 0 J aG J hE) ?_;refine I ?_;obtain ⟨b9,hb9,h⟩:=aa h;refine aC 5 30 b9 ?_ ?_
  ·clear h;refine ay 25 J (fun g9=> ?_) (fun g9=> ?_)
   ·have h:=ad g9 hb9;refine I ?_;obtain ⟨x10,hx10,h⟩:=aa h;obtain ⟨lx10,ux10,hx10⟩:=aF hx10;refine bi (bf 0 J aG J J hE aT lx10 ux10) J (aS g9 J) J ?_;refine bi (bn (us:=[iV x10.Kind,iV x10.N,.string x10.S]) 0 J aG J hx10 aJ (fun _ _ _ h=>by rw [show _=_ from h];rfl)) J (aS g9 J) J ?_;obtain ⟨y11,hy11,h⟩:=aa h;refine bF (ag (dP hy11) lY J (ac) dm) J (aS g9 J) J ?_;rintro _ _ ⟨_,⟨rfl,rfl⟩,rfl⟩;refine I ?_;obtain rfl:=ak h;exact ab sA (cS [0] 1)
   have h:=ae g9 hb9;refine I ?_;obtain rfl:=ak h;exact ab sA (cS [0] 1)
  refine I ?_;obtain ⟨b12,hb12,h⟩:=aa h;refine aC 5 36 b12 ?_ ?_
  ·clear h;refine ay 31 J (fun g12=> ?_) (fun g12=> ?_)
   ·have h:=ad g12 hb12;refine I ?_;obtain ⟨x13,hx13,h⟩:=aa h;obtain ⟨lx13,ux13,hx13⟩:=aF hx13;refine bi (bf 0 J aG J J hE aT lx13 ux13) J (aS g12 J) J ?_;refine bi (bn (us:=[iV x13.Kind,iV x13.N,.string x13.S]) 0 J aG J hx13 aJ (fun _ _ _ h=>by rw [show _=_ from h];rfl)) J (aS g12 J) J ?_;obtain ⟨y14,hy14,h⟩:=aa h;refine bF (ag (dO hy14) lZ J (ac) dl) J (aS g12 J) J ?_;rintro _ _ ⟨_,⟨rfl,rfl⟩,rfl⟩;refine I ?_;obtain rfl:=ak h;exact ab sA (cS [0] 1)
   have h:=ae g12 hb12;refine I ?_;obtain rfl:=ak h;exact ab sA (cS [0] 1)
  refine I ?_;obtain rfl:=ak h;exact aE J J (cS [] 1) ⟨J,J⟩
 replace h:=ae g8 h;refine I ?_;refine ap J (fun g15=> ?_) (fun g15=> ?_)
 ·replace h:=ad g15 h;refine I ?_;refine gR (bz 0 J aG J hE) ?_;refine I ?_;obtain ⟨b16,hb16,h⟩:=aa h;refine aC 4 46 b16 ?_ ?_
  ·clear h;refine ay 42 J (fun g16=> ?_) (fun g16=> ?_)
   ·have h:=ad g16 hb16;refine I ?_;refine bi (bz 0 J aG J hE) J (aS g16 J) J ?_;refine I ?_;obtain rfl:=ak h;exact ab sA (cS [0] 1)
   have h:=ae g16 hb16;refine I ?_;obtain rfl:=ak h;exact ab sA (cS [0] 1)
  refine I ?_;obtain ⟨b17,hb17,h⟩:=aa h;refine aC 5 52 b17 ?_ ?_
  ·clear h;refine ay 47 J (fun g17=> ?_) (fun g17=> ?_)
   ·have h:=ad g17 hb17;refine I ?_;obtain ⟨x18,hx18,h⟩:=aa h;obtain ⟨lx18,ux18,hx18⟩:=aF hx18;refine bi (bf 0 J aG J J hE aT lx18 ux18) J (aS g17 J) J ?_;refine bi (bn (us:=[iV x18.Kind,iV x18.N,.string x18.S]) 0 J aG J hx18 aJ (fun _ _ _ h=>by rw [show _=_ from h];rfl)) J (aS g17 J) J ?_;obtain ⟨y19,hy19,h⟩:=aa h;refine bF (ag (dO hy19) lZ J (ac) dl) J (aS g17 J) J ?_;rintro _ _ ⟨_,⟨rfl,rfl⟩,rfl⟩;refine I ?_;obtain rfl:=ak h;exact ab sA (cS [0] 1)
   have h:=ae g17 hb17;refine I ?_;obtain rfl:=ak h;exact ab sA (cS [0] 1)
  refine I ?_;obtain rfl:=ak h;exact aE J J (cS [] 1) ⟨J,J⟩
 replace h:=ae g15 h;refine I ?_;refine ap J (fun g20=> ?_) (fun g20=> ?_)
 ·replace h:=ad g20 h;refine I ?_;refine gR (bz 0 J aG J hE) ?_;refine I ?_;obtain ⟨b21,hb21,h⟩:=aa h;refine aC 5 63 b21 ?_ ?_
  ·clear h;refine ay 58 J (fun g21=> ?_) (fun g21=> ?_)
   ·have h:=ad g21 hb21;refine I ?_;obtain ⟨x22,hx22,h⟩:=aa h;obtain ⟨lx22,ux22,hx22⟩:=aF hx22;refine bi (bf 0 J aG J J hE aT lx22 ux22) J (aS g21 J) J ?_;refine bi (bn (us:=[iV x22.Kind,iV x22.N,.string x22.S]) 0 J aG J hx22 aJ (fun _ _ _ h=>by rw [show _=_ from h];rfl)) J (aS g21 J) J ?_;obtain ⟨y23,hy23,h⟩:=aa h;refine bF (ag (dP hy23) lY J (ac) dm) J (aS g21 J) J ?_;rintro _ _ ⟨_,⟨rfl,rfl⟩,rfl⟩;refine I ?_;obtain rfl:=ak h;exact ab sA (cS [0] 1)
   have h:=ae g21 hb21;refine I ?_;obtain rfl:=ak h;exact ab sA (cS [0] 1)
  refine I ?_;obtain ⟨b24,hb24,h⟩:=aa h;refine aC 5 69 b24 ?_ ?_
  ·clear h;refine ay 64 J (fun g24=> ?_) (fun g24=> ?_)
   ·have h:=ad g24 hb24;refine I ?_;obtain ⟨x25,hx25,h⟩:=aa h;obtain ⟨lx25,ux25,hx25⟩:=aF hx25;refine bi (bf 0 J aG J J hE aT lx25 ux25) J (aS g24 J) J ?_;refine bi (bn (us:=[iV x25.Kind,iV x25.N,.string x25.S]) 0 J aG J hx25 aJ (fun _ _ _ h=>by rw [show _=_ from h];rfl)) J (aS g24 J) J ?_;obtain ⟨y26,hy26,h⟩:=aa h;refine bF (ag (dO hy26) lZ J (ac) dl) J (aS g24 J) J ?_;rintro _ _ ⟨_,⟨rfl,rfl⟩,rfl⟩;refine I ?_;obtain rfl:=ak h;exact ab sA (cS [0] 1)
   have h:=ae g24 hb24;refine I ?_;obtain rfl:=ak h;exact ab sA (cS [0] 1)
  refine I ?_;obtain rfl:=ak h;exact aE J J (cS [] 1) ⟨J,J⟩
 replace h:=ae g20 h;refine I ?_;refine ap J (fun g27=> ?_) (fun g27=> ?_)
 ·replace h:=ad g27 h;refine I ?_;refine gR (bz 0 J aG J hE) ?_;refine I ?_;obtain ⟨b28,hb28,h⟩:=aa h;refine aC 5 80 b28 ?_ ?_
  ·clear h;refine ay 75 J (fun g28=> ?_) (fun g28=> ?_)
   ·have h:=ad g28 hb28;refine I ?_;obtain ⟨x29,hx29,h⟩:=aa h;obtain ⟨lx29,ux29,hx29⟩:=aF hx29;refine bi (bf 0 J aG J J hE aT lx29 ux29) J (aS g28 J) J ?_;refine bi (bn (us:=[iV x29.Kind,iV x29.N,.string x29.S]) 0 J aG J hx29 aJ (fun _ _ _ h=>by rw [show _=_ from h];rfl)) J (aS g28 J) J ?_;obtain ⟨y30,hy30,h⟩:=aa h;refine bF (ag (dP hy30) lY J (ac) dm) J (aS g28 J) J ?_;rintro _ _ ⟨_,⟨rfl,rfl⟩,rfl⟩;refine I ?_;obtain rfl:=ak h;exact ab sA (cS [0] 1)
   have h:=ae g28 hb28;refine I ?_;obtain rfl:=ak h;exact ab sA (cS [0] 1)
  refine I ?_;obtain ⟨b31,hb31,h⟩:=aa h;refine aC 5 86 b31 ?_ ?_
  ·clear h;refine ay 81 J (fun g31=> ?_) (fun g31=> ?_)
   ·have h:=ad g31 hb31;refine I ?_;obtain ⟨x32,hx32,h⟩:=aa h;obtain ⟨lx32,ux32,hx32⟩:=aF hx32;refine bi (bf 0 J aG J J hE aT lx32 ux32) J (aS g31 J) J ?_;refine bi (bn (us:=[iV x32.Kind,iV x32.N,.string x32.S]) 0 J aG J hx32 aJ (fun _ _ _ h=>by rw [show _=_ from h];rfl)) J (aS g31 J) J ?_;obtain ⟨y33,hy33,h⟩:=aa h;refine bF (ag (dP hy33) lY J (ac) dm) J (aS g31 J) J ?_;rintro _ _ ⟨_,⟨rfl,rfl⟩,rfl⟩;refine I ?_;obtain rfl:=ak h;exact ab sA (cS [0] 1)
   have h:=ae g31 hb31;refine I ?_;obtain rfl:=ak h;exact ab sA (cS [0] 1)
  refine I ?_;obtain rfl:=ak h;exact aE J J (cS [] 1) ⟨J,J⟩
 replace h:=ae g27 h;refine I ?_;refine ap J (fun g34=> ?_) (fun g34=> ?_)
 ·replace h:=ad g34 h;refine I ?_;obtain ⟨y35,hy35,h⟩:=aa h;refine gD (ag (ia hy35) tD J (hD (ai (i:=0) J J) ac) gh) ?_;rintro _ _ ⟨_,⟨rfl,rfl⟩,rfl⟩;refine I ?_;obtain rfl:=ak h;exact aE J J (cS [] 1) ⟨J,J⟩
 replace h:=ae g34 h;refine I ?_;refine ap J (fun g36=> ?_) (fun g36=> ?_)
 ·replace h:=ad g36 h;refine I ?_;refine gR (bz 0 J aG J hE) ?_;refine I ?_;obtain ⟨b37,hb37,h⟩:=aa h;refine aC 6 102 b37 ?_ ?_
  ·clear h;refine ay 96 J (fun g37=> ?_) (fun g37=> ?_)
   ·have h:=ad g37 hb37;refine I ?_;obtain ⟨x38,hx38,h⟩:=aa h;obtain ⟨lx38,ux38,hx38⟩:=aF hx38;refine bi (bf 0 J aG J J hE aT lx38 ux38) J (aS g37 J) J ?_;refine bi (jH 0 J aG J (aQ lx38 ux38) iN) J (aS g37 J) J ?_;refine bi (cf (u:=iV x38.Kind) 0 J aG J hx38 dc (fun _ _ _ h=>by rw [show _=_ from h];rfl)) J (aS g37 J) J ?_;refine I ?_;obtain rfl:=ak h;exact ab sA (cS [0] 1)
   have h:=ae g37 hb37;refine I ?_;obtain rfl:=ak h;exact ab sA (cS [0] 1)
  refine I ?_;obtain ⟨b39,hb39,h⟩:=aa h;refine aC 4 107 b39 ?_ ?_
  ·clear h;refine ay 103 J (fun g39=> ?_) (fun g39=> ?_)
   ·have h:=ad g39 hb39;refine I ?_;obtain ⟨q40,h⟩:=aA h;refine xw 0 J (l:=(1:Int).toNat) (h:=a1.length) q40.2.1 q40.2.2 ?_;rintro A41 n41 c41 e41;refine bi (o9 1 J e41 J hE aT J (by rw [Int.toNat_of_nonneg q40.1];rfl) q40.2.1) J (aS g39 J) J ?_;obtain ⟨y42,hy42,h⟩:=aa h;refine bF (ag (ia hy42) tD J (hD (ai (i:=0) J J) ac) gh) J (aS g39 J) J ?_;rintro _ _ ⟨_,⟨rfl,rfl⟩,rfl⟩;refine I ?_;obtain rfl:=ak h;exact ab sA (cS [1] 2)
   have h:=ae g39 hb39;refine I ?_;obtain rfl:=ak h;exact ab sA (cS [0] 1)
  refine I ?_;obtain rfl:=ak h;exact aE J J (cS [] 1) ⟨J,J⟩
 replace h:=ae g36 h;refine I ?_;refine ap J (fun g43=> ?_) (fun g43=> ?_)
 ·replace h:=ad g43 h;refine I ?_;refine gR (bz 0 J aG J hE) ?_;refine I ?_;obtain ⟨b44,hb44,h⟩:=aa h;refine aC 5 118 b44 ?_ ?_
  ·clear h;refine ay 113 J (fun g44=> ?_) (fun g44=> ?_)
   ·have h:=ad g44 hb44;refine I ?_;obtain ⟨x45,hx45,h⟩:=aa h;obtain ⟨lx45,ux45,hx45⟩:=aF hx45;refine bi (bf 0 J aG J J hE aT lx45 ux45) J (aS g44 J) J ?_;refine bi (bn (us:=[iV x45.Kind,iV x45.N,.string x45.S]) 0 J aG J hx45 aJ (fun _ _ _ h=>by rw [show _=_ from h];rfl)) J (aS g44 J) J ?_;obtain ⟨y46,hy46,h⟩:=aa h;refine bF (ag (dP hy46) lY J (ac) dm) J (aS g44 J) J ?_;rintro _ _ ⟨_,⟨rfl,rfl⟩,rfl⟩;refine I ?_;obtain rfl:=ak h;exact ab sA (cS [0] 1)
   have h:=ae g44 hb44;refine I ?_;obtain rfl:=ak h;exact ab sA (cS [0] 1)
  refine I ?_;obtain rfl:=ak h;exact aE J J (cS [] 1) ⟨J,J⟩
 replace h:=ae g43 h;refine I ?_;obtain rfl:=ak h;exact aE J J (cS [] 1) ⟨J,J⟩
theorem mm {r:Bool}: ∀v post,((fun (u:Value) (post:List Chunk)=>u=.bool r∧post=[])) v post→ ∀c∈post,bL c:=by
 rintro _ _ ⟨rfl,rfl⟩;exact ac
end Go.Proofs.YtanojiedimeegaaGreat