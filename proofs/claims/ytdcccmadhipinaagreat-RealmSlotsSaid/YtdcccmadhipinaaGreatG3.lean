/- Merged texts: part 3. No conditions of their own. -/
import Derived.Test.YtdcccmadhipinaaGreatG2
import Derived.Test.YtdcccmadhipinaaGreatChecked
import Derived.ProofKit
namespace Go.Proofs.YtdcccmadhipinaaGreat
theorem hH:type_of% Tryz.underlying3:=Tryz.underlying3
theorem hG:type_of% Tryz.underlying9:=Tryz.underlying9
theorem hE:type_of% Tryz.underlying30:=Tryz.underlying30
variable {A1 A2 A3 A4 A5:Option Addr} {B1 B3 B6 M7 c1 c2 c3 c4 c5 n1 n2 n3 n4 n5:Nat}
open Go.RowKit Asn
set_option maxRecDepth 20000
structure hU where
 Way:Int
 Steps:Int
 Calls:Int
 Made:Int
 Young:Int
 Full:Int
 Sites:Int
 deriving DecidableEq,Inhabited
def sM:Rep hU:=.flat 7 (fun x=> [iV x.Way,iV x.Steps,iV x.Calls,iV x.Made,iV x.Young,iV x.Full,iV x.Sites]) (fun _=>rfl) (fun _=>rfl)
structure uL where
 at_:(List (Int×Bool))
 deriving DecidableEq,Inhabited
structure uK where
 Kind:Int
 N:Int
 S:ByteArray
 deriving DecidableEq,Inhabited
def aO:Rep uK:=.flat 3 (fun x=> [iV x.Kind,iV x.N,.string x.S]) (fun _=>rfl) (fun _=>rfl)
structure uG where
 Kind:Int
 Shape:Int
 Flags:Int
 Age:Int
 Slots:(List uK)
 More:(List uK)
 deriving DecidableEq,Inhabited
def gl:Rep uG where
 sz:=6
 rel S w vs x:= ∃A4 n4 c4 A5 n5 c5,vs=[iV x.Kind,iV x.Shape,iV x.Flags,iV x.Age,Y A4 n4 c4,Y A5 n5 c5]∧SlR aO S w (Y A4 n4 c4) x.Slots∧SlR aO S w (Y A5 n5 c5) x.More
 loc:=fun h ⟨_,_,_,_,_,_,e,h4,h5⟩=>⟨_,_,_,_,_,_,e,h4.loc h,h5.loc h⟩
 mono:=fun h ⟨_,_,_,_,_,_,e,h4,h5⟩=>⟨_,_,_,_,_,_,e,h4.mono h,h5.mono h⟩
 len:=fun ⟨_,_,_,_,_,_,e,_⟩=>by rw [e];rfl
 one:=fun ⟨_,_,_,_,_,_,e,_⟩=>by rw [e];rfl
theorem kz (x:uG):pS gl x fun vs cs=> ∃A4 n4 c4 A5 n5 c5,vs=[iV x.Kind,iV x.Shape,iV x.Flags,iV x.Age,Y A4 n4 c4,Y A5 n5 c5]∧cs=[cK aO (Y A4 n4 c4) x.Slots,cK aO (Y A5 n5 c5) x.More]:=fun S w vs ⟨_,_,_,_,_,_,e,h4,h5⟩=>⟨_,⟨_,_,_,_,_,_,e,rfl⟩,hD h4 (hD h5 (ag))⟩
structure uE where
 Young:(List uG)
 Old:(List uG)
 deriving DecidableEq,Inhabited
def sL:Rep uE where
 sz:=2
 rel S w vs x:= ∃A0 n0 c0 A1 n1 c1,vs=[Y A0 n0 c0,Y A1 n1 c1]∧SlR gl S w (Y A0 n0 c0) x.Young∧SlR gl S w (Y A1 n1 c1) x.Old
 loc:=fun h ⟨_,_,_,_,_,_,e,h0,h1⟩=>⟨_,_,_,_,_,_,e,h0.loc h,h1.loc h⟩
 mono:=fun h ⟨_,_,_,_,_,_,e,h0,h1⟩=>⟨_,_,_,_,_,_,e,h0.mono h,h1.mono h⟩
 len:=fun ⟨_,_,_,_,_,_,e,_⟩=>by rw [e];rfl
 one:=fun ⟨_,_,_,_,_,_,e,_⟩=>by rw [e];rfl
structure uI where
 m_:uE
 roots_:(List uK)
 pending_:(List uK)
 set_:uL
 deriving DecidableEq,Inhabited
structure uB where
 Kind:Int
 N:Int
 S:ByteArray
 deriving DecidableEq,Inhabited
def tW:Rep uB:=.flat 3 (fun x=> [iV x.Kind,iV x.N,.string x.S]) (fun _=>rfl) (fun _=>rfl)
structure uD where
 Up:Int
 Key:uB
 Attrs:Int
 Len:Int
 deriving DecidableEq,Inhabited
def br:Rep uD:=.flat 6 (fun x=> [iV x.Up,iV x.Key.Kind,iV x.Key.N,.string x.Key.S,iV x.Attrs,iV x.Len]) (fun _=>rfl) (fun _=>rfl)
structure uF where
 up_:Int
 key_:uB
 attrs_:Int
 deriving DecidableEq,Inhabited
def tA:Rep uF:=.flat 5 (fun x=> [iV x.up_,iV x.key_.Kind,iV x.key_.N,.string x.key_.S,iV x.attrs_]) (fun _=>rfl) (fun _=>rfl)
structure uH where
 shapes_:(List uD)
 next_:(List (uF×Int))
 deriving DecidableEq,Inhabited
structure uC where
 steps_:Int
 made_:Int
 calls_:Int
 deriving DecidableEq,Inhabited
def tr:Rep uC:=.flat 3 (fun x=> [iV x.steps_,iV x.made_,iV x.calls_]) (fun _=>rfl) (fun _=>rfl)
structure uJ where
 Kind:Int
 Key:uB
 S:ByteArray
 deriving DecidableEq,Inhabited
def cW:Rep uJ:=.flat 5 (fun x=> [iV x.Kind,iV x.Key.Kind,iV x.Key.N,.string x.Key.S,.string x.S]) (fun _=>rfl) (fun _=>rfl)
structure uA where
 spent_:uC
 config_:hU
 host_:Unit
 heap_:uI
 shapes_:uH
 symbols_:(List ByteArray)
 epoch_:Int
 serial_:Int
 sleepers_:Int
 events_:(List uJ)
 out_:(List ByteArray)
 deriving DecidableEq,Inhabited
structure hX where
 Kind:Int
 N:Int
 Value:uK
 deriving DecidableEq,Inhabited
def tX:Rep hX:=.flat 5 (fun x=> [iV x.Kind,iV x.N,iV x.Value.Kind,iV x.Value.N,.string x.Value.S]) (fun _=>rfl) (fun _=>rfl)
abbrev bK (A:Option Addr)(n c:Nat):=dU aO 23 (.slice A n c)
abbrev cj (A:Option Addr)(n c:Nat):=cK aO (.slice A n c)
abbrev cm (A:Option Addr)(n c:Nat):=dU gl 42 (.slice A n c)
abbrev cI (A:Option Addr)(n c:Nat):=dU eG 9 (.slice A n c)
abbrev ex (A:Option Addr)(n c:Nat):=dU br 114 (.slice A n c)
abbrev fw (A:Option Addr)(n c:Nat):=cK gl (.slice A n c)
abbrev fr (A:Option Addr)(n c:Nat):=dU cW 84 (.slice A n c)
abbrev mv (x:hU):Value:=.agg #[iV x.Way,iV x.Steps,iV x.Calls,iV x.Made,iV x.Young,iV x.Full,iV x.Sites]
abbrev gr (x:hX):Value:=.agg #[iV x.Kind,iV x.N,iV x.Value.Kind,iV x.Value.N,.string x.Value.S]
abbrev nN (x:uJ):Value:=.agg #[iV x.Kind,iV x.Key.Kind,iV x.Key.N,.string x.Key.S,.string x.S]
abbrev mu (x:uB):Value:=.agg #[iV x.Kind,iV x.N,.string x.S]
abbrev lJ (x:uD):Value:=.agg #[iV x.Up,iV x.Key.Kind,iV x.Key.N,.string x.Key.S,iV x.Attrs,iV x.Len]
abbrev pl (x:uF):Value:=.agg #[iV x.up_,iV x.key_.Kind,iV x.key_.N,.string x.key_.S,iV x.attrs_]
abbrev cX (x:uK):Value:=.agg #[iV x.Kind,iV x.N,.string x.S]
abbrev mr (x:hU):List Value:=[iV x.Way,iV x.Steps,iV x.Calls,iV x.Made,iV x.Young,iV x.Full,iV x.Sites]
abbrev lj (x:hX):List Value:=[iV x.Kind,iV x.N,iV x.Value.Kind,iV x.Value.N,.string x.Value.S]
abbrev lH (x:uJ):List Value:=[iV x.Kind,iV x.Key.Kind,iV x.Key.N,.string x.Key.S,.string x.S]
abbrev i5 (x:uB):List Value:=[iV x.Kind,iV x.N,.string x.S]
abbrev cH (x:uD):List Value:=[iV x.Up,iV x.Key.Kind,iV x.Key.N,.string x.Key.S,iV x.Attrs,iV x.Len]
abbrev d7 (x:uK):List Value:=[iV x.Kind,iV x.N,.string x.S]
theorem oa:am Tryz.prog 7:=⟨Tryz.f7,Tryz.func7,rfl,rfl⟩
theorem pD:am Tryz.prog 8:=⟨Tryz.f8,Tryz.func8,rfl,rfl⟩
theorem tb:am Tryz.prog 9:=⟨Tryz.f9,Tryz.func9,rfl,rfl⟩
theorem sn:am Tryz.prog 10:=⟨Tryz.f10,Tryz.func10,rfl,rfl⟩
theorem nk:am Tryz.prog 11:=⟨Tryz.f11,Tryz.func11,rfl,rfl⟩
theorem sm:am Tryz.prog 12:=⟨Tryz.f12,Tryz.func12,rfl,rfl⟩
theorem sk:am Tryz.prog 13:=⟨Tryz.f13,Tryz.func13,rfl,rfl⟩
theorem lW:am Tryz.prog 14:=⟨Tryz.f14,Tryz.func14,rfl,rfl⟩
theorem pJ:am Tryz.prog 16:=⟨Tryz.f16,Tryz.func16,rfl,rfl⟩
theorem sj:am Tryz.prog 17:=⟨Tryz.f17,Tryz.func17,rfl,rfl⟩
theorem si:am Tryz.prog 25:=⟨Tryz.f25,Tryz.func25,rfl,rfl⟩
theorem sh:am Tryz.prog 28:=⟨Tryz.f28,Tryz.func28,rfl,rfl⟩
theorem sg:am Tryz.prog 33:=⟨Tryz.f33,Tryz.func33,rfl,rfl⟩
theorem sf:am Tryz.prog 34:=⟨Tryz.f34,Tryz.func34,rfl,rfl⟩
theorem se:am Tryz.prog 35:=⟨Tryz.f35,Tryz.func35,rfl,rfl⟩
theorem jE:am Tryz.prog 36:=⟨Tryz.f36,Tryz.func36,rfl,rfl⟩
theorem pI:am Tryz.prog 37:=⟨Tryz.f37,Tryz.func37,rfl,rfl⟩
theorem iP:am Tryz.prog 38:=⟨Tryz.f38,Tryz.func38,rfl,rfl⟩
theorem sd:am Tryz.prog 39:=⟨Tryz.f39,Tryz.func39,rfl,rfl⟩
theorem sc:am Tryz.prog 40:=⟨Tryz.f40,Tryz.func40,rfl,rfl⟩
theorem sb:am Tryz.prog 41:=⟨Tryz.f41,Tryz.func41,rfl,rfl⟩
theorem nj:am Tryz.prog 42:=⟨Tryz.f42,Tryz.func42,rfl,rfl⟩
theorem pH:am Tryz.prog 43:=⟨Tryz.f43,Tryz.func43,rfl,rfl⟩
theorem pG:am Tryz.prog 44:=⟨Tryz.f44,Tryz.func44,rfl,rfl⟩
theorem sa:am Tryz.prog 47:=⟨Tryz.f47,Tryz.func47,rfl,rfl⟩
theorem pF:am Tryz.prog 48:=⟨Tryz.f48,Tryz.func48,rfl,rfl⟩
theorem jD:am Tryz.prog 49:=⟨Tryz.f49,Tryz.func49,rfl,rfl⟩
theorem kT:am Tryz.prog 61:=⟨Tryz.f61,Tryz.func61,rfl,rfl⟩
theorem iO:am Tryz.prog 74:=⟨Tryz.f74,Tryz.func74,rfl,rfl⟩
theorem r9:am Tryz.prog 75:=⟨Tryz.f75,Tryz.func75,rfl,rfl⟩
theorem ni:am Tryz.prog 76:=⟨Tryz.f76,Tryz.func76,rfl,rfl⟩
theorem r8:am Tryz.prog 77:=⟨Tryz.f77,Tryz.func77,rfl,rfl⟩
theorem pE:am Tryz.prog 78:=⟨Tryz.f78,Tryz.func78,rfl,rfl⟩
theorem r7:am Tryz.prog 79:=⟨Tryz.f79,Tryz.func79,rfl,rfl⟩
theorem r6:am Tryz.prog 80:=⟨Tryz.f80,Tryz.func80,rfl,rfl⟩
theorem r5:am Tryz.prog 81:=⟨Tryz.f81,Tryz.func81,rfl,rfl⟩
theorem nh:am Tryz.prog 82:=⟨Tryz.f82,Tryz.func82,rfl,rfl⟩
theorem r4:am Tryz.prog 89:=⟨Tryz.f89,Tryz.func89,rfl,rfl⟩
theorem pC:am Tryz.prog 90:=⟨Tryz.f90,Tryz.func90,rfl,rfl⟩
theorem rf:am Tryz.prog 114:=⟨Tryz.f114,Tryz.func114,rfl,rfl⟩
theorem re:am Tryz.prog 115:=⟨Tryz.f115,Tryz.func115,rfl,rfl⟩
theorem rd:am Tryz.prog 116:=⟨Tryz.f116,Tryz.func116,rfl,rfl⟩
theorem rc:am Tryz.prog 117:=⟨Tryz.f117,Tryz.func117,rfl,rfl⟩
theorem rb:am Tryz.prog 118:=⟨Tryz.f118,Tryz.func118,rfl,rfl⟩
theorem ra:am Tryz.prog 119:=⟨Tryz.f119,Tryz.func119,rfl,rfl⟩
theorem qZ:am Tryz.prog 120:=⟨Tryz.f120,Tryz.func120,rfl,rfl⟩
theorem qY:am Tryz.prog 121:=⟨Tryz.f121,Tryz.func121,rfl,rfl⟩
theorem qX:am Tryz.prog 140:=⟨Tryz.f140,Tryz.func140,rfl,rfl⟩
theorem lV:am Tryz.prog 152:=⟨Tryz.f152,Tryz.func152,rfl,rfl⟩
theorem qW:am Tryz.prog 153:=⟨Tryz.f153,Tryz.func153,rfl,rfl⟩
theorem qV:am Tryz.prog 154:=⟨Tryz.f154,Tryz.func154,rfl,rfl⟩
theorem qU:am Tryz.prog 155:=⟨Tryz.f155,Tryz.func155,rfl,rfl⟩
theorem qT:am Tryz.prog 156:=⟨Tryz.f156,Tryz.func156,rfl,rfl⟩
theorem qS:am Tryz.prog 157:=⟨Tryz.f157,Tryz.func157,rfl,rfl⟩
theorem gV:am Tryz.prog 158:=⟨Tryz.f158,Tryz.func158,rfl,rfl⟩
theorem gU:am Tryz.prog 159:=⟨Tryz.f159,Tryz.func159,rfl,rfl⟩
theorem ob:am Tryz.prog 160:=⟨Tryz.f160,Tryz.func160,rfl,rfl⟩
theorem qR:am Tryz.prog 166:=⟨Tryz.f166,Tryz.func166,rfl,rfl⟩
theorem qQ:am Tryz.prog 187:=⟨Tryz.f187,Tryz.func187,rfl,rfl⟩
theorem qP:am Tryz.prog 188:=⟨Tryz.f188,Tryz.func188,rfl,rfl⟩
theorem qO:am Tryz.prog 206:=⟨Tryz.f206,Tryz.func206,rfl,rfl⟩
theorem gQ (b o:Nat)(w:World):(Instr.fieldAt 23 (pV b o) 0).run Tryz.prog w=.ok (pV b o) w:=by kernel_rfl
theorem nT (b o:Nat)(w:World):(Instr.fieldAt 23 (pV b o) 1).run Tryz.prog w=.ok (.pointer (some ⟨b,o+1,none⟩)) w:=by kernel_rfl
theorem qH (b o:Nat)(w:World):(Instr.fieldAt 23 (pV b o) 2).run Tryz.prog w=.ok (.pointer (some ⟨b,o+2,none⟩)) w:=by kernel_rfl
theorem qG (b o:Nat)(w:World):(Instr.fieldAt 29 (pV b o) 0).run Tryz.prog w=.ok (pV b o) w:=by kernel_rfl
theorem nS (b o:Nat)(w:World):(Instr.fieldAt 29 (pV b o) 1).run Tryz.prog w=.ok (.pointer (some ⟨b,o+1,none⟩)) w:=by kernel_rfl
theorem qF (b o:Nat)(w:World):(Instr.fieldAt 29 (pV b o) 2).run Tryz.prog w=.ok (.pointer (some ⟨b,o+2,none⟩)) w:=by kernel_rfl
theorem nR (b o:Nat)(w:World):(Instr.fieldAt 29 (pV b o) 3).run Tryz.prog w=.ok (.pointer (some ⟨b,o+3,none⟩)) w:=by kernel_rfl
theorem qE (b o:Nat)(w:World):(Instr.fieldAt 29 (pV b o) 4).run Tryz.prog w=.ok (.pointer (some ⟨b,o+4,none⟩)) w:=by kernel_rfl
theorem qD (b o:Nat)(w:World):(Instr.fieldAt 29 (pV b o) 5).run Tryz.prog w=.ok (.pointer (some ⟨b,o+5,none⟩)) w:=by kernel_rfl
theorem qC (b o:Nat)(w:World):(Instr.fieldAt 29 (pV b o) 6).run Tryz.prog w=.ok (.pointer (some ⟨b,o+6,none⟩)) w:=by kernel_rfl
theorem qB (b o:Nat)(w:World):(Instr.fieldAt 34 (pV b o) 0).run Tryz.prog w=.ok (pV b o) w:=by kernel_rfl
theorem qA (b o:Nat)(w:World):(Instr.fieldAt 34 (pV b o) 2).run Tryz.prog w=.ok (.pointer (some ⟨b,o+2,none⟩)) w:=by kernel_rfl
theorem qz (b o:Nat)(w:World):(Instr.fieldAt 42 (pV b o) 0).run Tryz.prog w=.ok (pV b o) w:=by kernel_rfl
theorem qy (b o:Nat)(w:World):(Instr.fieldAt 42 (pV b o) 1).run Tryz.prog w=.ok (.pointer (some ⟨b,o+1,none⟩)) w:=by kernel_rfl
theorem qx (b o:Nat)(w:World):(Instr.fieldAt 42 (pV b o) 2).run Tryz.prog w=.ok (.pointer (some ⟨b,o+2,none⟩)) w:=by kernel_rfl
theorem qw (b o:Nat)(w:World):(Instr.fieldAt 42 (pV b o) 3).run Tryz.prog w=.ok (.pointer (some ⟨b,o+3,none⟩)) w:=by kernel_rfl
theorem lR (b o:Nat)(w:World):(Instr.fieldAt 42 (pV b o) 4).run Tryz.prog w=.ok (.pointer (some ⟨b,o+4,none⟩)) w:=by kernel_rfl
theorem lQ (b o:Nat)(w:World):(Instr.fieldAt 42 (pV b o) 5).run Tryz.prog w=.ok (.pointer (some ⟨b,o+5,none⟩)) w:=by kernel_rfl
theorem nQ (b o:Nat)(w:World):(Instr.fieldAt 75 (pV b o) 0).run Tryz.prog w=.ok (pV b o) w:=by kernel_rfl
theorem nP (b o:Nat)(w:World):(Instr.fieldAt 75 (pV b o) 1).run Tryz.prog w=.ok (.pointer (some ⟨b,o+1,none⟩)) w:=by kernel_rfl
theorem lP (b o:Nat)(w:World):(Instr.fieldAt 79 (pV b o) 0).run Tryz.prog w=.ok (pV b o) w:=by kernel_rfl
theorem lO (b o:Nat)(w:World):(Instr.fieldAt 79 (pV b o) 1).run Tryz.prog w=.ok (.pointer (some ⟨b,o+3,none⟩)) w:=by kernel_rfl
theorem dx (b o:Nat)(w:World):(Instr.fieldAt 79 (pV b o) 3).run Tryz.prog w=.ok (.pointer (some ⟨b,o+11,none⟩)) w:=by kernel_rfl
theorem qv (b o:Nat)(w:World):(Instr.fieldAt 79 (pV b o) 4).run Tryz.prog w=.ok (.pointer (some ⟨b,o+12,none⟩)) w:=by kernel_rfl
theorem lN (b o:Nat)(w:World):(Instr.fieldAt 79 (pV b o) 9).run Tryz.prog w=.ok (.pointer (some ⟨b,o+17,none⟩)) w:=by kernel_rfl
theorem qu (b o:Nat)(w:World):(Instr.fieldAt 82 (pV b o) 0).run Tryz.prog w=.ok (pV b o) w:=by kernel_rfl
theorem qt (b o:Nat)(w:World):(Instr.fieldAt 82 (pV b o) 1).run Tryz.prog w=.ok (.pointer (some ⟨b,o+1,none⟩)) w:=by kernel_rfl
theorem qr (b o:Nat)(w:World):(Instr.fieldAt 82 (pV b o) 2).run Tryz.prog w=.ok (.pointer (some ⟨b,o+2,none⟩)) w:=by kernel_rfl
theorem nO (b o:Nat)(w:World):(Instr.fieldAt 84 (pV b o) 2).run Tryz.prog w=.ok (.pointer (some ⟨b,o+4,none⟩)) w:=by kernel_rfl
theorem lM (b o:Nat)(w:World):(Instr.fieldAt 96 (pV b o) 0).run Tryz.prog w=.ok (pV b o) w:=by kernel_rfl
theorem qq (b o:Nat)(w:World):(Instr.fieldAt 96 (pV b o) 1).run Tryz.prog w=.ok (.pointer (some ⟨b,o+1,none⟩)) w:=by kernel_rfl
theorem lL (b o:Nat)(w:World):(Instr.fieldAt 99 (pV b o) 0).run Tryz.prog w=.ok (pV b o) w:=by kernel_rfl
theorem ke (b o:Nat)(w:World):(Instr.fieldAt 99 (pV b o) 1).run Tryz.prog w=.ok (.pointer (some ⟨b,o+2,none⟩)) w:=by kernel_rfl
theorem qp (b o:Nat)(w:World):(Instr.fieldAt 99 (pV b o) 3).run Tryz.prog w=.ok (.pointer (some ⟨b,o+4,none⟩)) w:=by kernel_rfl
theorem mx (b o:Nat)(w:World):(Instr.fieldAt 114 (pV b o) 0).run Tryz.prog w=.ok (pV b o) w:=by kernel_rfl
theorem i7 (b o:Nat)(w:World):(Instr.fieldAt 114 (pV b o) 1).run Tryz.prog w=.ok (.pointer (some ⟨b,o+1,none⟩)) w:=by kernel_rfl
theorem gu (b o:Nat)(w:World):(Instr.fieldAt 114 (pV b o) 2).run Tryz.prog w=.ok (.pointer (some ⟨b,o+4,none⟩)) w:=by kernel_rfl
theorem kL (b o:Nat)(w:World):(Instr.fieldAt 114 (pV b o) 3).run Tryz.prog w=.ok (.pointer (some ⟨b,o+5,none⟩)) w:=by kernel_rfl
theorem fD (b o:Nat)(w:World):(Instr.fieldAt 118 (pV b o) 0).run Tryz.prog w=.ok (pV b o) w:=by kernel_rfl
theorem kK (b o:Nat)(w:World):(Instr.fieldAt 118 (pV b o) 1).run Tryz.prog w=.ok (.pointer (some ⟨b,o+1,none⟩)) w:=by kernel_rfl
theorem d4:dl Tryz.prog 3=true:=by kernel_rfl
theorem mW:dl Tryz.prog 4=true:=by kernel_rfl
theorem qm:dl Tryz.prog 9=true:=by kernel_rfl
theorem i1:dl Tryz.prog 24=true:=by kernel_rfl
theorem fB:dl Tryz.prog 30=true:=by kernel_rfl
theorem dW:dl Tryz.prog 46=true:=by kernel_rfl
theorem pf:dl Tryz.prog 58=true:=by kernel_rfl
theorem sO:dl Tryz.prog 72=true:=by kernel_rfl
theorem nK:dl Tryz.prog 94=true:=by kernel_rfl
theorem ru:dl Tryz.prog 97=true:=by kernel_rfl
theorem gm:dl Tryz.prog 115=true:=by kernel_rfl
theorem mX:dl Tryz.prog 116=true:=by kernel_rfl
theorem bx:gz Tryz.prog 23 3=true:=by kernel_rfl
theorem rB:gz Tryz.prog 29 7=true:=by kernel_rfl
theorem mK:gz Tryz.prog 34 5=true:=by kernel_rfl
theorem dX:gz Tryz.prog 42 6=true:=by kernel_rfl
theorem jl:gz Tryz.prog 82 3=true:=by kernel_rfl
theorem tg:gz Tryz.prog 84 5=true:=by kernel_rfl
theorem rA:gz Tryz.prog 96 2=true:=by kernel_rfl
theorem iQ:gz Tryz.prog 114 6=true:=by kernel_rfl
theorem nC:cf Tryz.prog 3 1=true:=by kernel_rfl
theorem kn:cf Tryz.prog 4 1=true:=by kernel_rfl
theorem rt:cf Tryz.prog 9 1=true:=by kernel_rfl
theorem aK:cf Tryz.prog 23 3=true:=by kernel_rfl
theorem mR:cf Tryz.prog 30 1=true:=by kernel_rfl
theorem jp:cf Tryz.prog 34 5=true:=by kernel_rfl
theorem er:cf Tryz.prog 42 6=true:=by kernel_rfl
theorem rK:cf Tryz.prog 58 1=true:=by kernel_rfl
theorem rJ:cf Tryz.prog 84 5=true:=by kernel_rfl
theorem rI:cf Tryz.prog 94 1=true:=by kernel_rfl
theorem cF:cf Tryz.prog 114 6=true:=by kernel_rfl
theorem qg:cf Tryz.prog 115 1=true:=by kernel_rfl
theorem qf:cf Tryz.prog 156 4=true:=by kernel_rfl
theorem qe:cf Tryz.prog 157 22=true:=by kernel_rfl
theorem sF (w:World):(zeroValue 3).run Tryz.prog w=.ok (iV 0) w:=by kernel_rfl
theorem rm (w:World):(zeroValue 4).run Tryz.prog w=.ok (.bool false) w:=by kernel_rfl
theorem dp (w:World):(zeroValue 23).run Tryz.prog w=.ok (.agg #[iV 0,iV 0,.string ⟨#[]⟩]) w:=by kernel_rfl
theorem lr (w:World):(zeroValue 34).run Tryz.prog w=.ok (.agg #[iV 0,iV 0,iV 0,iV 0,.string ⟨#[]⟩]) w:=by kernel_rfl
theorem jn (w:World):(zeroValue 42).run Tryz.prog w=.ok (.agg #[iV 0,iV 0,iV 0,iV 0,Y none 0 0,Y none 0 0]) w:=by kernel_rfl
theorem iR (w:World):(zeroValue 114).run Tryz.prog w=.ok (.agg #[iV 0,iV 0,iV 0,.string ⟨#[]⟩,iV 0,iV 0]) w:=by kernel_rfl
theorem qa (w:World):(zeroValue 156).run Tryz.prog w=.ok (.agg #[.string ⟨#[]⟩,.string ⟨#[]⟩,.string ⟨#[]⟩,.string ⟨#[]⟩]) w:=by kernel_rfl
theorem pZ (w:World):(zeroValue 157).run Tryz.prog w=.ok (.agg #[.string ⟨#[]⟩,.string ⟨#[]⟩,.string ⟨#[]⟩,.string ⟨#[]⟩,.string ⟨#[]⟩,.string ⟨#[]⟩,.string ⟨#[]⟩,.string ⟨#[]⟩,.string ⟨#[]⟩,.string ⟨#[]⟩,.string ⟨#[]⟩,.string ⟨#[]⟩,.string ⟨#[]⟩,.string ⟨#[]⟩,.string ⟨#[]⟩,.string ⟨#[]⟩,.string ⟨#[]⟩,.string ⟨#[]⟩,.string ⟨#[]⟩,.string ⟨#[]⟩,.string ⟨#[]⟩,.string ⟨#[]⟩]) w:=by kernel_rfl
theorem pm (x0_:Int)(x1_:Int)(x2_:Int)(x3_:Int)(x4_a:Option Addr)(x4_n x4_c:Nat)(x5_a:Option Addr)(x5_n x5_c:Nat)(w:World):(Instr.field 42 (.agg #[iV x0_,iV x1_,iV x2_,iV x3_,.slice x4_a x4_n x4_c,.slice x5_a x5_n x5_c]) 2).run Tryz.prog w=.ok (iV x2_) w:=by kernel_rfl
theorem gW  (w:World):(Instr.build 23 #[]).run Tryz.prog w=.ok (.agg #[iV 0,iV 0,.string ⟨#[]⟩]) w:=by kernel_rfl
theorem pO (x0_:Int)(w:World):(Instr.build 23 #[(0,iV x0_)]).run Tryz.prog w=.ok (.agg #[iV x0_,iV 0,.string ⟨#[]⟩]) w:=by kernel_rfl
theorem fP (x0_:Int)(x1_:Int)(w:World):(Instr.build 23 #[(0,iV x0_),(1,iV x1_)]).run Tryz.prog w=.ok (.agg #[iV x0_,iV x1_,.string ⟨#[]⟩]) w:=by kernel_rfl
theorem nq (x0_:Int)(x2_:ByteArray)(w:World):(Instr.build 23 #[(0,iV x0_),(2,.string x2_)]).run Tryz.prog w=.ok (.agg #[iV x0_,iV 0,.string x2_]) w:=by kernel_rfl
theorem lZ (x1_:Int)(x2_:Int)(x3_:Int)(w:World):(Instr.build 29 #[(1,iV x1_),(2,iV x2_),(3,iV x3_)]).run Tryz.prog w=.ok (.agg #[iV 0,iV x1_,iV x2_,iV x3_,iV 0,iV 0,iV 0]) w:=by kernel_rfl
theorem kV (x1_:Int)(x2_:Int)(x3_:Int)(x4_:Int)(w:World):(Instr.build 29 #[(1,iV x1_),(2,iV x2_),(3,iV x3_),(4,iV x4_)]).run Tryz.prog w=.ok (.agg #[iV 0,iV x1_,iV x2_,iV x3_,iV x4_,iV 0,iV 0]) w:=by kernel_rfl
theorem fO (x0_:Int)(x1_:Int)(w:World):(Instr.build 34 #[(0,iV x0_),(1,iV x1_)]).run Tryz.prog w=.ok (.agg #[iV x0_,iV x1_,iV 0,iV 0,.string ⟨#[]⟩]) w:=by kernel_rfl
theorem np (x0_:Int)(x2_0_:Int)(x2_1_:Int)(x2_2_:ByteArray)(w:World):(Instr.build 34 #[(0,iV x0_),(2,.agg #[iV x2_0_,iV x2_1_,.string x2_2_])]).run Tryz.prog w=.ok (.agg #[iV x0_,iV 0,iV x2_0_,iV x2_1_,.string x2_2_]) w:=by kernel_rfl
theorem od  (w:World):(Instr.build 42 #[]).run Tryz.prog w=.ok (.agg #[iV 0,iV 0,iV 0,iV 0,Y none 0 0,Y none 0 0]) w:=by kernel_rfl
theorem mH (x0_:Int)(w:World):(Instr.build 42 #[(0,iV x0_)]).run Tryz.prog w=.ok (.agg #[iV x0_,iV 0,iV 0,iV 0,Y none 0 0,Y none 0 0]) w:=by kernel_rfl
theorem dT (x0_:Int)(x1_:Int)(x2_:Int)(x4_a:Option Addr)(x4_n x4_c:Nat)(w:World):(Instr.build 42 #[(0,iV x0_),(1,iV x1_),(2,iV x2_),(4,.slice x4_a x4_n x4_c)]).run Tryz.prog w=.ok (.agg #[iV x0_,iV x1_,iV x2_,iV 0,.slice x4_a x4_n x4_c,Y none 0 0]) w:=by kernel_rfl
theorem lY (x0_:Int)(x2_:Int)(x4_a:Option Addr)(x4_n x4_c:Nat)(w:World):(Instr.build 42 #[(0,iV x0_),(2,iV x2_),(4,.slice x4_a x4_n x4_c)]).run Tryz.prog w=.ok (.agg #[iV x0_,iV 0,iV x2_,iV 0,.slice x4_a x4_n x4_c,Y none 0 0]) w:=by kernel_rfl
theorem lX (x1_0_:Int)(x1_1_:Int)(x1_2_:Int)(x1_3_:Int)(x1_4_:Int)(x1_5_:Int)(x1_6_:Int)(x3_:Option Addr)(x4_:Option Addr)(w:World):(Instr.build 79 #[(1,.agg #[iV x1_0_,iV x1_1_,iV x1_2_,iV x1_3_,iV x1_4_,iV x1_5_,iV x1_6_]),(3,.pointer x3_),(4,.pointer x4_)]).run Tryz.prog w=.ok (.agg #[iV 0,iV 0,iV 0,iV x1_0_,iV x1_1_,iV x1_2_,iV x1_3_,iV x1_4_,iV x1_5_,iV x1_6_,.nilIface,.pointer x3_,.pointer x4_,Y none 0 0,iV 0,iV 0,iV 0,Y none 0 0,Y none 0 0]) w:=by kernel_rfl
theorem nm (x0_:Int)(x2_:ByteArray)(w:World):(Instr.build 82 #[(0,iV x0_),(2,.string x2_)]).run Tryz.prog w=.ok (.agg #[iV x0_,iV 0,.string x2_]) w:=by kernel_rfl
theorem nl (x0_:Int)(x2_:ByteArray)(w:World):(Instr.build 84 #[(0,iV x0_),(2,.string x2_)]).run Tryz.prog w=.ok (.agg #[iV x0_,iV 0,iV 0,.string ⟨#[]⟩,.string x2_]) w:=by kernel_rfl
theorem pN (x3_:Option Addr)(w:World):(Instr.build 99 #[(3,.pointer x3_)]).run Tryz.prog w=.ok (.agg #[Y none 0 0,Y none 0 0,Y none 0 0,Y none 0 0,.pointer x3_]) w:=by kernel_rfl
theorem pP  (w:World):(Instr.build 114 #[]).run Tryz.prog w=.ok (.agg #[iV 0,iV 0,iV 0,.string ⟨#[]⟩,iV 0,iV 0]) w:=by kernel_rfl
theorem oO (x0_:Int)(w:World):(Instr.build 114 #[(0,iV x0_)]).run Tryz.prog w=.ok (.agg #[iV x0_,iV 0,iV 0,.string ⟨#[]⟩,iV 0,iV 0]) w:=by kernel_rfl
theorem jY (x0_:Int)(x1_0_:Int)(x1_1_:Int)(x1_2_:ByteArray)(x2_:Int)(x3_:Int)(w:World):(Instr.build 114 #[(0,iV x0_),(1,.agg #[iV x1_0_,iV x1_1_,.string x1_2_]),(2,iV x2_),(3,iV x3_)]).run Tryz.prog w=.ok (.agg #[iV x0_,iV x1_0_,iV x1_1_,.string x1_2_,iV x2_,iV x3_]) w:=by kernel_rfl
theorem mJ (x1_0_:Int)(x1_1_:Int)(x1_2_:ByteArray)(x2_:Int)(w:World):(Instr.build 114 #[(1,.agg #[iV x1_0_,iV x1_1_,.string x1_2_]),(2,iV x2_)]).run Tryz.prog w=.ok (.agg #[iV 0,iV x1_0_,iV x1_1_,.string x1_2_,iV x2_,iV 0]) w:=by kernel_rfl
theorem mI (x0_a:Option Addr)(x0_n x0_c:Nat)(x1_:Option Nat)(w:World):(Instr.build 118 #[(0,.slice x0_a x0_n x0_c),(1,.map x1_)]).run Tryz.prog w=.ok (.agg #[.slice x0_a x0_n x0_c,.map x1_]) w:=by kernel_rfl
theorem oN (x0_:Option Nat)(w:World):(Instr.build 147 #[(0,.map x0_)]).run Tryz.prog w=.ok (.agg #[.map x0_]) w:=by kernel_rfl
theorem jX (x0_:ByteArray)(x1_:ByteArray)(x2_:ByteArray)(x3_:ByteArray)(w:World):(Instr.build 156 #[(0,.string x0_),(1,.string x1_),(2,.string x2_),(3,.string x3_)]).run Tryz.prog w=.ok (.agg #[.string x0_,.string x1_,.string x2_,.string x3_]) w:=by kernel_rfl
theorem bz (x0_:ByteArray)(x1_:ByteArray)(x2_:ByteArray)(x3_:ByteArray)(x4_:ByteArray)(x5_:ByteArray)(x6_:ByteArray)(x7_:ByteArray)(x8_:ByteArray)(x9_:ByteArray)(x10_:ByteArray)(x11_:ByteArray)(x12_:ByteArray)(x13_:ByteArray)(x14_:ByteArray)(x15_:ByteArray)(x16_:ByteArray)(x17_:ByteArray)(x18_:ByteArray)(x19_:ByteArray)(x20_:ByteArray)(x21_:ByteArray)(w:World):(Instr.build 157 #[(0,.string x0_),(1,.string x1_),(2,.string x2_),(3,.string x3_),(4,.string x4_),(5,.string x5_),(6,.string x6_),(7,.string x7_),(8,.string x8_),(9,.string x9_),(10,.string x10_),(11,.string x11_),(12,.string x12_),(13,.string x13_),(14,.string x14_),(15,.string x15_),(16,.string x16_),(17,.string x17_),(18,.string x18_),(19,.string x19_),(20,.string x20_),(21,.string x21_)]).run Tryz.prog w=.ok (.agg #[.string x0_,.string x1_,.string x2_,.string x3_,.string x4_,.string x5_,.string x6_,.string x7_,.string x8_,.string x9_,.string x10_,.string x11_,.string x12_,.string x13_,.string x14_,.string x15_,.string x16_,.string x17_,.string x18_,.string x19_,.string x20_,.string x21_]) w:=by kernel_rfl
theorem iz (x0_:Int)(x1_0_:Int)(x1_1_:Int)(x1_2_:ByteArray)(x2_:Int)(w:World):(Instr.build 202 #[(0,iV x0_),(1,.agg #[iV x1_0_,iV x1_1_,.string x1_2_]),(2,iV x2_)]).run Tryz.prog w=.ok (.agg #[iV x0_,iV x1_0_,iV x1_1_,.string x1_2_,iV x2_]) w:=by kernel_rfl
theorem pM  (w:World):(Instr.buildSlice 30 0 #[]).run Tryz.prog w=.ok (.slice (some ⟨w.heap.size,0,none⟩) 0 0) (w.alloc (.cells #[] 23)):=by kernel_rfl
theorem kU (x0_0_:Int)(x0_1_:Int)(x0_2_:ByteArray)(w:World):(Instr.buildSlice 30 1 #[(0,.agg #[iV x0_0_,iV x0_1_,.string x0_2_])]).run Tryz.prog w=.ok (.slice (some ⟨w.heap.size,0,none⟩) 1 1) (w.alloc (.cells #[iV x0_0_,iV x0_1_,.string x0_2_] 23)):=by kernel_rfl
theorem jj (x0_0_:Int)(x0_1_:Int)(x0_2_:ByteArray)(x1_0_:Int)(x1_1_:Int)(x1_2_:ByteArray)(w:World):(Instr.buildSlice 30 2 #[(0,.agg #[iV x0_0_,iV x0_1_,.string x0_2_]),(1,.agg #[iV x1_0_,iV x1_1_,.string x1_2_])]).run Tryz.prog w=.ok (.slice (some ⟨w.heap.size,0,none⟩) 2 2) (w.alloc (.cells #[iV x0_0_,iV x0_1_,.string x0_2_,iV x1_0_,iV x1_1_,.string x1_2_] 23)):=by kernel_rfl
theorem pL (x0_0_:Int)(x0_1_0_:Int)(x0_1_1_:Int)(x0_1_2_:ByteArray)(x0_2_:ByteArray)(w:World):(Instr.buildSlice 58 1 #[(0,.agg #[iV x0_0_,iV x0_1_0_,iV x0_1_1_,.string x0_1_2_,.string x0_2_])]).run Tryz.prog w=.ok (.slice (some ⟨w.heap.size,0,none⟩) 1 1) (w.alloc (.cells #[iV x0_0_,iV x0_1_0_,iV x0_1_1_,.string x0_1_2_,.string x0_2_] 84)):=by kernel_rfl
theorem pK (x0_0_:Int)(x0_1_:Int)(x0_2_:Int)(x0_3_:Int)(x0_4_a:Option Addr)(x0_4_n x0_4_c:Nat)(x0_5_a:Option Addr)(x0_5_n x0_5_c:Nat)(w:World):(Instr.buildSlice 94 1 #[(0,.agg #[iV x0_0_,iV x0_1_,iV x0_2_,iV x0_3_,.slice x0_4_a x0_4_n x0_4_c,.slice x0_5_a x0_5_n x0_5_c])]).run Tryz.prog w=.ok (.slice (some ⟨w.heap.size,0,none⟩) 1 1) (w.alloc (.cells #[iV x0_0_,iV x0_1_,iV x0_2_,iV x0_3_,.slice x0_4_a x0_4_n x0_4_c,.slice x0_5_a x0_5_n x0_5_c] 42)):=by kernel_rfl
theorem jF (x0_0_:Int)(x0_1_0_:Int)(x0_1_1_:Int)(x0_1_2_:ByteArray)(x0_2_:Int)(x0_3_:Int)(w:World):(Instr.buildSlice 115 1 #[(0,.agg #[iV x0_0_,iV x0_1_0_,iV x0_1_1_,.string x0_1_2_,iV x0_2_,iV x0_3_])]).run Tryz.prog w=.ok (.slice (some ⟨w.heap.size,0,none⟩) 1 1) (w.alloc (.cells #[iV x0_0_,iV x0_1_0_,iV x0_1_1_,.string x0_1_2_,iV x0_2_,iV x0_3_] 114)):=by kernel_rfl
theorem rH:kj Tryz.prog 23 3 32=true:=by kernel_rfl
theorem tu:kj Tryz.prog 42 6 80=true:=by kernel_rfl
theorem sG:kj Tryz.prog 84 5 56=true:=by kernel_rfl
theorem sH:kj Tryz.prog 114 6 56=true:=by kernel_rfl
instance:Fc (dl Tryz.prog 3=true):=⟨d4⟩
instance:Fc (dl Tryz.prog 4=true):=⟨mW⟩
instance:Fc (dl Tryz.prog 9=true):=⟨qm⟩
instance:Fc (dl Tryz.prog 24=true):=⟨i1⟩
instance:Fc (dl Tryz.prog 30=true):=⟨fB⟩
instance:Fc (dl Tryz.prog 46=true):=⟨dW⟩
instance:Fc (dl Tryz.prog 58=true):=⟨pf⟩
instance:Fc (dl Tryz.prog 72=true):=⟨sO⟩
instance:Fc (dl Tryz.prog 94=true):=⟨nK⟩
instance:Fc (dl Tryz.prog 97=true):=⟨ru⟩
instance:Fc (dl Tryz.prog 115=true):=⟨gm⟩
instance:Fc (dl Tryz.prog 116=true):=⟨mX⟩
instance:FcA0 Tryz.prog 23 0:=⟨gQ⟩
instance:FcA Tryz.prog 23 1 1:=⟨nT⟩
instance:FcA Tryz.prog 23 2 2:=⟨qH⟩
instance:FcA0 Tryz.prog 29 0:=⟨qG⟩
instance:FcA Tryz.prog 29 1 1:=⟨nS⟩
instance:FcA Tryz.prog 29 2 2:=⟨qF⟩
instance:FcA Tryz.prog 29 3 3:=⟨nR⟩
instance:FcA Tryz.prog 29 4 4:=⟨qE⟩
instance:FcA Tryz.prog 29 5 5:=⟨qD⟩
instance:FcA Tryz.prog 29 6 6:=⟨qC⟩
instance:FcA0 Tryz.prog 34 0:=⟨qB⟩
instance:FcA Tryz.prog 34 2 2:=⟨qA⟩
instance:FcA0 Tryz.prog 42 0:=⟨qz⟩
instance:FcA Tryz.prog 42 1 1:=⟨qy⟩
instance:FcA Tryz.prog 42 2 2:=⟨qx⟩
instance:FcA Tryz.prog 42 3 3:=⟨qw⟩
instance:FcA Tryz.prog 42 4 4:=⟨lR⟩
instance:FcA Tryz.prog 42 5 5:=⟨lQ⟩
instance:FcA0 Tryz.prog 75 0:=⟨nQ⟩
instance:FcA Tryz.prog 75 1 1:=⟨nP⟩
instance:FcA0 Tryz.prog 79 0:=⟨lP⟩
instance:FcA Tryz.prog 79 1 3:=⟨lO⟩
instance:FcA Tryz.prog 79 3 11:=⟨dx⟩
instance:FcA Tryz.prog 79 4 12:=⟨qv⟩
instance:FcA Tryz.prog 79 9 17:=⟨lN⟩
instance:FcA0 Tryz.prog 82 0:=⟨qu⟩
instance:FcA Tryz.prog 82 1 1:=⟨qt⟩
instance:FcA Tryz.prog 82 2 2:=⟨qr⟩
instance:FcA Tryz.prog 84 2 4:=⟨nO⟩
instance:FcA0 Tryz.prog 96 0:=⟨lM⟩
instance:FcA Tryz.prog 96 1 1:=⟨qq⟩
instance:FcA0 Tryz.prog 99 0:=⟨lL⟩
instance:FcA Tryz.prog 99 1 2:=⟨ke⟩
instance:FcA Tryz.prog 99 3 4:=⟨qp⟩
instance:FcA0 Tryz.prog 114 0:=⟨mx⟩
instance:FcA Tryz.prog 114 1 1:=⟨i7⟩
instance:FcA Tryz.prog 114 2 4:=⟨gu⟩
instance:FcA Tryz.prog 114 3 5:=⟨kL⟩
instance:FcA0 Tryz.prog 118 0:=⟨fD⟩
instance:FcA Tryz.prog 118 1 1:=⟨kK⟩
theorem oJ:Tryz.prog.eqGuardType Tryz.prog.depth 23=false:=by kernel_rfl
theorem qM (x y:uK)(w:World):(Op.equalIn 10000 23 (.agg #[iV x.Kind,iV x.N,.string x.S]) (.agg #[iV y.Kind,iV y.N,.string y.S])).run Tryz.prog w=.ok (decide (x=y)) w:=by
 obtain ⟨xKind,xN,xS⟩:=x;obtain ⟨yKind,yN,yS⟩:=y;show (Op.equalIn 10000 23 (.agg #[iV xKind,iV xN,.string xS]) (.agg #[iV yKind,iV yN,.string yS])).run Tryz.prog w=_
 go_simp
 simp only [ji];by_cases h0:xKind=yKind<;>by_cases h1:xN=yN<;>by_cases h2:xS=yS<;>simp [h0,h1,h2]
theorem lm {s:aQ}{C:World→Prop}{d:Option Nat}{ty u:TypeId}{pos:String}{af:Array Edge}{gd:Option (Nat×Bool)}{a b:Operand}{x y:uK}(hx:aY s a=some (.agg #[iV x.Kind,iV x.N,.string x.S]))(hy:aY s b=some (.agg #[iV y.Kind,iV y.N,.string y.S])):Ev Tryz.prog s C ⟨d,.binOp .neq 23 a b u,ty,pos,af,gd⟩ (.bool (!decide (x=y))):=
 ck hx hy fun w=>by
  rw [Sem.run_bind,run_eqGuard_agg w _ _ _ _ _ _ oJ];simp only [Result.andThen_ok];rw [run_neq_struct,qM];rfl
theorem oI:Tryz.prog.eqGuardType Tryz.prog.depth 34=false:=by kernel_rfl
theorem qL (x y:hX)(w:World):(Op.equalIn 10000 34 ((gr x)) ((gr y))).run Tryz.prog w=.ok (decide (x=y)) w:=by
 obtain ⟨xKind,xN,⟨xValueKind,xValueN,xValueS⟩⟩:=x;obtain ⟨yKind,yN,⟨yValueKind,yValueN,yValueS⟩⟩:=y;show (Op.equalIn 10000 34 (.agg #[iV xKind,iV xN,iV xValueKind,iV xValueN,.string xValueS]) (.agg #[iV yKind,iV yN,iV yValueKind,iV yValueN,.string yValueS])).run Tryz.prog w=_
 go_simp
 simp only [ji];by_cases h0:xKind=yKind
 rotate_left
 ·simp [h0]
 by_cases h1:xN=yN
 rotate_left
 ·simp [h0,h1]
 by_cases h2:xValueKind=yValueKind
 rotate_left
 ·simp [h0,h1,h2]
 by_cases h3:xValueN=yValueN
 rotate_left
 ·simp [h0,h1,h2,h3]
 by_cases h4:xValueS=yValueS
 rotate_left
 ·simp [h0,h1,h2,h3,h4]
 simp [h0,h1,h2,h3,h4]
theorem mA {s:aQ}{C:World→Prop}{d:Option Nat}{ty u:TypeId}{pos:String}{af:Array Edge}{gd:Option (Nat×Bool)}{a b:Operand}{x y:hX}(hx:aY s a=some ((gr x)))(hy:aY s b=some ((gr y))):Ev Tryz.prog s C ⟨d,.binOp .eql 34 a b u,ty,pos,af,gd⟩ (.bool (decide (x=y))):=
 ck hx hy fun w=>by
  rw [Sem.run_bind,run_eqGuard_agg w _ _ _ _ _ _ oI];simp only [Result.andThen_ok];rw [run_eql_struct,qL];rfl
theorem oH:Tryz.prog.eqGuardType Tryz.prog.depth 82=false:=by kernel_rfl
theorem qK (x y:uB)(w:World):(Op.equalIn 10000 82 (.agg #[iV x.Kind,iV x.N,.string x.S]) (.agg #[iV y.Kind,iV y.N,.string y.S])).run Tryz.prog w=.ok (decide (x=y)) w:=by
 obtain ⟨xKind,xN,xS⟩:=x;obtain ⟨yKind,yN,yS⟩:=y;show (Op.equalIn 10000 82 (.agg #[iV xKind,iV xN,.string xS]) (.agg #[iV yKind,iV yN,.string yS])).run Tryz.prog w=_
 go_simp
 simp only [ji];by_cases h0:xKind=yKind<;>by_cases h1:xN=yN<;>by_cases h2:xS=yS<;>simp [h0,h1,h2]
theorem pp {s:aQ}{C:World→Prop}{d:Option Nat}{ty u:TypeId}{pos:String}{af:Array Edge}{gd:Option (Nat×Bool)}{a b:Operand}{x y:uB}(hx:aY s a=some (.agg #[iV x.Kind,iV x.N,.string x.S]))(hy:aY s b=some (.agg #[iV y.Kind,iV y.N,.string y.S])):Ev Tryz.prog s C ⟨d,.binOp .eql 82 a b u,ty,pos,af,gd⟩ (.bool (decide (x=y))):=
 ck hx hy fun w=>by
  rw [Sem.run_bind,run_eqGuard_agg w _ _ _ _ _ _ oH];simp only [Result.andThen_ok];rw [run_eql_struct,qK];rfl
theorem pw (x y:uF)(w:World):(Op.equalIn 10000 202 ((pl x)) ((pl y))).run Tryz.prog w=.ok (decide (x=y)) w:=by
 obtain ⟨xup_,⟨xkey_Kind,xkey_N,xkey_S⟩,xattrs_⟩:=x;obtain ⟨yup_,⟨ykey_Kind,ykey_N,ykey_S⟩,yattrs_⟩:=y;show (Op.equalIn 10000 202 (.agg #[iV xup_,iV xkey_Kind,iV xkey_N,.string xkey_S,iV xattrs_]) (.agg #[iV yup_,iV ykey_Kind,iV ykey_N,.string ykey_S,iV yattrs_])).run Tryz.prog w=_
 go_simp
 simp only [ji];by_cases h0:xup_=yup_
 rotate_left
 ·simp [h0]
 by_cases h1:xkey_Kind=ykey_Kind
 rotate_left
 ·simp [h0,h1]
 by_cases h2:xkey_N=ykey_N
 rotate_left
 ·simp [h0,h1,h2]
 by_cases h3:xkey_S=ykey_S
 rotate_left
 ·simp [h0,h1,h2,h3]
 by_cases h4:xattrs_=yattrs_
 rotate_left
 ·simp [h0,h1,h2,h3,h4]
 simp [h0,h1,h2,h3,h4]
def aA (x:uF):Value:=.agg #[iV x.up_,iV x.key_.Kind,iV x.key_.N,.string x.key_.S,iV x.attrs_]
theorem kG:KeyOk Tryz.prog 202 aA where
 und:=⟨_,Tryz.underlying202,fun a b=> .inl rfl⟩
 eq:=fun a b w=>pw a b w
 check:=fun e a w=>by
  obtain ⟨xup_,⟨xkey_Kind,xkey_N,xkey_S⟩,xattrs_⟩:=a;kernel_rfl
 bits:=fun a=>by
  obtain ⟨xup_,⟨xkey_Kind,xkey_N,xkey_S⟩,xattrs_⟩:=a;simp [aA,Instr.sameBits,nr]
def bu (N:Nat)(a0:Int)(a1:Int)(a2:Int):Option Bool:=
 (bif decide (a1≤a0) then (some (decide (a0≤a2))) else (some false)).bind fun b1=>some b1
theorem bB {N:Nat}{a0:Int}{a1:Int}{a2:Int}{r:Bool}(h:bu N a0 a1 a2=some r):Okc Tryz.prog 74 [iV a0,iV a1,iV a2] ([]) (fun u post=>u=.bool r∧post=[]):=by
 refine bv Tryz.func74 J J ?_;simp only [aN];refine I ?_;obtain ⟨b1,hb1,h⟩:=aa h;refine aw 4 14 b1 ?_ ?_
 ·clear h;refine av 10 J (fun g1=> ?_) (fun g1=> ?_)
  ·have h:=ad g1 hb1;refine I ?_;obtain rfl:=ah h;exact ac sA (cS [] 0)
  have h:=ae g1 hb1;refine I ?_;obtain rfl:=ah h;exact ac sA (cS [] 0)
 refine I ?_;obtain rfl:=ah h;exact aI J J (cS [] 0) ⟨J,J⟩
theorem bh {r:Bool}: ∀v post,((fun (u:Value) (post:List Chunk)=>u=.bool r∧post=[])) v post→ ∀c∈post,bZ c:=by
 rintro _ _ ⟨rfl,rfl⟩;exact ag
def il (N:Nat)(a0:hU):Option Bool:=
 (bu N a0.Way 0 1).bind fun y2=>(bif y2 then ((bu N a0.Steps 0 1073741824).bind fun y4=>some y4) else (some false)).bind fun b3=>(bif b3 then ((bu N a0.Calls 1 200).bind fun y6=>some y6) else (some false)).bind fun b5=>(bif b5 then ((bu N a0.Made 0 1048576).bind fun y8=>some y8) else (some false)).bind fun b7=>(bif b7 then ((bu N a0.Young 0 1073741824).bind fun y10=>some y10) else (some false)).bind fun b9=>(bif b9 then ((bu N a0.Full 0 1073741824).bind fun y12=>some y12) else (some false)).bind fun b11=>(bif b11 then ((bu N a0.Sites 0 4).bind fun y14=>some y14) else (some false)).bind fun b13=>some b13
set_option maxHeartbeats 4000000 in
theorem kq {N:Nat}{a0:hU}{r:Bool}(h:il N a0=some r):Okc Tryz.prog 33 [(mv a0)] ([]) (fun u post=>u=.bool r∧post=[]):=by
 refine bv Tryz.func33 J J ?_;simp only [aN];refine I ?_;refine gD (bi J J) ?_;rintro _ _ ⟨B1,rfl,rfl⟩;refine I ?_;obtain ⟨y2,hy2,h⟩:=aa h;refine gD (dk (bB hy2) iO J J J (ag) bh) ?_;rintro _ _ ⟨_,⟨rfl,rfl⟩,rfl⟩;refine I ?_;obtain ⟨b3,hb3,h⟩:=aa h;refine aw 5 13 b3 ?_ ?_
 ·clear h;refine av 8 J (fun g3=> ?_) (fun g3=> ?_)
  ·have h:=ad g3 hb3;refine I ?_;obtain ⟨y4,hy4,h⟩:=aa h;refine ce (dk (bB hy4) iO J J J (ag) bh) J (aZ g3 J) J ?_;rintro _ _ ⟨_,⟨rfl,rfl⟩,rfl⟩;refine I ?_;obtain rfl:=ah h;exact ac sA (cS [0] 1)
  have h:=ae g3 hb3;refine I ?_;obtain rfl:=ah h;exact ac sA (cS [0] 1)
 refine I ?_;obtain ⟨b5,hb5,h⟩:=aa h;refine aw 5 19 b5 ?_ ?_
 ·clear h;refine av 14 J (fun g5=> ?_) (fun g5=> ?_)
  ·have h:=ad g5 hb5;refine I ?_;obtain ⟨y6,hy6,h⟩:=aa h;refine ce (dk (bB hy6) iO J J J (ag) bh) J (aZ g5 J) J ?_;rintro _ _ ⟨_,⟨rfl,rfl⟩,rfl⟩;refine I ?_;obtain rfl:=ah h;exact ac sA (cS [0] 1)
  have h:=ae g5 hb5;refine I ?_;obtain rfl:=ah h;exact ac sA (cS [0] 1)
 refine I ?_;obtain ⟨b7,hb7,h⟩:=aa h;refine aw 5 25 b7 ?_ ?_
 ·clear h;refine av 20 J (fun g7=> ?_) (fun g7=> ?_)
  ·have h:=ad g7 hb7;refine I ?_;obtain ⟨y8,hy8,h⟩:=aa h;refine ce (dk (bB hy8) iO J J J (ag) bh) J (aZ g7 J) J ?_;rintro _ _ ⟨_,⟨rfl,rfl⟩,rfl⟩;refine I ?_;obtain rfl:=ah h;exact ac sA (cS [0] 1)
  have h:=ae g7 hb7;refine I ?_;obtain rfl:=ah h;exact ac sA (cS [0] 1)
 refine I ?_;obtain ⟨b9,hb9,h⟩:=aa h;refine aw 5 31 b9 ?_ ?_
 ·clear h;refine av 26 J (fun g9=> ?_) (fun g9=> ?_)
  ·have h:=ad g9 hb9;refine I ?_;obtain ⟨y10,hy10,h⟩:=aa h;refine ce (dk (bB hy10) iO J J J (ag) bh) J (aZ g9 J) J ?_;rintro _ _ ⟨_,⟨rfl,rfl⟩,rfl⟩;refine I ?_;obtain rfl:=ah h;exact ac sA (cS [0] 1)
  have h:=ae g9 hb9;refine I ?_;obtain rfl:=ah h;exact ac sA (cS [0] 1)
 refine I ?_;obtain ⟨b11,hb11,h⟩:=aa h;refine aw 5 37 b11 ?_ ?_
 ·clear h;refine av 32 J (fun g11=> ?_) (fun g11=> ?_)
  ·have h:=ad g11 hb11;refine I ?_;obtain ⟨y12,hy12,h⟩:=aa h;refine ce (dk (bB hy12) iO J J J (ag) bh) J (aZ g11 J) J ?_;rintro _ _ ⟨_,⟨rfl,rfl⟩,rfl⟩;refine I ?_;obtain rfl:=ah h;exact ac sA (cS [0] 1)
  have h:=ae g11 hb11;refine I ?_;obtain rfl:=ah h;exact ac sA (cS [0] 1)
 refine I ?_;obtain ⟨b13,hb13,h⟩:=aa h;refine aw 5 43 b13 ?_ ?_
 ·clear h;refine av 38 J (fun g13=> ?_) (fun g13=> ?_)
  ·have h:=ad g13 hb13;refine I ?_;obtain ⟨y14,hy14,h⟩:=aa h;refine ce (dk (bB hy14) iO J J J (ag) bh) J (aZ g13 J) J ?_;rintro _ _ ⟨_,⟨rfl,rfl⟩,rfl⟩;refine I ?_;obtain rfl:=ah h;exact ac sA (cS [0] 1)
  have h:=ae g13 hb13;refine I ?_;obtain rfl:=ah h;exact ac sA (cS [0] 1)
 refine I ?_;obtain rfl:=ah h;exact aI J J (cS [] 1) ⟨J,J⟩
theorem js {r:Bool}: ∀v post,((fun (u:Value) (post:List Chunk)=>u=.bool r∧post=[])) v post→ ∀c∈post,bZ c:=by
 rintro _ _ ⟨rfl,rfl⟩;exact ag
def iY (N:Nat):Option uL:=
 some (⟨([]:(List (Int×Bool)))⟩:uL)
theorem kY {N:Nat}{r:uL}(h:iY N=some r):Okc Tryz.prog 75 [] ([]) (fun u post=> ∃B0 M1,u=pV B0 0∧post=[ak B0 147 [.map (some M1)],aL dz dy M1 r.at_]):=by
 refine bv Tryz.func75 J J ?_;simp only [aN];refine I ?_;refine gD (kA (ek:=dz) (ev:=dy)) ?_;rintro _ _ ⟨M1,rfl,rfl⟩;refine gE (aE J (oN _)) ?_;refine gD (bi J J) ?_;rintro _ _ ⟨B2,rfl,rfl⟩;refine I ?_;obtain rfl:=ah h;exact aI J J (cS [0,1] 2) ⟨_,_,J,J⟩
def kH (N:Nat):Option uI:=
 (iY N).bind fun y1=>some (⟨(⟨[],[]⟩:uE),[],[],y1⟩:uI)
theorem mt {N:Nat}{r:uI}(h:kH N=some r):Okc Tryz.prog 34 [] ([]) (fun u post=> ∃B0 A1 n1 c1 A2 n2 c2 A3 n3 c3 A4 n4 c4 B5 M6,u=pV B0 0∧post=[ak B0 99 [Y A1 n1 c1,Y A2 n2 c2,Y A3 n3 c3,Y A4 n4 c4,pV B5 0],cm A1 n1 c1 r.m_.Young,cm A2 n2 c2 r.m_.Old,bK A3 n3 c3 r.roots_,bK A4 n4 c4 r.pending_,ak B5 147 [.map (some M6)],aL dz dy M6 r.set_.at_]):=by
 refine bv Tryz.func34 J J ?_;simp only [aN];refine I ?_;obtain ⟨y1,hy1,h⟩:=aa h;refine gD (aT (kY hy1) r9 J (aP [] [] [] 0 J)) ?_;rintro _ _ ⟨_,⟨B2,M3,rfl,rfl⟩,rfl⟩;refine gE (aE J (pN _)) ?_;refine gD (bi J J) ?_;rintro _ _ ⟨B4,rfl,rfl⟩;refine I ?_;obtain rfl:=ah h;exact aI J J ((dJ gl 42 _).trans ((dJ gl 42 _).trans ((dJ aO 23 _).trans ((dJ aO 23 _).trans (cS [4,3,2,1,0,5,6] 7))))) ⟨_,_,_,_,_,_,_,_,_,_,_,_,_,_,_,J,J⟩
def jI (N:Nat):Option uH:=
 some (⟨([(⟨(-1),(⟨0,0,⟨#[]⟩⟩:uB),0,0⟩:uD)]:List uD),([]:(List (uF×Int)))⟩:uH)
theorem lx {N:Nat}{r:uH}(h:jI N=some r):Okc Tryz.prog 35 [] ([]) (fun u post=> ∃B0 A1 n1 c1 M2,u=pV B0 0∧post=[ak B0 118 [Y A1 n1 c1,.map (some M2)],ex A1 n1 c1 r.shapes_,aL aA du M2 r.next_]):=by
 refine bv Tryz.func35 J J ?_;simp only [aN];refine I ?_;refine gE (aE J (oO _)) ?_;refine gD (bW (R:=br) (vss:=[[iV (-1),iV 0,iV 0,.string (⟨#[]⟩),iV 0,iV 0]]) (xs:=[(⟨(-1),(⟨0,0,⟨#[]⟩⟩:uB),0,0⟩:uD)]) J (jF _ _ _ _ _ _) J J (fun _ _ hr=> .cons J All2.nil)) ?_;rintro _ _ ⟨A1,n1,c1,rfl,rfl⟩;refine gD (kA (ek:=aA) (ev:=du)) ?_;rintro _ _ ⟨M2,rfl,rfl⟩;refine gE (aE J (mI _ _ _ _)) ?_;refine gD (bi J J) ?_;rintro _ _ ⟨B3,rfl,rfl⟩;refine I ?_;obtain rfl:=ah h;exact aI J J (cS [0,2,1] 3) ⟨_,_,_,_,_,J,J⟩
def aW (N:Nat)(a0:uI):Option Bool:=
 some false
theorem bF {N:Nat}{a0:uI}{r:Bool}(h:aW N a0=some r):Okc Tryz.prog 49 [pV B1 0] ([aG B1 99 [Y A2 n2 c2,Y A3 n3 c3,Y A4 n4 c4,Y A5 n5 c5,pV B6 0],fw A2 n2 c2 a0.m_.Young,fw A3 n3 c3 a0.m_.Old,cj A4 n4 c4 a0.roots_,cj A5 n5 c5 a0.pending_,aG B6 147 [.map (some M7)],dg dz dy M7 a0.set_.at_]) (fun u post=>u=.bool r∧post=[]):=by
 refine bv Tryz.func49 J J ?_;simp only [aN];refine I ?_;refine gE (bo J Tryz.underlying46) ?_;refine I ?_;refine gR (ba 0 J J ru J) ?_;refine gE (bo J Tryz.underlying97) ?_;refine I ?_;obtain rfl:=ah h;exact aI J J (cS [] 7) ⟨J,J⟩
theorem bn {r:Bool}: ∀v post,((fun (u:Value) (post:List Chunk)=>u=.bool r∧post=[])) v post→ ∀c∈post,bZ c:=by
 rintro _ _ ⟨rfl,rfl⟩;exact ag
def bN (N:Nat)(a0:uI)(a1:Int):Option uK:=
 (aW N a0).bind fun y9=>(bif y9 then (some true) else (some (decide (a1<0)))).bind fun b10=>(bif b10 then (some true) else (some (decide ((a0.roots_.length:Int)≤a1)))).bind fun b11=>bif b11 then (some (⟨0,0,⟨#[]⟩⟩:uK)) else ((cc a0.roots_ a1).bind fun x13=>some x13)
theorem bD {N:Nat}{a0:uI}{a1:Int}{r:uK}(h:bN N a0 a1=some r):Okc Tryz.prog 38 [pV B1 0,iV a1] ([aG B1 99 [Y A2 n2 c2,Y A3 n3 c3,Y A4 n4 c4,Y A5 n5 c5,pV B6 0],fw A2 n2 c2 a0.m_.Young,fw A3 n3 c3 a0.m_.Old,cj A4 n4 c4 a0.roots_,cj A5 n5 c5 a0.pending_,aG B6 147 [.map (some M7)],dg dz dy M7 a0.set_.at_]) (fun u post=>u=(cX r)∧post=[]):=by
 refine bv Tryz.func38 J J ?_;simp only [aN];refine I ?_;refine gD (aJ dp J) ?_;rintro _ _ ⟨B8,rfl,rfl⟩;refine I ?_;refine ay ?_;refine I ?_;obtain ⟨y9,hy9,h⟩:=aa h;refine gD (al (bF hy9) jD J (hD (aj (i:=1) J J) (hD (aj (i:=2) J J) (hD (aj (i:=3) J J) (hD (aj (i:=4) J J) (hD (aj (i:=5) J J) (hD (aj (i:=6) J J) (hD (aj (i:=7) J J) ag))))))) bn) ?_;rintro _ _ ⟨_,⟨rfl,rfl⟩,rfl⟩;refine I ?_;obtain ⟨b10,hb10,h⟩:=aa h;refine aw 3 10 b10 ?_ ?_
 ·clear h;refine av 7 J (fun g10=> ?_) (fun g10=> ?_)
  ·have h:=ad g10 hb10;refine I ?_;obtain rfl:=ah h;exact ac sA (cS [0,1,2,3,4,5,6,7] 8)
  have h:=ae g10 hb10;refine I ?_;obtain rfl:=ah h;exact ac sA (cS [0,1,2,3,4,5,6,7] 8)
 refine I ?_;obtain ⟨b11,hb11,h⟩:=aa h;refine aw 8 19 b11 ?_ ?_
 ·clear h;refine av 11 J (fun g11=> ?_) (fun g11=> ?_)
  ·have h:=ad g11 hb11;refine I ?_;obtain rfl:=ah h;exact ac sA (cS [0,1,2,3,4,5,6,7] 8)
  have h:=ae g11 hb11;refine I ?_;refine bG (ba 1 J J fB J) J (fs g11 J) J ?_;refine bG (bf 4 J ar J hE) J (fs g11 J) J ?_;refine I ?_;obtain rfl:=ah h;exact ac sA (cS [0,1,2,3,4,5,6,7] 8)
 refine I ?_;refine ap J (fun g12=> ?_) (fun g12=> ?_)
 ·replace h:=ad g12 h;refine I ?_;refine gE (aE J (gW)) ?_;refine gO (aq (us:=[iV 0,iV 0,.string (⟨#[]⟩)]) (cs':=[iV 0,iV 0,.string (⟨#[]⟩)]) 0 J J J J aK J J J) ?_;rintro _ _ rfl;refine I ?_;obtain rfl:=ah h;exact co (rs:=[.cell 4 23]) (vs:=[.agg #[iV 0,iV 0,.string (⟨#[]⟩)]]) J (.cons (bA 0 J J bx) .nil) J (cS [] 8) ⟨J,J⟩
 replace h:=ae g12 h;refine I ?_;refine gR (ba 1 J J fB J) ?_;refine I ?_;obtain ⟨x13,hx13,h⟩:=aa h;obtain ⟨lx13,ux13,hx13⟩:=aD hx13;refine gR (bp 4 J ar J J hE aK lx13 ux13) ?_;refine gR (bq (us:=[iV x13.Kind,iV x13.N,.string x13.S]) 4 J ar J hx13 bx (fun _ _ _ h=>by rw [show _=_ from h];rfl)) ?_;refine gO (aq (us:=[iV x13.Kind,iV x13.N,.string x13.S]) (cs':=[iV x13.Kind,iV x13.N,.string x13.S]) 0 J J J J aK J J J) ?_;rintro _ _ rfl;refine I ?_;obtain rfl:=ah h;exact co (rs:=[.cell 4 23]) (vs:=[.agg #[iV x13.Kind,iV x13.N,.string x13.S]]) J (.cons (bA 0 J J bx) .nil) J (cS [] 8) ⟨J,J⟩
theorem bj {r:uK}: ∀v post,((fun (u:Value) (post:List Chunk)=>u=(cX r)∧post=[])) v post→ ∀c∈post,bZ c:=by
 rintro _ _ ⟨rfl,rfl⟩;exact ag
def ey (N:Nat){σ:Type}(fy:(Bool×uK)→σ→Option (Bool×σ))(a1:uG):Nat→Int→σ→Option σ
 |0,_,_=>none
 |m15+1,p16,p17=>bif decide (p16<(a1.More.length:Int)) then ((cc a1.More p16).bind fun x19=>(bif !decide (a1.Kind=8) then ((bif !decide (a1.Kind=10) then (some true) else (some (decide (p16.tmod 2=0)))).bind fun b22=>some b22) else (some false)).bind fun b21=>(fy (b21,x19) p17).bind fun y23=>bif !y23.1 then (some y23.2) else (ea (cM (p16+1)) ((ey N fy a1 m15) (p16+1) y23.2))) else (some p17)
def gy (N:Nat){σ:Type}(fy:(Bool×uK)→σ→Option (Bool×σ))(a1:uG)(p5:σ):Option σ:=
 ey N fy a1 N 0 p5
def eX (N:Nat){σ:Type}(fy:(Bool×uK)→σ→Option (Bool×σ))(a1:uG):Nat→Int→σ→Option σ
 |0,_,_=>none
 |m6+1,p7,p8=>bif decide (p7<(a1.Slots.length:Int)) then ((cc a1.Slots p7).bind fun x10=>(fy (true,x10) p8).bind fun y12=>bif !y12.1 then (some y12.2) else (ea (cM (p7+1)) ((eX N fy a1 m6) (p7+1) y12.2))) else (gy N fy a1 p8)
def iy (N:Nat){σ:Type}(a1:uG)(fy:(Bool×uK)→σ→Option (Bool×σ))(s0:σ):Option σ:=
 eX N fy a1 N 0 s0
set_option maxHeartbeats 4000000 in
theorem kR {N:Nat}{σ:Type}{a1:uG}{fy:(Bool×uK)→σ→Option (Bool×σ)}{s0:σ}{r:σ}(h:iy N a1 fy s0=some r){l:Nat}{G:σ→List Chunk}(hY:gX Tryz.prog l G (fun x=> [.bool x.1,.agg #[iV x.2.Kind,iV x.2.N,.string x.2.S]]) fy):Okc Tryz.prog 156 [.func (.yield l) #[] #[],pV B1 0] (aG B1 42 [iV a1.Kind,iV a1.Shape,iV a1.Flags,iV a1.Age,Y A2 n2 c2,Y A3 n3 c3]::cj A2 n2 c2 a1.Slots::cj A3 n3 c3 a1.More::(G s0)) (fun u post=>u=.tuple #[]∧post=G r):=by
 refine bv Tryz.func156 J J ?_;simp only [aN];refine bm (fun s L=> ∃p5,gy N fy a1 p5=some r∧s=[(0,.func (.yield l) #[] #[]),(1,pV B1 0)]∧L=cj A2 n2 c2 a1.Slots::cj A3 n3 c3 a1.More::aG B1 42 [iV a1.Kind,iV a1.Shape,iV a1.Flags,iV a1.Age,Y A2 n2 c2,Y A3 n3 c3]::(G p5)) ?_ ?_
 ·refine I ?_;refine gR (ba 0 J J fB J) ?_;refine gR (bf 1 J ar J hE) ?_;refine I ?_;refine d8 (fun m s L=> ∃p7 p8,eX N fy a1 m p7 p8=some r∧s=[(0,.func (.yield l) #[] #[]),(1,pV B1 0),(9,Y A2 n2 c2),(10,iV (a1.Slots.length:Int)),(11,iV p7)]∧L=cj A2 n2 c2 a1.Slots::cj A3 n3 c3 a1.More::aG B1 42 [iV a1.Kind,iV a1.Shape,iV a1.Flags,iV a1.Age,Y A2 n2 c2,Y A3 n3 c3]::(G p8)) N _ _ ⟨0,s0,h,J,J⟩ sA (cS [1,2,0] 3) ?_;rintro (_|m6) _ _ ⟨p7,p8,h,rfl,rfl⟩
  ·exact bM h
  rw [eX.eq_2] at h;refine I ?_;refine ay ?_;refine ap J (fun g9=> ?_) (fun g9=> ?_)
  ·replace h:=ad g9 h;refine I ?_;refine ay ?_;refine I ?_;obtain ⟨x10,hx10,h⟩:=aa h;obtain ⟨lx10,ux10,hx10⟩:=aD hx10;refine gR (bp 0 J ar J J hE aK lx10 ux10) ?_;refine gR (bq (us:=[iV x10.Kind,iV x10.N,.string x10.S]) 0 J ar J hx10 bx (fun _ _ _ h=>by rw [show _=_ from h];rfl)) ?_;refine gD (aJ dp J) ?_;rintro _ _ ⟨B11,rfl,rfl⟩;refine gO (aq (us:=[iV x10.Kind,iV x10.N,.string x10.S]) (cs':=[iV x10.Kind,iV x10.N,.string x10.S]) 0 J J J J aK J J J) ?_;rintro _ _ rfl;refine I ?_;refine gR (aS (us:=[iV x10.Kind,iV x10.N,.string x10.S]) 0 J J bx J) ?_;obtain ⟨y12,hy12,h⟩:=aa h;refine gD (li (a:=(true,x10)) [ak B11 23 [iV x10.Kind,iV x10.N,.string x10.S],cj A2 n2 c2 a1.Slots,cj A3 n3 c3 a1.More,aG B1 42 [iV a1.Kind,iV a1.Shape,iV a1.Flags,iV a1.Age,Y A2 n2 c2,Y A3 n3 c3]] hY hy12 J J) ?_;rintro _ _ ⟨rfl,rfl⟩;refine I ?_;refine ap J (fun g13=> ?_) (fun g13=> ?_)
   ·replace h:=ad g13 h;refine I ?_;obtain rfl:=ah h;exact px J (cS [] 4) ⟨J,J⟩
   replace h:=ae g13 h;refine I ?_;obtain ⟨q14,h⟩:=aC h;refine gE (dI J J q14.1 q14.2) ?_;refine I ?_;exact ⟨m6,_,_,uQ _,⟨p7+1,y12.2,h,J,J⟩,sA,cS [1,2,3] 4⟩
  replace h:=ae g9 h;refine I ?_;exact ⟨_,_,⟨p8,h,J,J⟩,sA,cS [0,1,2] 3⟩
 rintro _ _ ⟨p5,h,rfl,rfl⟩;refine I ?_;refine gR (ba 2 J J fB J) ?_;refine gR (bf 1 J ar J hE) ?_;refine I ?_;refine d8 (fun m s L=> ∃p16 p17,ey N fy a1 m p16 p17=some r∧s=[(0,.func (.yield l) #[] #[]),(1,pV B1 0),(21,Y A3 n3 c3),(22,iV (a1.More.length:Int)),(23,iV p16)]∧L=cj A3 n3 c3 a1.More::cj A2 n2 c2 a1.Slots::aG B1 42 [iV a1.Kind,iV a1.Shape,iV a1.Flags,iV a1.Age,Y A2 n2 c2,Y A3 n3 c3]::(G p17)) N _ _ ⟨0,p5,h,J,J⟩ sA (cS [1,0,2] 3) ?_;rintro (_|m15) _ _ ⟨p16,p17,h,rfl,rfl⟩
 ·exact bM h
 rw [ey.eq_2] at h;refine I ?_;refine ay ?_;refine ap J (fun g18=> ?_) (fun g18=> ?_)
 ·replace h:=ad g18 h;refine I ?_;refine ay ?_;refine I ?_;obtain ⟨x19,hx19,h⟩:=aa h;obtain ⟨lx19,ux19,hx19⟩:=aD hx19;refine gR (bp 0 J ar J J hE aK lx19 ux19) ?_;refine gR (bq (us:=[iV x19.Kind,iV x19.N,.string x19.S]) 0 J ar J hx19 bx (fun _ _ _ h=>by rw [show _=_ from h];rfl)) ?_;refine gD (aJ dp J) ?_;rintro _ _ ⟨B20,rfl,rfl⟩;refine I ?_;refine gO (aq (us:=[iV x19.Kind,iV x19.N,.string x19.S]) (cs':=[iV x19.Kind,iV x19.N,.string x19.S]) 0 J J J J aK J J J) ?_;rintro _ _ rfl;refine eg ?_;refine I ?_;refine gR (ba 3 J J d4 J) ?_;refine I ?_;obtain ⟨b21,hb21,h⟩:=aa h;refine aw 9 40 b21 ?_ ?_
  ·clear h;refine av 31 J (fun g21=> ?_) (fun g21=> ?_)
   ·have h:=ad g21 hb21;refine I ?_;refine bG (ba 3 J J d4 J) J (aZ g21 J) J ?_;refine I ?_;obtain ⟨b22,hb22,h⟩:=aa h;refine aw 4 39 b22 ?_ ?_
    ·clear h;refine av 35 J (fun g22=> ?_) (fun g22=> ?_)
     ·have h:=ad g22 hb22;refine I ?_;obtain rfl:=ah h;exact ac sA (cS [0,1,2,3] 4)
     have h:=ae g22 hb22;refine I ?_;refine fv (kM J J (by decide)) J (fs g22 J) J ?_;refine I ?_;obtain rfl:=ah h;exact ac sA (cS [0,1,2,3] 4)
    refine I ?_;obtain rfl:=ah h;exact ac sA (cS [0,1,2,3] 4)
   have h:=ae g21 hb21;refine I ?_;obtain rfl:=ah h;exact ac sA (cS [0,1,2,3] 4)
  refine I ?_;refine gR (aS (us:=[iV x19.Kind,iV x19.N,.string x19.S]) 0 J J bx J) ?_;obtain ⟨y23,hy23,h⟩:=aa h;refine gD (li (a:=(b21,x19)) [ak B20 23 [iV x19.Kind,iV x19.N,.string x19.S],cj A3 n3 c3 a1.More,cj A2 n2 c2 a1.Slots,aG B1 42 [iV a1.Kind,iV a1.Shape,iV a1.Flags,iV a1.Age,Y A2 n2 c2,Y A3 n3 c3]] hY hy23 J J) ?_;rintro _ _ ⟨rfl,rfl⟩;refine I ?_;refine ap J (fun g24=> ?_) (fun g24=> ?_)
  ·replace h:=ad g24 h;refine I ?_;obtain rfl:=ah h;exact px J (cS [] 4) ⟨J,J⟩
  replace h:=ae g24 h;refine I ?_;obtain ⟨q25,h⟩:=aC h;refine gE (dI J J q25.1 q25.2) ?_;refine I ?_;exact ⟨m15,_,_,uQ _,⟨p16+1,y23.2,h,J,J⟩,sA,cS [1,2,3] 4⟩
 replace h:=ae g18 h;refine I ?_;obtain rfl:=ah h;exact kO J (cS [] 3) ⟨J,J⟩
def kS (N:Nat)(a0:uG):Option Unit:=
 some ()
theorem mG {N:Nat}{a0:uG}{r:Unit}(h:kS N a0=some r):Okc Tryz.prog 118 [.agg #[iV a0.Kind,iV a0.Shape,iV a0.Flags,iV a0.Age,Y A1 n1 c1,Y A2 n2 c2]] ([cj A1 n1 c1 a0.Slots,cj A2 n2 c2 a0.More]) (fun u post=> ∃B900,u=.func (.func 156) #[] #[pV B900 0]∧post=[ak B900 42 [iV a0.Kind,iV a0.Shape,iV a0.Flags,iV a0.Age,Y A1 n1 c1,Y A2 n2 c2]]):=by
 refine bv Tryz.func118 J J ?_;simp only [aN];refine I ?_;refine gD (bi J J) ?_;rintro _ _ ⟨B3,rfl,rfl⟩;refine I ?_;refine gE (gv J) ?_;refine I ?_;obtain rfl:=ah h;exact aI J J (cS [0] 3) ⟨_,J,J⟩
theorem lc {a0:uG}{A1:Option Addr}{n1:Nat}{c1:Nat}{A2:Option Addr}{n2:Nat}{c2:Nat}: ∀v post,((fun (u:Value) (post:List Chunk)=> ∃B900,u=.func (.func 156) #[] #[pV B900 0]∧post=[ak B900 42 [iV a0.Kind,iV a0.Shape,iV a0.Flags,iV a0.Age,Y A1 n1 c1,Y A2 n2 c2]])) v post→ ∀c∈post,bZ c:=by
 rintro _ _ ⟨_,rfl,rfl⟩;exact hD kJ (ag)
def fk (N:Nat)(a0:uK)(p10:Bool):Option Bool:=
 bif p10 then (some (decide (1≤a0.N))) else ((bif decide (a0.N=0) then (some (decide (0≤a0.Kind))) else (some false)).bind fun b14=>(bif b14 then (some (decide (a0.Kind≤9))) else (some false)).bind fun b15=>some b15)
def kP (N:Nat)(a0:uK):Option Bool:=
 bif decide (a0.Kind=5) then ((bif decide (a0.N=0) then (some (decide ((a0.S.size:Int)≤65536))) else (some false)).bind fun b3=>some b3) else (bif !(a0.S.toList==(⟨#[]⟩:ByteArray).toList) then (some false) else (bif decide (a0.Kind=2) then ((bif decide (a0.N=0) then (some true) else (some (decide (a0.N=1)))).bind fun b6=>some b6) else (bif decide (a0.Kind=3) then ((bif decide ((-9007199254740992)≤a0.N) then (some (decide (a0.N≤9007199254740992))) else (some false)).bind fun b8=>some b8) else (bif decide (a0.Kind=6) then (fk N a0 (decide (a0.Kind=6))) else (bif decide (a0.Kind=7) then (fk N a0 (decide (a0.Kind=7))) else (fk N a0 (decide (a0.Kind=9))))))))
set_option maxHeartbeats 4000000 in
theorem mE {N:Nat}{a0:uK}{r:Bool}(h:kP N a0=some r):Okc Tryz.prog 119 [(cX a0)] ([]) (fun u post=>u=.bool r∧post=[]):=by
 refine bv Tryz.func119 J J ?_;simp only [aN];refine I ?_;refine gD (bi J J) ?_;rintro _ _ ⟨B1,rfl,rfl⟩;refine I ?_;refine ay ?_;refine I ?_;refine ap J (fun g2=> ?_) (fun g2=> ?_)
 ·replace h:=ad g2 h;refine I ?_;obtain ⟨b3,hb3,h⟩:=aa h;refine aw 5 14 b3 ?_ ?_
  ·clear h;refine av 9 J (fun g3=> ?_) (fun g3=> ?_)
   ·have h:=ad g3 hb3;refine I ?_;refine fv (jd J hG) J (aZ g3 J) J ?_;refine I ?_;obtain rfl:=ah h;exact ac sA (cS [0] 1)
   have h:=ae g3 hb3;refine I ?_;obtain rfl:=ah h;exact ac sA (cS [0] 1)
  refine I ?_;obtain rfl:=ah h;exact aI J J (cS [] 1) ⟨J,J⟩
 replace h:=ae g2 h;refine I ?_;refine ay ?_;refine I ?_;refine gE (pn J J) ?_;refine I ?_;refine ap J (fun g4=> ?_) (fun g4=> ?_)
 ·replace h:=ad g4 h;refine I ?_;obtain rfl:=ah h;exact aI J J (cS [] 1) ⟨J,J⟩
 replace h:=ae g4 h;refine I ?_;refine ay ?_;refine I ?_;refine ap J (fun g5=> ?_) (fun g5=> ?_)
 ·replace h:=ad g5 h;refine I ?_;obtain ⟨b6,hb6,h⟩:=aa h;refine aw 4 29 b6 ?_ ?_
  ·clear h;refine av 25 J (fun g6=> ?_) (fun g6=> ?_)
   ·have h:=ad g6 hb6;refine I ?_;obtain rfl:=ah h;exact ac sA (cS [0] 1)
   have h:=ae g6 hb6;refine I ?_;obtain rfl:=ah h;exact ac sA (cS [0] 1)
  refine I ?_;obtain rfl:=ah h;exact aI J J (cS [] 1) ⟨J,J⟩
 replace h:=ae g5 h;refine I ?_;refine ap J (fun g7=> ?_) (fun g7=> ?_)
 ·replace h:=ad g7 h;refine I ?_;obtain ⟨b8,hb8,h⟩:=aa h;refine aw 4 39 b8 ?_ ?_
  ·clear h;refine av 35 J (fun g8=> ?_) (fun g8=> ?_)
   ·have h:=ad g8 hb8;refine I ?_;obtain rfl:=ah h;exact ac sA (cS [0] 1)
   have h:=ae g8 hb8;refine I ?_;obtain rfl:=ah h;exact ac sA (cS [0] 1)
  refine I ?_;obtain rfl:=ah h;exact aI J J (cS [] 1) ⟨J,J⟩
 replace h:=ae g7 h;refine bm (fun s L=> ∃p10,fk N a0 p10=some r∧s=[(1,pV B1 0),(2,.bool false),(40,.bool p10)]∧L=[ak B1 23 (d7 a0)]) ?_ ?_
 ·refine I ?_;refine ap J (fun g11=> ?_) (fun g11=> ?_)
  ·replace h:=ad g11 h;refine I ?_;exact ⟨_,_,⟨decide (a0.Kind=6),h,J,J⟩,sA,cS [0] 1⟩
  replace h:=ae g11 h;refine I ?_;refine ap J (fun g12=> ?_) (fun g12=> ?_)
  ·replace h:=ad g12 h;refine I ?_;exact ⟨_,_,⟨decide (a0.Kind=7),h,J,J⟩,sA,cS [0] 1⟩
  replace h:=ae g12 h;refine I ?_;exact ⟨_,_,⟨decide (a0.Kind=9),h,J,J⟩,sA,cS [0] 1⟩
 rintro _ _ ⟨p10,h,rfl,rfl⟩;refine ap J (fun g13=> ?_) (fun g13=> ?_)
 ·replace h:=ad g13 h;refine I ?_;obtain rfl:=ah h;exact aI J J (cS [] 1) ⟨J,J⟩
 replace h:=ae g13 h;refine I ?_;obtain ⟨b14,hb14,h⟩:=aa h;refine aw 4 54 b14 ?_ ?_
 ·clear h;refine av 50 J (fun g14=> ?_) (fun g14=> ?_)
  ·have h:=ad g14 hb14;refine I ?_;obtain rfl:=ah h;exact ac sA (cS [0] 1)
  have h:=ae g14 hb14;refine I ?_;obtain rfl:=ah h;exact ac sA (cS [0] 1)
 refine I ?_;obtain ⟨b15,hb15,h⟩:=aa h;refine aw 4 59 b15 ?_ ?_
 ·clear h;refine av 55 J (fun g15=> ?_) (fun g15=> ?_)
  ·have h:=ad g15 hb15;refine I ?_;obtain rfl:=ah h;exact ac sA (cS [0] 1)
  have h:=ae g15 hb15;refine I ?_;obtain rfl:=ah h;exact ac sA (cS [0] 1)
 refine I ?_;obtain rfl:=ah h;exact aI J J (cS [] 1) ⟨J,J⟩
theorem la {r:Bool}: ∀v post,((fun (u:Value) (post:List Chunk)=>u=.bool r∧post=[])) v post→ ∀c∈post,bZ c:=by
 rintro _ _ ⟨rfl,rfl⟩;exact ag
def cB (N:Nat)(p2:Bool):Option Bool:=
 bif p2 then (some true) else (some false)
def kQ (N:Nat)(a0:Int):Option Bool:=
 bif decide (a0=1) then (cB N (decide (a0=1))) else (bif decide (a0=2) then (cB N (decide (a0=2))) else (bif decide (a0=3) then (cB N (decide (a0=3))) else (bif decide (a0=6) then (cB N (decide (a0=6))) else (bif decide (a0=8) then (cB N (decide (a0=8))) else (bif decide (a0=9) then (cB N (decide (a0=9))) else (cB N (decide (a0=10))))))))
theorem mF {N:Nat}{a0:Int}{r:Bool}(h:kQ N a0=some r):Okc Tryz.prog 157 [iV a0] ([]) (fun u post=>u=.bool r∧post=[]):=by
 refine bv Tryz.func157 J J ?_;simp only [aN];refine I ?_;refine ay ?_;refine I ?_;refine bm (fun s L=> ∃p2,cB N p2=some r∧s=[(2,.bool false),(4,.bool p2)]∧L=[]) ?_ ?_
 ·refine I ?_;refine ap J (fun g3=> ?_) (fun g3=> ?_)
  ·replace h:=ad g3 h;refine I ?_;exact ⟨_,_,⟨decide (a0=1),h,J,J⟩,sA,cS [] 0⟩
  replace h:=ae g3 h;refine I ?_;refine ap J (fun g4=> ?_) (fun g4=> ?_)
  ·replace h:=ad g4 h;refine I ?_;exact ⟨_,_,⟨decide (a0=2),h,J,J⟩,sA,cS [] 0⟩
  replace h:=ae g4 h;refine I ?_;refine ap J (fun g5=> ?_) (fun g5=> ?_)
  ·replace h:=ad g5 h;refine I ?_;exact ⟨_,_,⟨decide (a0=3),h,J,J⟩,sA,cS [] 0⟩
  replace h:=ae g5 h;refine I ?_;refine ap J (fun g6=> ?_) (fun g6=> ?_)
  ·replace h:=ad g6 h;refine I ?_;exact ⟨_,_,⟨decide (a0=6),h,J,J⟩,sA,cS [] 0⟩
  replace h:=ae g6 h;refine I ?_;refine ap J (fun g7=> ?_) (fun g7=> ?_)
  ·replace h:=ad g7 h;refine I ?_;exact ⟨_,_,⟨decide (a0=8),h,J,J⟩,sA,cS [] 0⟩
  replace h:=ae g7 h;refine I ?_;refine ap J (fun g8=> ?_) (fun g8=> ?_)
  ·replace h:=ad g8 h;refine I ?_;exact ⟨_,_,⟨decide (a0=9),h,J,J⟩,sA,cS [] 0⟩
  replace h:=ae g8 h;refine I ?_;exact ⟨_,_,⟨decide (a0=10),h,J,J⟩,sA,cS [] 0⟩
 rintro _ _ ⟨p2,h,rfl,rfl⟩;refine ap J (fun g9=> ?_) (fun g9=> ?_)
 ·replace h:=ad g9 h;refine I ?_;obtain rfl:=ah h;exact aI J J (cS [] 0) ⟨J,J⟩
 replace h:=ae g9 h;refine I ?_;obtain rfl:=ah h;exact aI J J (cS [] 0) ⟨J,J⟩
theorem lb {r:Bool}: ∀v post,((fun (u:Value) (post:List Chunk)=>u=.bool r∧post=[])) v post→ ∀c∈post,bZ c:=by
 rintro _ _ ⟨rfl,rfl⟩;exact ag
def cr (N:Nat)(a0:uK)(a1:Int):Option Bool:=
 (bif decide (a0.Kind=0) then (some true) else (some (decide (a0.Kind=a1)))).bind fun b2=>some b2
theorem cw {N:Nat}{a0:uK}{a1:Int}{r:Bool}(h:cr N a0 a1=some r):Okc Tryz.prog 158 [(cX a0),iV a1] ([]) (fun u post=>u=.bool r∧post=[]):=by
 refine bv Tryz.func158 J J ?_;simp only [aN];refine I ?_;refine gD (bi J J) ?_;rintro _ _ ⟨B1,rfl,rfl⟩;refine I ?_;obtain ⟨b2,hb2,h⟩:=aa h;refine aw 5 13 b2 ?_ ?_
 ·clear h;refine av 8 J (fun g2=> ?_) (fun g2=> ?_)
  ·have h:=ad g2 hb2;refine I ?_;obtain rfl:=ah h;exact ac sA (cS [0] 1)
  have h:=ae g2 hb2;refine I ?_;obtain rfl:=ah h;exact ac sA (cS [0] 1)
 refine I ?_;obtain rfl:=ah h;exact aI J J (cS [] 1) ⟨J,J⟩
theorem bX {r:Bool}: ∀v post,((fun (u:Value) (post:List Chunk)=>u=.bool r∧post=[])) v post→ ∀c∈post,bZ c:=by
 rintro _ _ ⟨rfl,rfl⟩;exact ag
def fj (N:Nat)(a0:uG):Option Bool:=
 (kQ N a0.Kind).bind fun y4=>(bif y4 then (some true) else ((bif decide (a0.Kind=7) then (some (decide (0<(a0.Slots.length:Int)))) else (some false)).bind fun b6=>some b6)).bind fun b5=>bif b5 then ((bif decide (1≤(a0.Slots.length:Int)) then (some (decide ((a0.Slots.length:Int)≤1025))) else (some false)).bind fun b8=>(bif b8 then ((cc a0.Slots 0).bind fun x10=>(bif decide (x10.Kind=1) then (some true) else ((cc a0.Slots 0).bind fun x12=>some (decide (x12.Kind=7)))).bind fun b11=>some b11) else (some false)).bind fun b9=>some b9) else (bif decide (a0.Kind=7) then (some (decide (a0.Shape=0))) else ((bif !decide (a0.Shape=0) then (some true) else (some (!decide (a0.Flags=0)))).bind fun b14=>bif b14 then (some false) else (bif decide (a0.Kind=5) then ((bif decide ((a0.Slots.length:Int)=2) then ((cc a0.Slots 0).bind fun x18=>(cr N x18 7).bind fun y19=>some y19) else (some false)).bind fun b17=>(bif b17 then ((cc a0.Slots 1).bind fun x21=>(cr N x21 7).bind fun y22=>some y22) else (some false)).bind fun b20=>some b20) else (some (decide ((a0.Slots.length:Int)=0))))))
set_option maxHeartbeats 4000000 in
theorem iN {N:Nat}{a0:uG}{r:Bool}(h:fj N a0=some r):Okc Tryz.prog 120 [.agg #[iV a0.Kind,iV a0.Shape,iV a0.Flags,iV a0.Age,Y A1 n1 c1,Y A2 n2 c2]] ([cj A1 n1 c1 a0.Slots,cj A2 n2 c2 a0.More]) (fun u post=>u=.bool r∧post=[]):=by
 refine bv Tryz.func120 J J ?_;simp only [aN];refine I ?_;refine gD (bi J J) ?_;rintro _ _ ⟨B3,rfl,rfl⟩;refine I ?_;refine ay ?_;refine I ?_;obtain ⟨y4,hy4,h⟩:=aa h;refine gD (al (mF hy4) qS J (ag) lb) ?_;rintro _ _ ⟨_,⟨rfl,rfl⟩,rfl⟩;refine I ?_;obtain ⟨b5,hb5,h⟩:=aa h;refine aw 10 16 b5 ?_ ?_
 ·clear h;refine av 6 J (fun g5=> ?_) (fun g5=> ?_)
  ·have h:=ad g5 hb5;refine I ?_;obtain rfl:=ah h;exact ac sA (cS [0,1,2] 3)
  have h:=ae g5 hb5;refine I ?_;obtain ⟨b6,hb6,h⟩:=aa h;refine aw 5 15 b6 ?_ ?_
  ·clear h;refine av 10 J (fun g6=> ?_) (fun g6=> ?_)
   ·have h:=ad g6 hb6;refine I ?_;refine bG (bf 1 J ar J hE) J (aZ g6 J) J ?_;refine I ?_;obtain rfl:=ah h;exact ac sA (cS [0,1,2] 3)
   have h:=ae g6 hb6;refine I ?_;obtain rfl:=ah h;exact ac sA (cS [0,1,2] 3)
  refine I ?_;obtain rfl:=ah h;exact ac sA (cS [0,1,2] 3)
 refine I ?_;refine ap J (fun g7=> ?_) (fun g7=> ?_)
 ·replace h:=ad g7 h;refine I ?_;refine gR (bf 1 J ar J hE) ?_;refine I ?_;obtain ⟨b8,hb8,h⟩:=aa h;refine aw 5 26 b8 ?_ ?_
  ·clear h;refine av 21 J (fun g8=> ?_) (fun g8=> ?_)
   ·have h:=ad g8 hb8;refine I ?_;refine bG (bf 1 J ar J hE) J (aZ g8 J) J ?_;refine I ?_;obtain rfl:=ah h;exact ac sA (cS [0,1,2] 3)
   have h:=ae g8 hb8;refine I ?_;obtain rfl:=ah h;exact ac sA (cS [0,1,2] 3)
  refine I ?_;obtain ⟨b9,hb9,h⟩:=aa h;refine aw 15 42 b9 ?_ ?_
  ·clear h;refine av 27 J (fun g9=> ?_) (fun g9=> ?_)
   ·have h:=ad g9 hb9;refine I ?_;obtain ⟨x10,hx10,h⟩:=aa h;obtain ⟨lx10,ux10,hx10⟩:=aD hx10;refine bG (bp 1 J ar J J hE aK lx10 ux10) J (aZ g9 J) J ?_;refine bG (kx 1 J ar J (cJ lx10 ux10) gQ) J (aZ g9 J) J ?_;refine bG (ee (u:=iV x10.Kind) 1 J ar J hx10 d4 (fun _ _ _ h=>by rw [show _=_ from h];rfl)) J (aZ g9 J) J ?_;refine I ?_;obtain ⟨b11,hb11,h⟩:=aa h;refine aw 7 41 b11 ?_ ?_
    ·clear h;refine av 34 J (fun g11=> ?_) (fun g11=> ?_)
     ·have h:=ad g11 hb11;refine I ?_;obtain rfl:=ah h;exact ac sA (cS [0,1,2] 3)
     have h:=ae g11 hb11;refine I ?_;obtain ⟨x12,hx12,h⟩:=aa h;obtain ⟨lx12,ux12,hx12⟩:=aD hx12;refine bG (bp 1 J ar J J hE aK lx12 ux12) J (fs g11 J) J ?_;refine bG (kx 1 J ar J (cJ lx12 ux12) gQ) J (fs g11 J) J ?_;refine bG (ee (u:=iV x12.Kind) 1 J ar J hx12 d4 (fun _ _ _ h=>by rw [show _=_ from h];rfl)) J (fs g11 J) J ?_;refine I ?_;obtain rfl:=ah h;exact ac sA (cS [0,1,2] 3)
    refine I ?_;obtain rfl:=ah h;exact ac sA (cS [0,1,2] 3)
   have h:=ae g9 hb9;refine I ?_;obtain rfl:=ah h;exact ac sA (cS [0,1,2] 3)
  refine I ?_;obtain rfl:=ah h;exact aI J J (cS [] 3) ⟨J,J⟩
 replace h:=ae g7 h;refine I ?_;refine ay ?_;refine I ?_;refine ap J (fun g13=> ?_) (fun g13=> ?_)
 ·replace h:=ad g13 h;refine I ?_;obtain rfl:=ah h;exact aI J J (cS [] 3) ⟨J,J⟩
 replace h:=ae g13 h;refine I ?_;refine ay ?_;refine I ?_;obtain ⟨b14,hb14,h⟩:=aa h;refine aw 4 56 b14 ?_ ?_
 ·clear h;refine av 52 J (fun g14=> ?_) (fun g14=> ?_)
  ·have h:=ad g14 hb14;refine I ?_;obtain rfl:=ah h;exact ac sA (cS [0,1,2] 3)
  have h:=ae g14 hb14;refine I ?_;obtain rfl:=ah h;exact ac sA (cS [0,1,2] 3)
 refine I ?_;refine ap J (fun g15=> ?_) (fun g15=> ?_)
 ·replace h:=ad g15 h;refine I ?_;obtain rfl:=ah h;exact aI J J (cS [] 3) ⟨J,J⟩
 replace h:=ae g15 h;refine I ?_;refine ay ?_;refine I ?_;refine ap J (fun g16=> ?_) (fun g16=> ?_)
 ·replace h:=ad g16 h;refine I ?_;refine gR (bf 1 J ar J hE) ?_;refine I ?_;obtain ⟨b17,hb17,h⟩:=aa h;refine aw 6 70 b17 ?_ ?_
  ·clear h;refine av 64 J (fun g17=> ?_) (fun g17=> ?_)
   ·have h:=ad g17 hb17;refine I ?_;obtain ⟨x18,hx18,h⟩:=aa h;obtain ⟨lx18,ux18,hx18⟩:=aD hx18;refine bG (bp 1 J ar J J hE aK lx18 ux18) J (aZ g17 J) J ?_;refine bG (bq (us:=[iV x18.Kind,iV x18.N,.string x18.S]) 1 J ar J hx18 bx (fun _ _ _ h=>by rw [show _=_ from h];rfl)) J (aZ g17 J) J ?_;obtain ⟨y19,hy19,h⟩:=aa h;refine ce (al (cw hy19) gV J (ag) bX) J (aZ g17 J) J ?_;rintro _ _ ⟨_,⟨rfl,rfl⟩,rfl⟩;refine I ?_;obtain rfl:=ah h;exact ac sA (cS [0,1,2] 3)
   have h:=ae g17 hb17;refine I ?_;obtain rfl:=ah h;exact ac sA (cS [0,1,2] 3)
  refine I ?_;obtain ⟨b20,hb20,h⟩:=aa h;refine aw 6 77 b20 ?_ ?_
  ·clear h;refine av 71 J (fun g20=> ?_) (fun g20=> ?_)
   ·have h:=ad g20 hb20;refine I ?_;obtain ⟨x21,hx21,h⟩:=aa h;obtain ⟨lx21,ux21,hx21⟩:=aD hx21;refine bG (bp 1 J ar J J hE aK lx21 ux21) J (aZ g20 J) J ?_;refine bG (bq (us:=[iV x21.Kind,iV x21.N,.string x21.S]) 1 J ar J hx21 bx (fun _ _ _ h=>by rw [show _=_ from h];rfl)) J (aZ g20 J) J ?_;obtain ⟨y22,hy22,h⟩:=aa h;refine ce (al (cw hy22) gV J (ag) bX) J (aZ g20 J) J ?_;rintro _ _ ⟨_,⟨rfl,rfl⟩,rfl⟩;refine I ?_;obtain rfl:=ah h;exact ac sA (cS [0,1,2] 3)
   have h:=ae g20 hb20;refine I ?_;obtain rfl:=ah h;exact ac sA (cS [0,1,2] 3)
  refine I ?_;obtain rfl:=ah h;exact aI J J (cS [] 3) ⟨J,J⟩
 replace h:=ae g16 h;refine I ?_;refine gR (bf 1 J ar J hE) ?_;refine I ?_;obtain rfl:=ah h;exact aI J J (cS [] 3) ⟨J,J⟩
theorem gx {r:Bool}: ∀v post,((fun (u:Value) (post:List Chunk)=>u=.bool r∧post=[])) v post→ ∀c∈post,bZ c:=by
 rintro _ _ ⟨rfl,rfl⟩;exact ag
def ct (N:Nat)(a0:uK)(a1:Int)(a2:Int):Option Bool:=
 (bif decide (a0.Kind=3) then (some (decide (a1≤a0.N))) else (some false)).bind fun b2=>(bif b2 then (some (decide (a0.N≤a2))) else (some false)).bind fun b3=>some b3
theorem cx {N:Nat}{a0:uK}{a1:Int}{a2:Int}{r:Bool}(h:ct N a0 a1 a2=some r):Okc Tryz.prog 159 [(cX a0),iV a1,iV a2] ([]) (fun u post=>u=.bool r∧post=[]):=by
 refine bv Tryz.func159 J J ?_;simp only [aN];refine I ?_;refine gD (bi J J) ?_;rintro _ _ ⟨B1,rfl,rfl⟩;refine I ?_;obtain ⟨b2,hb2,h⟩:=aa h;refine aw 5 15 b2 ?_ ?_
 ·clear h;refine av 10 J (fun g2=> ?_) (fun g2=> ?_)
  ·have h:=ad g2 hb2;refine I ?_;obtain rfl:=ah h;exact ac sA (cS [0] 1)
  have h:=ae g2 hb2;refine I ?_;obtain rfl:=ah h;exact ac sA (cS [0] 1)
 refine I ?_;obtain ⟨b3,hb3,h⟩:=aa h;refine aw 5 21 b3 ?_ ?_
 ·clear h;refine av 16 J (fun g3=> ?_) (fun g3=> ?_)
  ·have h:=ad g3 hb3;refine I ?_;obtain rfl:=ah h;exact ac sA (cS [0] 1)
  have h:=ae g3 hb3;refine I ?_;obtain rfl:=ah h;exact ac sA (cS [0] 1)
 refine I ?_;obtain rfl:=ah h;exact aI J J (cS [] 1) ⟨J,J⟩
theorem bY {r:Bool}: ∀v post,((fun (u:Value) (post:List Chunk)=>u=.bool r∧post=[])) v post→ ∀c∈post,bZ c:=by
 rintro _ _ ⟨rfl,rfl⟩;exact ag
def ep (N:Nat){σ:Type}(fy:(List uK)→σ→Option (Bool×σ))(a1:(List uK))(a2:Int):Nat→Int→σ→Option σ
 |0,_,_=>none
 |m4+1,p5,p6=>bif decide (p5<(a1.length:Int)) then (ea ((0:Int)≤p5∧p5.toNat≤a1.length∧a1.length≤a1.length) (ea (cM (p5+(min a2 (((a1.drop p5.toNat).take (a1.length - p5.toNat)).length:Int)))) (ea (cM (p5+(min a2 (((a1.drop p5.toNat).take (a1.length - p5.toNat)).length:Int)))) (ea ((0:Int)≤p5∧(0:Int)≤p5+(min a2 (((a1.drop p5.toNat).take (a1.length - p5.toNat)).length:Int))∧p5.toNat≤(p5+(min a2 (((a1.drop p5.toNat).take (a1.length - p5.toNat)).length:Int))).toNat∧(p5+(min a2 (((a1.drop p5.toNat).take (a1.length - p5.toNat)).length:Int))).toNat≤a1.length) ((fy ((a1.drop p5.toNat).take ((p5+(min a2 (((a1.drop p5.toNat).take (a1.length - p5.toNat)).length:Int))).toNat - p5.toNat)) p6).bind fun y14=>bif !y14.1 then (some y14.2) else (ea (cM (p5+a2)) ((ep N fy a1 a2 m4) (p5+a2) y14.2))))))) else (some p6)
def f5 (N:Nat){σ:Type}(a1:(List uK))(a2:Int)(fy:(List uK)→σ→Option (Bool×σ))(s0:σ):Option σ:=
 ep N fy a1 a2 N 0 s0
theorem jT {N:Nat}{σ:Type}{a1:(List uK)}{a2:Int}{fy:(List uK)→σ→Option (Bool×σ)}{s0:σ}{r:σ}(h:f5 N a1 a2 fy s0=some r){l:Nat}{G:σ→List Chunk}(hY:gA Tryz.prog l G (fun (x:(List uK)) vs cs=> ∃A0 n0 c0,vs=[Y A0 n0 c0]∧cs=[cj A0 n0 c0 x]) fy):Okc Tryz.prog 206 [.func (.yield l) #[] #[],pV B1 0,pV B3 0] (aG B1 30 [Y A2 n2 c2]::cj A2 n2 c2 a1::aG B3 3 [iV a2]::(G s0)) (fun u post=>u=.tuple #[]∧post=G r):=by
 refine bv Tryz.func206 J J ?_;simp only [aN];refine I ?_;refine d8 (fun m s L=> ∃p5 p6,ep N fy a1 a2 m p5 p6=some r∧s=[(0,.func (.yield l) #[] #[]),(1,pV B1 0),(2,pV B3 0),(4,iV p5)]∧L=cj A2 n2 c2 a1::aG B1 30 [Y A2 n2 c2]::aG B3 3 [iV a2]::(G p6)) N _ _ ⟨0,s0,h,J,J⟩ sA (cS [1,0,2] 3) ?_;rintro (_|m4) _ _ ⟨p5,p6,h,rfl,rfl⟩
 ·exact bM h
 rw [ep.eq_2] at h;refine ay ?_;refine I ?_;refine gR (ba 1 J J fB J) ?_;refine gR (bf 0 J ar J hE) ?_;refine I ?_;refine ap J (fun g7=> ?_) (fun g7=> ?_)
 ·replace h:=ad g7 h;refine I ?_;refine ay ?_;refine gY ?_;refine ay ?_;refine bE V _ (ao _) ?_;refine zR 0 J (ba 2 J J d4 J) ?_;refine zR 1 J (ba 1 J J fB J) ?_;refine zE 2 J (ax J) ?_;obtain ⟨q8,h⟩:=aC h;refine pR 0 J (l:=p5.toNat) (h:=a1.length) q8.2.1 q8.2.2 ?_;rintro A9 n9 c9 e9;refine zR 3 J (lA 1 J e9 J hE aK J (by rw [Int.toNat_of_nonneg q8.1];rfl) q8.2.1) ?_;refine zR 4 J (bf 0 J ar J hE) ?_;refine zE 5 J (rU J J hH hH) ?_;refine zE 6 J (aX J) ?_;refine bc V ?_;refine I ?_;refine gR (ba 2 J J fB J) ?_;refine I ?_;obtain ⟨q10,h⟩:=aC h;refine gE (dI J J q10.1 q10.2) ?_;refine I ?_;obtain ⟨q11,h⟩:=aC h;refine gE (dI J J q11.1 q11.2) ?_;obtain ⟨q12,h⟩:=aC h;refine sB 1 J (l:=p5.toNat) (h:=(p5+(min a2 (((a1.drop p5.toNat).take (a1.length - p5.toNat)).length:Int))).toNat) q12.2.2.1 q12.2.2.2 ?_;rintro A13 n13 c13 e13;refine gR (qk 2 J e13 J hE aK J (by rw [Int.toNat_of_nonneg q12.1];rfl) (by rw [Int.toNat_of_nonneg q12.2.1];rfl) (by rw [Int.toNat_of_nonneg q12.2.1];rfl) q12.2.2.1 q12.2.2.2) ?_;obtain ⟨y14,hy14,h⟩:=aa h
  refine gD (oD (a:=(a1.drop p5.toNat).take ((p5+(min a2 (((a1.drop p5.toNat).take (a1.length - p5.toNat)).length:Int))).toNat - p5.toNat)) [cj A13 n13 c13 ((a1.drop p5.toNat).take ((p5+(min a2 (((a1.drop p5.toNat).take (a1.length - p5.toNat)).length:Int))).toNat - p5.toNat)),cj A9 n9 c9 ((a1.drop p5.toNat).take (a1.length - p5.toNat)),cj A2 n2 c2 a1,aG B1 30 [Y A2 n2 c2],aG B3 3 [iV a2]] hY hy14 J J ⟨_,_,_,J,J⟩ (rY 0 J J)) ?_;rintro _ _ ⟨rfl,rfl⟩;refine I ?_;refine ap J (fun g15=> ?_) (fun g15=> ?_)
  ·replace h:=ad g15 h;refine I ?_;obtain rfl:=ah h;exact px J (cS [] 5) ⟨J,J⟩
  replace h:=ae g15 h;refine I ?_;refine gR (ba 4 J J d4 J) ?_;obtain ⟨q16,h⟩:=aC h;refine gE (dI J J q16.1 q16.2) ?_;refine I ?_;exact ⟨m4,_,_,uQ _,⟨p5+a2,y14.2,h,J,J⟩,sA,cS [2,3,4] 5⟩
 replace h:=ae g7 h;refine I ?_;obtain rfl:=ah h;exact kO J (cS [] 3) ⟨J,J⟩
def eL (N:Nat)(a0:(List uK))(a1:Int):Option Unit:=
 bif decide (a1<1) then none else (some ())
theorem gZ {N:Nat}{a0:(List uK)}{a1:Int}{r:Unit}(h:eL N a0 a1=some r):Okc Tryz.prog 188 [Y A1 n1 c1,iV a1] ([cj A1 n1 c1 a0]) (fun u post=> ∃B900 B901,u=.func (.func 206) #[] #[pV B900 0,pV B901 0]∧post=[ak B900 30 [Y A1 n1 c1],ak B901 3 [iV a1]]):=by
 refine bv Tryz.func188 J J ?_;simp only [aN];refine I ?_;refine gD (bi J J) ?_;rintro _ _ ⟨B2,rfl,rfl⟩;refine gD (bi J J) ?_;rintro _ _ ⟨B3,rfl,rfl⟩;refine I ?_;refine ay ?_;refine I ?_;refine ap J (fun g4=> ?_) (fun g4=> ?_)
 ·replace h:=ad g4 h;exact bM h
 replace h:=ae g4 h;refine I ?_;refine gE (gv J) ?_;refine I ?_;obtain rfl:=ah h;exact aI J J (cS [1,0] 3) ⟨_,_,J,J⟩
theorem fV {a1:Int}{A1:Option Addr}{n1:Nat}{c1:Nat}: ∀v post,((fun (u:Value) (post:List Chunk)=> ∃B900 B901,u=.func (.func 206) #[] #[pV B900 0,pV B901 0]∧post=[ak B900 30 [Y A1 n1 c1],ak B901 3 [iV a1]])) v post→ ∀c∈post,bZ c:=by
 rintro _ _ ⟨_,_,rfl,rfl⟩;exact hD kJ (hD kJ (ag))
def di (N:Nat)(a1:Int)(x9:(List uK)):(Unit)→Option (Option Exit×Unit)
 |()=>(cc x9 0).bind fun x12=>(bif !decide (x12.Kind=7) then (some true) else ((cc x9 1).bind fun x14=>some (decide (x14.Kind=8)))).bind fun b13=>bif b13 then (some (some .ret,())) else ((bif decide (a1=4) then ((cc x9 2).bind fun x17=>(cr N x17 7).bind fun y18=>(bif !y18 then (some true) else ((cc x9 3).bind fun x20=>(ct N x20 0 9007199254740992).bind fun y21=>some (!y21))).bind fun b19=>some b19) else (some false)).bind fun b16=>bif b16 then (some (some .ret,())) else (some (none,())))
def dt (N:Nat)(a0:(List uK))(a1:Int):Option Bool:=
 ea (a1≠0) (bif !decide ((a0.length:Int).tmod a1=0) then (some false) else ((eL N a0 a1).bind fun y6=>(f5 N a0 a1 (iv (fun x st=>di N a1 x st)) (none,())).bind fun y11=>nZ y11.1 (some true) (some false) (fun _=>none)))
set_option maxHeartbeats 4000000 in
theorem eh {N:Nat}{a0:(List uK)}{a1:Int}{r:Bool}(h:dt N a0 a1=some r):Okc Tryz.prog 160 [Y A1 n1 c1,iV a1] ([cj A1 n1 c1 a0]) (fun u post=>u=.bool r∧post=[]):=by
 refine bv Tryz.func160 J J ?_;simp only [aN];refine I ?_;refine gD (bi J J) ?_;rintro _ _ ⟨B2,rfl,rfl⟩;refine gD (aJ rm J) ?_;rintro _ _ ⟨B3,rfl,rfl⟩;refine I ?_;refine ay ?_;refine I ?_;refine gR (bf 2 J ar J hE) ?_;refine I ?_;obtain ⟨q4,h⟩:=aC h;refine gE (kM J J q4) ?_;refine I ?_;refine ap J (fun g5=> ?_) (fun g5=> ?_)
 ·replace h:=ad g5 h;refine I ?_;refine gO (aq (us:=[.bool false]) (cs':=[.bool false]) 0 J J J J kn J J J) ?_;rintro _ _ rfl;refine I ?_;obtain rfl:=ah h;exact co (rs:=[.cell 4 4]) (vs:=[.bool false]) J (.cons (gM 0 J J mW) .nil) J (cS [] 3) ⟨J,J⟩
 replace h:=ae g5 h;refine I ?_;refine ay ?_;refine I ?_;obtain ⟨y6,hy6,h⟩:=aa h;refine gD (al (gZ hy6) qP J (hD (aj (i:=2) J J) ag) fV) ?_;rintro _ _ ⟨_,⟨B7,B8,rfl,rfl⟩,rfl⟩;refine oo ?_;refine eH ?_;refine iA ?_ d9 (jB 0 J);refine iA ?_ d9 (jB 1 J);refine rn ?_;obtain ⟨y11,hy11,h⟩:=aa h;refine oT (R:=(fun (x:(List uK)) vs cs=> ∃A0 n0 c0,vs=[Y A0 n0 c0]∧cs=[cj A0 n0 c0 x])) (fun x st=>di N a1 x st) (fun (st:Unit) (mz:Unit)=> [ak B2 3 [iV a1],ak B3 4 [.bool false]]) [aG B7 30 [Y A1 n1 c1],cj A1 n1 c1 a0,aG B8 3 [iV a1]] (()) (()) J J qO J (by rintro _ _ _ ⟨_,_,_,rfl,rfl⟩;rfl) (fun l G hY=>(jT hy11 hY).mono fun _ _ hh=>hh.2) (aP [0,4,1] [] [3,2] 5 J) h ?_ ?_ ?_ ?_
 ·rintro l x9 _ je sr9 _ h _ _ ⟨A10,n10,c10,rfl,rfl⟩;replace h:di N a1 x9 ()=some (je,sr9):=h;simp only [mB,List.zip_cons_cons,List.zip_nil_left,List.zip_nil_right,List.reverse_cons,List.reverse_nil,List.nil_append,List.cons_append];refine I ?_;refine ay ?_;refine I ?_;obtain ⟨x12,hx12,h⟩:=aa h;obtain ⟨lx12,ux12,hx12⟩:=aD hx12;refine gR (bp 0 J ar J J hE aK lx12 ux12) ?_;refine gR (kx 0 J ar J (cJ lx12 ux12) gQ) ?_;refine gR (ee (u:=iV x12.Kind) 0 J ar J hx12 d4 (fun _ _ _ h=>by rw [show _=_ from h];rfl)) ?_;refine I ?_;obtain ⟨b13,hb13,h⟩:=aa h;refine aw 6 26 b13 ?_ ?_
  ·clear h;refine av 20 J (fun g13=> ?_) (fun g13=> ?_)
   ·have h:=ad g13 hb13;refine I ?_;obtain rfl:=ah h;exact ac sA (cS [0,1,2] 3)
   have h:=ae g13 hb13;refine I ?_;obtain ⟨x14,hx14,h⟩:=aa h;obtain ⟨lx14,ux14,hx14⟩:=aD hx14;refine bG (bp 0 J ar J J hE aK lx14 ux14) J (fs g13 J) J ?_;refine bG (kx 0 J ar J (cJ lx14 ux14) gQ) J (fs g13 J) J ?_;refine bG (ee (u:=iV x14.Kind) 0 J ar J hx14 d4 (fun _ _ _ h=>by rw [show _=_ from h];rfl)) J (fs g13 J) J ?_;refine I ?_;obtain rfl:=ah h;exact ac sA (cS [0,1,2] 3)
  refine I ?_;refine ap J (fun g15=> ?_) (fun g15=> ?_)
  ·replace h:=ad g15 h;refine I ?_;refine gO (aq (us:=[.bool false]) (cs':=[.bool false]) 2 J J J J kn J J J) ?_;rintro _ _ rfl;refine I ?_;obtain ⟨rfl,rfl⟩:=Prod.mk.inj (Option.some.inj h);exact ns ((cS [1,2] 3).trans (eW () J))
  replace h:=ae g15 h;refine I ?_;obtain ⟨b16,hb16,h⟩:=aa h;refine aw 13 42 b16 ?_ ?_
  ·clear h;refine av 29 J (fun g16=> ?_) (fun g16=> ?_)
   ·have h:=ad g16 hb16;refine I ?_;obtain ⟨x17,hx17,h⟩:=aa h;obtain ⟨lx17,ux17,hx17⟩:=aD hx17;refine bG (bp 0 J ar J J hE aK lx17 ux17) J (aZ g16 J) J ?_;refine bG (bq (us:=[iV x17.Kind,iV x17.N,.string x17.S]) 0 J ar J hx17 bx (fun _ _ _ h=>by rw [show _=_ from h];rfl)) J (aZ g16 J) J ?_;obtain ⟨y18,hy18,h⟩:=aa h;refine ce (al (cw hy18) gV J (ag) bX) J (aZ g16 J) J ?_;rintro _ _ ⟨_,⟨rfl,rfl⟩,rfl⟩;refine I ?_;obtain ⟨b19,hb19,h⟩:=aa h;refine aw 6 41 b19 ?_ ?_
    ·clear h;refine av 35 J (fun g19=> ?_) (fun g19=> ?_)
     ·have h:=ad g19 hb19;refine I ?_;obtain rfl:=ah h;exact ac sA (cS [0,1,2] 3)
     have h:=ae g19 hb19;refine I ?_;obtain ⟨x20,hx20,h⟩:=aa h;obtain ⟨lx20,ux20,hx20⟩:=aD hx20;refine bG (bp 0 J ar J J hE aK lx20 ux20) J (fs g19 J) J ?_;refine bG (bq (us:=[iV x20.Kind,iV x20.N,.string x20.S]) 0 J ar J hx20 bx (fun _ _ _ h=>by rw [show _=_ from h];rfl)) J (fs g19 J) J ?_;obtain ⟨y21,hy21,h⟩:=aa h;refine ce (al (cx hy21) gU J (ag) bY) J (fs g19 J) J ?_;rintro _ _ ⟨_,⟨rfl,rfl⟩,rfl⟩;refine I ?_;obtain rfl:=ah h;exact ac sA (cS [0,1,2] 3)
    refine I ?_;obtain rfl:=ah h;exact ac sA (cS [0,1,2] 3)
   have h:=ae g16 hb16;refine I ?_;obtain rfl:=ah h;exact ac sA (cS [0,1,2] 3)
  refine I ?_;refine ap J (fun g22=> ?_) (fun g22=> ?_)
  ·replace h:=ad g22 h;refine I ?_;refine gO (aq (us:=[.bool false]) (cs':=[.bool false]) 2 J J J J kn J J J) ?_;rintro _ _ rfl;refine I ?_;obtain ⟨rfl,rfl⟩:=Prod.mk.inj (Option.some.inj h);exact ns ((cS [1,2] 3).trans (eW () J))
  replace h:=ae g22 h;refine I ?_;obtain ⟨rfl,rfl⟩:=Prod.mk.inj (Option.some.inj h);exact ti ((cS [1,2] 3).trans (eW () J))
 ·rintro _ h;refine kg ([ak B2 3 [iV a1],ak B3 4 [.bool false]]) J ?_;refine I ?_;refine gO (aq (us:=[.bool true]) (cs':=[.bool true]) 1 J J J J kn J J J) ?_;rintro _ _ rfl;refine eg ?_;refine I ?_;obtain rfl:=ah h;exact co (rs:=[.cell 4 4]) (vs:=[.bool true]) J (.cons (gM 1 J J mW) .nil) J (cS [] 2) ⟨J,J⟩
 ·rintro _ h;refine kg ([ak B2 3 [iV a1],ak B3 4 [.bool false]]) J ?_;refine I ?_;obtain rfl:=ah h;exact co (rs:=[.cell 4 4]) (vs:=[.bool false]) J (.cons (gM 1 J J mW) .nil) J (cS [] 2) ⟨J,J⟩
 rintro i _ h;exact bM h
theorem dS {r:Bool}: ∀v post,((fun (u:Value) (post:List Chunk)=>u=.bool r∧post=[])) v post→ ∀c∈post,bZ c:=by
 rintro _ _ ⟨rfl,rfl⟩;exact ag
def dR (N:Nat)(a0:Int)(a1:(List uK))(p5:Bool):Option Bool:=
 bif p5 then (some (decide ((a1.length:Int)=0))) else (bif decide (a0=3) then ((bif decide ((a1.length:Int)=3) then ((cc a1 0).bind fun x10=>(ct N x10 0 9007199254740992).bind fun y11=>some y11) else (some false)).bind fun b9=>(bif b9 then ((cc a1 1).bind fun x13=>(cr N x13 9).bind fun y14=>some y14) else (some false)).bind fun b12=>some b12) else (bif decide (a0=4) then ((bif decide (1≤(a1.length:Int)) then (some (decide ((a1.length:Int)≤4097))) else (some false)).bind fun b16=>(bif b16 then ((cc a1 0).bind fun x18=>(cr N x18 9).bind fun y19=>some y19) else (some false)).bind fun b17=>some b17) else (bif decide (a0=6) then ((bif decide ((a1.length:Int)=2) then ((cc a1 0).bind fun x22=>(ct N x22 0 3).bind fun y23=>some y23) else (some false)).bind fun b21=>(bif b21 then ((cc a1 1).bind fun x25=>(cr N x25 9).bind fun y26=>some y26) else (some false)).bind fun b24=>some b24) else (bif decide (a0=7) then ((bif decide (4≤(a1.length:Int)) then ((cc a1 2).bind fun x29=>(ct N x29 0 1).bind fun y30=>some y30) else (some false)).bind fun b28=>(bif b28 then ((cc a1 3).bind fun x32=>(ct N x32 0 9007199254740992).bind fun y33=>some y33) else (some false)).bind fun b31=>some b31) else (bif decide (a0=8) then ((dt N a1 2).bind fun y35=>some y35) else (bif decide (a0=10) then ((bif decide (1≤(a1.length:Int)) then ((cc a1 0).bind fun x38=>some (decide (x38.Kind=7))) else (some false)).bind fun b37=>(bif b37 then (ea ((0:Int)≤1∧(1:Int).toNat≤a1.length∧a1.length≤a1.length) ((dt N ((a1.drop ((1:Int).toNat)).take (a1.length - (1:Int).toNat)) 4).bind fun y42=>some y42)) else (some false)).bind fun b39=>some b39) else (bif decide (a0=9) then ((bif decide (2≤(a1.length:Int)) then ((cc a1 0).bind fun x45=>(ct N x45 0 2).bind fun y46=>some y46) else (some false)).bind fun b44=>some b44) else (some true))))))))
def fF (N:Nat)(a0:Int)(a1:(List uK)):Option Bool:=
 bif decide (1048576<(a1.length:Int)) then (some false) else (bif decide (a0=2) then (some (decide ((a1.length:Int)≤4096))) else (bif decide (a0=1) then (dR N a0 a1 (decide (a0=1))) else (dR N a0 a1 (decide (a0=5)))))
set_option maxHeartbeats 4000000 in
theorem jg {N:Nat}{a0:Int}{a1:(List uK)}{r:Bool}(h:fF N a0 a1=some r):Okc Tryz.prog 121 [iV a0,Y A1 n1 c1] ([cj A1 n1 c1 a1]) (fun u post=>u=.bool r∧post=[]):=by
 refine bv Tryz.func121 J J ?_;simp only [aN];refine I ?_;refine ay ?_;refine I ?_;refine gR (bf 0 J ar J hE) ?_;refine I ?_;refine ap J (fun g2=> ?_) (fun g2=> ?_)
 ·replace h:=ad g2 h;refine I ?_;obtain rfl:=ah h;exact aI J J (cS [] 1) ⟨J,J⟩
 replace h:=ae g2 h;refine I ?_;refine ay ?_;refine I ?_;refine ap J (fun g3=> ?_) (fun g3=> ?_)
 ·replace h:=ad g3 h;refine I ?_;refine gR (bf 0 J ar J hE) ?_;refine I ?_;obtain rfl:=ah h;exact aI J J (cS [] 1) ⟨J,J⟩
 replace h:=ae g3 h;refine bm (fun s L=> ∃p5,dR N a0 a1 p5=some r∧s=[(1,Y A1 n1 c1),(4,.bool false),(8,iV a0),(14,.bool p5)]∧L=[cj A1 n1 c1 a1]) ?_ ?_
 ·refine I ?_;refine ap J (fun g6=> ?_) (fun g6=> ?_)
  ·replace h:=ad g6 h;refine I ?_;exact ⟨_,_,⟨decide (a0=1),h,J,J⟩,sA,cS [0] 1⟩
  replace h:=ae g6 h;refine I ?_;exact ⟨_,_,⟨decide (a0=5),h,J,J⟩,sA,cS [0] 1⟩
 rintro _ _ ⟨p5,h,rfl,rfl⟩;refine ap J (fun g7=> ?_) (fun g7=> ?_)
 ·replace h:=ad g7 h;refine I ?_;refine gR (bf 0 J ar J hE) ?_;refine I ?_;obtain rfl:=ah h;exact aI J J (cS [] 1) ⟨J,J⟩
 replace h:=ae g7 h;refine I ?_;refine ap J (fun g8=> ?_) (fun g8=> ?_)
 ·replace h:=ad g8 h;refine I ?_;refine gR (bf 0 J ar J hE) ?_;refine I ?_;obtain ⟨b9,hb9,h⟩:=aa h;refine aw 5 30 b9 ?_ ?_
  ·clear h;refine av 25 J (fun g9=> ?_) (fun g9=> ?_)
   ·have h:=ad g9 hb9;refine I ?_;obtain ⟨x10,hx10,h⟩:=aa h;obtain ⟨lx10,ux10,hx10⟩:=aD hx10;refine bG (bp 0 J ar J J hE aK lx10 ux10) J (aZ g9 J) J ?_;refine bG (bq (us:=[iV x10.Kind,iV x10.N,.string x10.S]) 0 J ar J hx10 bx (fun _ _ _ h=>by rw [show _=_ from h];rfl)) J (aZ g9 J) J ?_;obtain ⟨y11,hy11,h⟩:=aa h;refine ce (al (cx hy11) gU J (ag) bY) J (aZ g9 J) J ?_;rintro _ _ ⟨_,⟨rfl,rfl⟩,rfl⟩;refine I ?_;obtain rfl:=ah h;exact ac sA (cS [0] 1)
   have h:=ae g9 hb9;refine I ?_;obtain rfl:=ah h;exact ac sA (cS [0] 1)
  refine I ?_;obtain ⟨b12,hb12,h⟩:=aa h;refine aw 5 36 b12 ?_ ?_
  ·clear h;refine av 31 J (fun g12=> ?_) (fun g12=> ?_)
   ·have h:=ad g12 hb12;refine I ?_;obtain ⟨x13,hx13,h⟩:=aa h;obtain ⟨lx13,ux13,hx13⟩:=aD hx13;refine bG (bp 0 J ar J J hE aK lx13 ux13) J (aZ g12 J) J ?_;refine bG (bq (us:=[iV x13.Kind,iV x13.N,.string x13.S]) 0 J ar J hx13 bx (fun _ _ _ h=>by rw [show _=_ from h];rfl)) J (aZ g12 J) J ?_;obtain ⟨y14,hy14,h⟩:=aa h;refine ce (al (cw hy14) gV J (ag) bX) J (aZ g12 J) J ?_;rintro _ _ ⟨_,⟨rfl,rfl⟩,rfl⟩;refine I ?_;obtain rfl:=ah h;exact ac sA (cS [0] 1)
   have h:=ae g12 hb12;refine I ?_;obtain rfl:=ah h;exact ac sA (cS [0] 1)
  refine I ?_;obtain rfl:=ah h;exact aI J J (cS [] 1) ⟨J,J⟩
 replace h:=ae g8 h;refine I ?_;refine ap J (fun g15=> ?_) (fun g15=> ?_)
 ·replace h:=ad g15 h;refine I ?_;refine gR (bf 0 J ar J hE) ?_;refine I ?_;obtain ⟨b16,hb16,h⟩:=aa h;refine aw 4 46 b16 ?_ ?_
  ·clear h;refine av 42 J (fun g16=> ?_) (fun g16=> ?_)
   ·have h:=ad g16 hb16;refine I ?_;refine bG (bf 0 J ar J hE) J (aZ g16 J) J ?_;refine I ?_;obtain rfl:=ah h;exact ac sA (cS [0] 1)
   have h:=ae g16 hb16;refine I ?_;obtain rfl:=ah h;exact ac sA (cS [0] 1)
  refine I ?_;obtain ⟨b17,hb17,h⟩:=aa h;refine aw 5 52 b17 ?_ ?_
  ·clear h;refine av 47 J (fun g17=> ?_) (fun g17=> ?_)
   ·have h:=ad g17 hb17;refine I ?_;obtain ⟨x18,hx18,h⟩:=aa h;obtain ⟨lx18,ux18,hx18⟩:=aD hx18;refine bG (bp 0 J ar J J hE aK lx18 ux18) J (aZ g17 J) J ?_;refine bG (bq (us:=[iV x18.Kind,iV x18.N,.string x18.S]) 0 J ar J hx18 bx (fun _ _ _ h=>by rw [show _=_ from h];rfl)) J (aZ g17 J) J ?_;obtain ⟨y19,hy19,h⟩:=aa h;refine ce (al (cw hy19) gV J (ag) bX) J (aZ g17 J) J ?_;rintro _ _ ⟨_,⟨rfl,rfl⟩,rfl⟩;refine I ?_;obtain rfl:=ah h;exact ac sA (cS [0] 1)
   have h:=ae g17 hb17;refine I ?_;obtain rfl:=ah h;exact ac sA (cS [0] 1)
  refine I ?_;obtain rfl:=ah h;exact aI J J (cS [] 1) ⟨J,J⟩
 replace h:=ae g15 h;refine I ?_;refine ap J (fun g20=> ?_) (fun g20=> ?_)
 ·replace h:=ad g20 h;refine I ?_;refine gR (bf 0 J ar J hE) ?_;refine I ?_;obtain ⟨b21,hb21,h⟩:=aa h;refine aw 5 63 b21 ?_ ?_
  ·clear h;refine av 58 J (fun g21=> ?_) (fun g21=> ?_)
   ·have h:=ad g21 hb21;refine I ?_;obtain ⟨x22,hx22,h⟩:=aa h;obtain ⟨lx22,ux22,hx22⟩:=aD hx22;refine bG (bp 0 J ar J J hE aK lx22 ux22) J (aZ g21 J) J ?_;refine bG (bq (us:=[iV x22.Kind,iV x22.N,.string x22.S]) 0 J ar J hx22 bx (fun _ _ _ h=>by rw [show _=_ from h];rfl)) J (aZ g21 J) J ?_;obtain ⟨y23,hy23,h⟩:=aa h;refine ce (al (cx hy23) gU J (ag) bY) J (aZ g21 J) J ?_;rintro _ _ ⟨_,⟨rfl,rfl⟩,rfl⟩;refine I ?_;obtain rfl:=ah h;exact ac sA (cS [0] 1)
   have h:=ae g21 hb21;refine I ?_;obtain rfl:=ah h;exact ac sA (cS [0] 1)
  refine I ?_;obtain ⟨b24,hb24,h⟩:=aa h;refine aw 5 69 b24 ?_ ?_
  ·clear h;refine av 64 J (fun g24=> ?_) (fun g24=> ?_)
   ·have h:=ad g24 hb24;refine I ?_;obtain ⟨x25,hx25,h⟩:=aa h;obtain ⟨lx25,ux25,hx25⟩:=aD hx25;refine bG (bp 0 J ar J J hE aK lx25 ux25) J (aZ g24 J) J ?_;refine bG (bq (us:=[iV x25.Kind,iV x25.N,.string x25.S]) 0 J ar J hx25 bx (fun _ _ _ h=>by rw [show _=_ from h];rfl)) J (aZ g24 J) J ?_;obtain ⟨y26,hy26,h⟩:=aa h;refine ce (al (cw hy26) gV J (ag) bX) J (aZ g24 J) J ?_;rintro _ _ ⟨_,⟨rfl,rfl⟩,rfl⟩;refine I ?_;obtain rfl:=ah h;exact ac sA (cS [0] 1)
   have h:=ae g24 hb24;refine I ?_;obtain rfl:=ah h;exact ac sA (cS [0] 1)
  refine I ?_;obtain rfl:=ah h;exact aI J J (cS [] 1) ⟨J,J⟩
 replace h:=ae g20 h;refine I ?_;refine ap J (fun g27=> ?_) (fun g27=> ?_)
 ·replace h:=ad g27 h;refine I ?_;refine gR (bf 0 J ar J hE) ?_;refine I ?_;obtain ⟨b28,hb28,h⟩:=aa h;refine aw 5 80 b28 ?_ ?_
  ·clear h;refine av 75 J (fun g28=> ?_) (fun g28=> ?_)
   ·have h:=ad g28 hb28;refine I ?_;obtain ⟨x29,hx29,h⟩:=aa h;obtain ⟨lx29,ux29,hx29⟩:=aD hx29;refine bG (bp 0 J ar J J hE aK lx29 ux29) J (aZ g28 J) J ?_;refine bG (bq (us:=[iV x29.Kind,iV x29.N,.string x29.S]) 0 J ar J hx29 bx (fun _ _ _ h=>by rw [show _=_ from h];rfl)) J (aZ g28 J) J ?_;obtain ⟨y30,hy30,h⟩:=aa h;refine ce (al (cx hy30) gU J (ag) bY) J (aZ g28 J) J ?_;rintro _ _ ⟨_,⟨rfl,rfl⟩,rfl⟩;refine I ?_;obtain rfl:=ah h;exact ac sA (cS [0] 1)
   have h:=ae g28 hb28;refine I ?_;obtain rfl:=ah h;exact ac sA (cS [0] 1)
  refine I ?_;obtain ⟨b31,hb31,h⟩:=aa h;refine aw 5 86 b31 ?_ ?_
  ·clear h;refine av 81 J (fun g31=> ?_) (fun g31=> ?_)
   ·have h:=ad g31 hb31;refine I ?_;obtain ⟨x32,hx32,h⟩:=aa h;obtain ⟨lx32,ux32,hx32⟩:=aD hx32;refine bG (bp 0 J ar J J hE aK lx32 ux32) J (aZ g31 J) J ?_;refine bG (bq (us:=[iV x32.Kind,iV x32.N,.string x32.S]) 0 J ar J hx32 bx (fun _ _ _ h=>by rw [show _=_ from h];rfl)) J (aZ g31 J) J ?_;obtain ⟨y33,hy33,h⟩:=aa h;refine ce (al (cx hy33) gU J (ag) bY) J (aZ g31 J) J ?_;rintro _ _ ⟨_,⟨rfl,rfl⟩,rfl⟩;refine I ?_;obtain rfl:=ah h;exact ac sA (cS [0] 1)
   have h:=ae g31 hb31;refine I ?_;obtain rfl:=ah h;exact ac sA (cS [0] 1)
  refine I ?_;obtain rfl:=ah h;exact aI J J (cS [] 1) ⟨J,J⟩
 replace h:=ae g27 h;refine I ?_;refine ap J (fun g34=> ?_) (fun g34=> ?_)
 ·replace h:=ad g34 h;refine I ?_;obtain ⟨y35,hy35,h⟩:=aa h;refine gD (al (eh hy35) ob J (hD (aj (i:=0) J J) ag) dS) ?_;rintro _ _ ⟨_,⟨rfl,rfl⟩,rfl⟩;refine I ?_;obtain rfl:=ah h;exact aI J J (cS [] 1) ⟨J,J⟩
 replace h:=ae g34 h;refine I ?_;refine ap J (fun g36=> ?_) (fun g36=> ?_)
 ·replace h:=ad g36 h;refine I ?_;refine gR (bf 0 J ar J hE) ?_;refine I ?_;obtain ⟨b37,hb37,h⟩:=aa h;refine aw 6 102 b37 ?_ ?_
  ·clear h;refine av 96 J (fun g37=> ?_) (fun g37=> ?_)
   ·have h:=ad g37 hb37;refine I ?_;obtain ⟨x38,hx38,h⟩:=aa h;obtain ⟨lx38,ux38,hx38⟩:=aD hx38;refine bG (bp 0 J ar J J hE aK lx38 ux38) J (aZ g37 J) J ?_;refine bG (kx 0 J ar J (cJ lx38 ux38) gQ) J (aZ g37 J) J ?_;refine bG (ee (u:=iV x38.Kind) 0 J ar J hx38 d4 (fun _ _ _ h=>by rw [show _=_ from h];rfl)) J (aZ g37 J) J ?_;refine I ?_;obtain rfl:=ah h;exact ac sA (cS [0] 1)
   have h:=ae g37 hb37;refine I ?_;obtain rfl:=ah h;exact ac sA (cS [0] 1)
  refine I ?_;obtain ⟨b39,hb39,h⟩:=aa h;refine aw 4 107 b39 ?_ ?_
  ·clear h;refine av 103 J (fun g39=> ?_) (fun g39=> ?_)
   ·have h:=ad g39 hb39;refine I ?_;obtain ⟨q40,h⟩:=aC h;refine tq 0 J (l:=(1:Int).toNat) (h:=a1.length) q40.2.1 q40.2.2 ?_;rintro A41 n41 c41 e41;refine bG (lA 1 J e41 J hE aK J (by rw [Int.toNat_of_nonneg q40.1];rfl) q40.2.1) J (aZ g39 J) J ?_;obtain ⟨y42,hy42,h⟩:=aa h;refine ce (al (eh hy42) ob J (hD (aj (i:=0) J J) ag) dS) J (aZ g39 J) J ?_;rintro _ _ ⟨_,⟨rfl,rfl⟩,rfl⟩;refine I ?_;obtain rfl:=ah h;exact ac sA (cS [1] 2)
   have h:=ae g39 hb39;refine I ?_;obtain rfl:=ah h;exact ac sA (cS [0] 1)
  refine I ?_;obtain rfl:=ah h;exact aI J J (cS [] 1) ⟨J,J⟩
 replace h:=ae g36 h;refine I ?_;refine ap J (fun g43=> ?_) (fun g43=> ?_)
 ·replace h:=ad g43 h;refine I ?_;refine gR (bf 0 J ar J hE) ?_;refine I ?_;obtain ⟨b44,hb44,h⟩:=aa h;refine aw 5 118 b44 ?_ ?_
  ·clear h;refine av 113 J (fun g44=> ?_) (fun g44=> ?_)
   ·have h:=ad g44 hb44;refine I ?_;obtain ⟨x45,hx45,h⟩:=aa h;obtain ⟨lx45,ux45,hx45⟩:=aD hx45;refine bG (bp 0 J ar J J hE aK lx45 ux45) J (aZ g44 J) J ?_;refine bG (bq (us:=[iV x45.Kind,iV x45.N,.string x45.S]) 0 J ar J hx45 bx (fun _ _ _ h=>by rw [show _=_ from h];rfl)) J (aZ g44 J) J ?_;obtain ⟨y46,hy46,h⟩:=aa h;refine ce (al (cx hy46) gU J (ag) bY) J (aZ g44 J) J ?_;rintro _ _ ⟨_,⟨rfl,rfl⟩,rfl⟩;refine I ?_;obtain rfl:=ah h;exact ac sA (cS [0] 1)
   have h:=ae g44 hb44;refine I ?_;obtain rfl:=ah h;exact ac sA (cS [0] 1)
  refine I ?_;obtain rfl:=ah h;exact aI J J (cS [] 1) ⟨J,J⟩
 replace h:=ae g43 h;refine I ?_;obtain rfl:=ah h;exact aI J J (cS [] 1) ⟨J,J⟩
theorem ik {r:Bool}: ∀v post,((fun (u:Value) (post:List Chunk)=>u=.bool r∧post=[])) v post→ ∀c∈post,bZ c:=by
 rintro _ _ ⟨rfl,rfl⟩;exact ag
def eY (N:Nat)(a0:uG)(x14:Bool×uK):(Unit)→Option (Option Exit×Unit)
 |()=>(kP N x14.2).bind fun y17=>bif !y17 then (some (some .ret,())) else (some (none,()))
def jh (N:Nat)(a0:uG):Option Bool:=
 (bif decide (a0.Kind<1) then (some true) else (some (decide (11<a0.Kind)))).bind fun b5=>(bif b5 then (some true) else (some (decide (a0.Shape<0)))).bind fun b6=>(bif b6 then (some true) else (some (decide (a0.Flags<0)))).bind fun b7=>(bif b7 then (some true) else (some (decide (63<a0.Flags)))).bind fun b8=>(bif b8 then (some true) else ((bif !decide (a0.Age=0) then (some (!decide (a0.Age=1))) else (some false)).bind fun b10=>some b10)).bind fun b9=>bif b9 then (some false) else ((kS N a0).bind fun y12=>(iy N a0 (iv (fun x st=>eY N a0 x st)) (none,())).bind fun y15=>nZ y15.1 ((fj N a0).bind fun y19=>(bif y19 then ((fF N a0.Kind a0.More).bind fun y21=>some y21) else (some false)).bind fun b20=>some b20) (some false) (fun _=>none))
set_option maxHeartbeats 4000000 in
theorem ld {N:Nat}{a0:uG}{r:Bool}(h:jh N a0=some r):Okc Tryz.prog 81 [.agg #[iV a0.Kind,iV a0.Shape,iV a0.Flags,iV a0.Age,Y A1 n1 c1,Y A2 n2 c2]] ([cj A1 n1 c1 a0.Slots,cj A2 n2 c2 a0.More]) (fun u post=>u=.bool r∧post=[]):=by
 refine bv Tryz.func81 J J ?_;simp only [aN];refine I ?_;refine gD (bi J J) ?_;rintro _ _ ⟨B3,rfl,rfl⟩;refine gD (aJ rm J) ?_;rintro _ _ ⟨B4,rfl,rfl⟩;refine I ?_;refine ay ?_;refine I ?_;obtain ⟨b5,hb5,h⟩:=aa h;refine aw 4 12 b5 ?_ ?_
 ·clear h;refine av 8 J (fun g5=> ?_) (fun g5=> ?_)
  ·have h:=ad g5 hb5;refine I ?_;obtain rfl:=ah h;exact ac sA (cS [0,1,2,3] 4)
  have h:=ae g5 hb5;refine I ?_;obtain rfl:=ah h;exact ac sA (cS [0,1,2,3] 4)
 refine I ?_;obtain ⟨b6,hb6,h⟩:=aa h;refine aw 4 17 b6 ?_ ?_
 ·clear h;refine av 13 J (fun g6=> ?_) (fun g6=> ?_)
  ·have h:=ad g6 hb6;refine I ?_;obtain rfl:=ah h;exact ac sA (cS [0,1,2,3] 4)
  have h:=ae g6 hb6;refine I ?_;obtain rfl:=ah h;exact ac sA (cS [0,1,2,3] 4)
 refine I ?_;obtain ⟨b7,hb7,h⟩:=aa h;refine aw 4 22 b7 ?_ ?_
 ·clear h;refine av 18 J (fun g7=> ?_) (fun g7=> ?_)
  ·have h:=ad g7 hb7;refine I ?_;obtain rfl:=ah h;exact ac sA (cS [0,1,2,3] 4)
  have h:=ae g7 hb7;refine I ?_;obtain rfl:=ah h;exact ac sA (cS [0,1,2,3] 4)
 refine I ?_;obtain ⟨b8,hb8,h⟩:=aa h;refine aw 4 27 b8 ?_ ?_
 ·clear h;refine av 23 J (fun g8=> ?_) (fun g8=> ?_)
  ·have h:=ad g8 hb8;refine I ?_;obtain rfl:=ah h;exact ac sA (cS [0,1,2,3] 4)
  have h:=ae g8 hb8;refine I ?_;obtain rfl:=ah h;exact ac sA (cS [0,1,2,3] 4)
 refine I ?_;obtain ⟨b9,hb9,h⟩:=aa h;refine aw 9 37 b9 ?_ ?_
 ·clear h;refine av 28 J (fun g9=> ?_) (fun g9=> ?_)
  ·have h:=ad g9 hb9;refine I ?_;obtain rfl:=ah h;exact ac sA (cS [0,1,2,3] 4)
  have h:=ae g9 hb9;refine I ?_;obtain ⟨b10,hb10,h⟩:=aa h;refine aw 4 36 b10 ?_ ?_
  ·clear h;refine av 32 J (fun g10=> ?_) (fun g10=> ?_)
   ·have h:=ad g10 hb10;refine I ?_;obtain rfl:=ah h;exact ac sA (cS [0,1,2,3] 4)
   have h:=ae g10 hb10;refine I ?_;obtain rfl:=ah h;exact ac sA (cS [0,1,2,3] 4)
  refine I ?_;obtain rfl:=ah h;exact ac sA (cS [0,1,2,3] 4)
 refine I ?_;refine ap J (fun g11=> ?_) (fun g11=> ?_)
 ·replace h:=ad g11 h;refine I ?_;refine gO (aq (us:=[.bool false]) (cs':=[.bool false]) 0 J J J J kn J J J) ?_;rintro _ _ rfl;refine I ?_;obtain rfl:=ah h;exact co (rs:=[.cell 2 4]) (vs:=[.bool false]) J (.cons (gM 0 J J mW) .nil) J (cS [] 4) ⟨J,J⟩
 replace h:=ae g11 h;refine I ?_;refine ay ?_;refine I ?_;refine gR (aS (us:=[iV a0.Kind,iV a0.Shape,iV a0.Flags,iV a0.Age,Y A1 n1 c1,Y A2 n2 c2]) 1 J J dX J) ?_;obtain ⟨y12,hy12,h⟩:=aa h;refine gD (al (mG hy12) rb J (hD (aj (i:=2) J J) (hD (aj (i:=3) J J) ag)) lc) ?_;rintro _ _ ⟨_,⟨B13,rfl,rfl⟩,rfl⟩;refine oo ?_;refine eH ?_;refine iA ?_ d9 (jB 0 J);obtain ⟨y15,hy15,h⟩:=aa h;refine pW (en:=(fun x=> [.bool x.1,.agg #[iV x.2.Kind,iV x.2.N,.string x.2.S]])) (fun x st=>eY N a0 x st) (fun (st:Unit) (mz:Unit)=> [cj A1 n1 c1 a0.Slots,cj A2 n2 c2 a0.More,ak B3 42 [iV a0.Kind,iV a0.Shape,iV a0.Flags,iV a0.Age,Y A1 n1 c1,Y A2 n2 c2],ak B4 4 [.bool false]]) [aG B13 42 [iV a0.Kind,iV a0.Shape,iV a0.Flags,iV a0.Age,Y A1 n1 c1,Y A2 n2 c2],cj A1 n1 c1 a0.Slots,cj A2 n2 c2 a0.More] (()) (()) J J qT J (fun _=>J) (fun l G hY=>(kR hy15 hY).mono fun _ _ hh=>hh.2) (aP [0,3,4] [] [3,4,2,1] 5 J) h ?_ ?_ ?_ ?_
 ·rintro l x14 _ je sr14 _ h;replace h:eY N a0 x14 ()=some (je,sr14):=h;simp only [mB,List.zip_cons_cons,List.zip_nil_left,List.zip_nil_right,List.reverse_cons,List.reverse_nil,List.nil_append,List.cons_append];refine ej ?_;refine gD (aJ dp J) ?_;rintro _ _ ⟨B16,rfl,rfl⟩;refine gO (aq (us:=[iV x14.2.Kind,iV x14.2.N,.string x14.2.S]) (cs':=[iV x14.2.Kind,iV x14.2.N,.string x14.2.S]) 0 J J J J aK J J J) ?_;rintro _ _ rfl;refine eg ?_;refine I ?_;refine gR (aS (us:=[iV x14.2.Kind,iV x14.2.N,.string x14.2.S]) 0 J J bx J) ?_;obtain ⟨y17,hy17,h⟩:=aa h;refine gD (al (mE hy17) ra J (ag) la) ?_;rintro _ _ ⟨_,⟨rfl,rfl⟩,rfl⟩;refine I ?_;refine ap J (fun g18=> ?_) (fun g18=> ?_)
  ·replace h:=ad g18 h;refine I ?_;refine gO (aq (us:=[.bool false]) (cs':=[.bool false]) 4 J J J J kn J J J) ?_;rintro _ _ rfl;refine I ?_;obtain ⟨rfl,rfl⟩:=Prod.mk.inj (Option.some.inj h);exact ns ((cS [1,2,3,4] 5).trans (eW () J))
  replace h:=ae g18 h;refine I ?_;obtain ⟨rfl,rfl⟩:=Prod.mk.inj (Option.some.inj h);exact ti ((cS [1,2,3,4] 5).trans (eW () J))
 ·rintro _ h;refine kg ([cj A1 n1 c1 a0.Slots,cj A2 n2 c2 a0.More,ak B3 42 [iV a0.Kind,iV a0.Shape,iV a0.Flags,iV a0.Age,Y A1 n1 c1,Y A2 n2 c2],ak B4 4 [.bool false]]) J ?_;refine I ?_;refine gR (aS (us:=[iV a0.Kind,iV a0.Shape,iV a0.Flags,iV a0.Age,Y A1 n1 c1,Y A2 n2 c2]) 2 J J dX J) ?_;obtain ⟨y19,hy19,h⟩:=aa h;refine gD (al (iN hy19) qZ J (hD (aj (i:=0) J J) (hD (aj (i:=1) J J) ag)) gx) ?_;rintro _ _ ⟨_,⟨rfl,rfl⟩,rfl⟩;refine I ?_;obtain ⟨b20,hb20,h⟩:=aa h;refine aw 6 53 b20 ?_ ?_
  ·clear h;refine av 47 J (fun g20=> ?_) (fun g20=> ?_)
   ·have h:=ad g20 hb20;refine I ?_;obtain ⟨y21,hy21,h⟩:=aa h;refine ce (al (jg hy21) qY J (hD (aj (i:=1) J J) ag) ik) J (aZ g20 J) J ?_;rintro _ _ ⟨_,⟨rfl,rfl⟩,rfl⟩;refine I ?_;obtain rfl:=ah h;exact ac sA (cS [0,1,2,3] 4)
   have h:=ae g20 hb20;refine I ?_;obtain rfl:=ah h;exact ac sA (cS [0,1,2,3] 4)
  refine gO (aq (us:=[.bool b20]) (cs':=[.bool b20]) 3 J J J J kn J J J) ?_;rintro _ _ rfl;refine I ?_;obtain rfl:=ah h;exact co (rs:=[.cell 2 4]) (vs:=[.bool b20]) J (.cons (gM 3 J J mW) .nil) J (cS [] 4) ⟨J,J⟩
 ·rintro _ h;refine kg ([cj A1 n1 c1 a0.Slots,cj A2 n2 c2 a0.More,ak B3 42 [iV a0.Kind,iV a0.Shape,iV a0.Flags,iV a0.Age,Y A1 n1 c1,Y A2 n2 c2],ak B4 4 [.bool false]]) J ?_;refine I ?_;obtain rfl:=ah h;exact co (rs:=[.cell 2 4]) (vs:=[.bool false]) J (.cons (gM 3 J J mW) .nil) J (cS [] 4) ⟨J,J⟩
 rintro i _ h;exact bM h
theorem jW {r:Bool}: ∀v post,((fun (u:Value) (post:List Chunk)=>u=.bool r∧post=[])) v post→ ∀c∈post,bZ c:=by
 rintro _ _ ⟨rfl,rfl⟩;exact ag
def da (N:Nat)(a0:(List uK)):Option (List uK):=
 ea (fS (([]:List uK).length+a0.length)) (some (([]:List uK)++a0))
theorem eo {N:Nat}{a0:(List uK)}{r:(List uK)}(h:da N a0=some r):Okc Tryz.prog 76 [Y A1 n1 c1] ([cj A1 n1 c1 a0]) (fun u post=> ∃A0 n0 c0,u=Y A0 n0 c0∧post=[bK A0 n0 c0 r]):=by
 refine bv Tryz.func76 J J ?_;simp only [aN];refine I ?_;refine ay ?_;refine I ?_;refine gE (my J hE) ?_;refine I ?_;refine ap J (fun g2=> ?_) (fun g2=> ?_)
 ·replace g2:(A1).isNone=true:=by simpa using g2
  refine rl 0 J ar g2 (fun hx=> ?_);subst hx;replace h:ea (fS (([]:List uK).length+([]:List uK).length)) (some (([]:List uK)++([]:List uK)))=some r:=h
  replace h:some []=some r:=by simpa [ea] using h
  refine I ?_;obtain rfl:=ah h;exact aI J J ((dJ aO 23 _).trans (cS [0] 2)) ⟨_,_,_,J,J⟩
 refine I ?_;refine gD (bW (R:=aO) (vss:=[]) (xs:=[]) J (pM) J J (fun _ _ hr=>All2.nil)) ?_;rintro _ _ ⟨A4,n4,c4,rfl,rfl⟩;refine I ?_;obtain ⟨q5,h⟩:=aC h;refine gD (d3 0 1 J J ar J J hE rH J J q5) ?_;rintro _ _ ⟨A6,n6,c6,rfl,rfl⟩;refine I ?_;obtain rfl:=ah h;exact aI J J (cS [0] 2) ⟨_,_,_,J,J⟩
theorem dL {r:(List uK)}: ∀v post,((fun (u:Value) (post:List Chunk)=> ∃A0 n0 c0,u=Y A0 n0 c0∧post=[bK A0 n0 c0 r])) v post→ ∀c∈post,bZ c:=by
 rintro _ _ ⟨_,_,_,rfl,rfl⟩;exact hD dQ (ag)
def fl (N:Nat)(a0:uG):Option uG:=
 (da N a0.Slots).bind fun y5=>(da N a0.More).bind fun y7=>some (⟨a0.Kind,a0.Shape,a0.Flags,a0.Age,y5,y7⟩:uG)
theorem fN {N:Nat}{a0:uG}{r:uG}(h:fl N a0=some r):Okc Tryz.prog 82 [.agg #[iV a0.Kind,iV a0.Shape,iV a0.Flags,iV a0.Age,Y A1 n1 c1,Y A2 n2 c2]] ([cj A1 n1 c1 a0.Slots,cj A2 n2 c2 a0.More]) (fun u post=> ∃A0 n0 c0 A1 n1 c1,u=.agg #[iV r.Kind,iV r.Shape,iV r.Flags,iV r.Age,Y A0 n0 c0,Y A1 n1 c1]∧post=[bK A0 n0 c0 r.Slots,bK A1 n1 c1 r.More]):=by
 refine bv Tryz.func82 J J ?_;simp only [aN];refine I ?_;refine gD (bi J J) ?_;rintro _ _ ⟨B3,rfl,rfl⟩;refine gD (aJ jn J) ?_;rintro _ _ ⟨B4,rfl,rfl⟩;refine I ?_;refine ay ?_;refine bE V _ (ao _) ?_;refine zE 0 J (bO J lR) ?_;refine zR 1 J (aH 1 J J fB J) ?_;refine zE 3 J (bO J lQ) ?_;refine zR 4 J (aH 1 J J fB J) ?_;obtain ⟨y5,hy5,h⟩:=aa h;refine zD 2 J (al (eo hy5) ni J (hD (aj (i:=2) J J) ag) dL) ?_;rintro _ _ ⟨_,⟨A6,n6,c6,rfl,rfl⟩,rfl⟩;refine bH (cS [1,2,3,4] 5) ?_;refine zE 6 J (bO J lR) ?_;obtain ⟨y7,hy7,h⟩:=aa h;refine zD 5 J (al (eo hy7) ni J (hD (aj (i:=4) J J) ag) dL) ?_;rintro _ _ ⟨_,⟨A8,n8,c8,rfl,rfl⟩,rfl⟩;refine bH (cS [2,3,4,5] 6) ?_;refine jm 7 J V V (aq (us:=[Y A6 n6 c6]) (cs':=[iV a0.Kind,iV a0.Shape,iV a0.Flags,iV a0.Age,Y A6 n6 c6,Y A2 n2 c2]) 3 J J J J mR J J J) ?_;rintro _ _ rfl;refine zE 8 J (bO J lQ) ?_;refine jm 9 J V V (aq (us:=[Y A8 n8 c8]) (cs':=[iV a0.Kind,iV a0.Shape,iV a0.Flags,iV a0.Age,Y A6 n6 c6,Y A8 n8 c8]) 3 J J J J mR J J J) ?_;rintro _ _ rfl;refine bc V ?_;refine I ?_;refine gR (aS (us:=[iV a0.Kind,iV a0.Shape,iV a0.Flags,iV a0.Age,Y A6 n6 c6,Y A8 n8 c8]) 3 J J dX J) ?_
 refine gO (aq (us:=[iV a0.Kind,iV a0.Shape,iV a0.Flags,iV a0.Age,Y A6 n6 c6,Y A8 n8 c8]) (cs':=[iV a0.Kind,iV a0.Shape,iV a0.Flags,iV a0.Age,Y A6 n6 c6,Y A8 n8 c8]) 2 J J J J er J J J) ?_;rintro _ _ rfl;refine I ?_;obtain rfl:=ah h;exact co (rs:=[.cell 2 42]) (vs:=[.agg #[iV a0.Kind,iV a0.Shape,iV a0.Flags,iV a0.Age,Y A6 n6 c6,Y A8 n8 c8]]) J (.cons (bA 2 J J dX) .nil) J (cS [1,0] 6) ⟨_,_,_,_,_,_,J,J⟩
theorem eZ {r:uG}: ∀v post,((fun (u:Value) (post:List Chunk)=> ∃A0 n0 c0 A1 n1 c1,u=.agg #[iV r.Kind,iV r.Shape,iV r.Flags,iV r.Age,Y A0 n0 c0,Y A1 n1 c1]∧post=[bK A0 n0 c0 r.Slots,bK A1 n1 c1 r.More])) v post→ ∀c∈post,bZ c:=by
 rintro _ _ ⟨_,_,_,_,_,_,rfl,rfl⟩;exact hD dQ (hD dQ (ag))
end Go.Proofs.YtdcccmadhipinaaGreat