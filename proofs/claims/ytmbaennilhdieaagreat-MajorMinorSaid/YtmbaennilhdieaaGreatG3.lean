/- Merged texts: part 3. No conditions of their own. -/
import Derived.Test.YtmbaennilhdieaaGreatG2
import Derived.Test.YtmbaennilhdieaaGreatChecked
import Derived.ProofKit
import Derived.Test.YtmbaennilhdieaaGreatG1
namespace Go.Proofs.YtmbaennilhdieaaGreat
variable {A1 A2 A3 A4 A5 A6 : Option Addr} {B1 B2 M5 M6 c1 c2 c3 c4 c5 c6 n1 n2 n3 n4 n5 n6 : Nat}
open Go.RowKit Asn
set_option maxRecDepth 20000
structure DValue where
 Kind : Int
 N : Int
 S : ByteArray
 deriving DecidableEq, Inhabited
def aw : Rep DValue := .flat 3 (fun x => [iV x.Kind, iV x.N, .string x.S]) (fun _ => rfl) (fun _ => rfl)
structure DCell where
 Kind : Int
 Shape : Int
 Flags : Int
 Age : Int
 Slots : (List DValue)
 More : (List DValue)
 deriving DecidableEq, Inhabited
def bO : Rep DCell where
 sz := 6
 rel S w vs x := ∃ A4 n4 c4 A5 n5 c5, vs = [iV x.Kind, iV x.Shape, iV x.Flags, iV x.Age, .slice A4 n4 c4, .slice A5 n5 c5] ∧ SlR aw S w (.slice A4 n4 c4) x.Slots ∧ SlR aw S w (.slice A5 n5 c5) x.More
 loc := fun h ⟨_, _, _, _, _, _, e, h4, h5⟩ => ⟨_, _, _, _, _, _, e, h4.loc h, h5.loc h⟩
 mono := fun h ⟨_, _, _, _, _, _, e, h4, h5⟩ => ⟨_, _, _, _, _, _, e, h4.mono h, h5.mono h⟩
 len := fun ⟨_, _, _, _, _, _, e, _⟩ => by rw [e]; rfl
 one := fun ⟨_, _, _, _, _, _, e, _⟩ => by rw [e]; rfl
theorem db (x : DCell) : zb bO x fun vs cs => ∃ A4 n4 c4 A5 n5 c5, vs = [iV x.Kind, iV x.Shape, iV x.Flags, iV x.Age, .slice A4 n4 c4, .slice A5 n5 c5] ∧ cs = [dq aw (.slice A4 n4 c4) x.Slots, dq aw (.slice A5 n5 c5) x.More] := fun S w vs ⟨_, _, _, _, _, _, e, h4, h5⟩ => ⟨_, ⟨_, _, _, _, _, _, e, rfl⟩, mem_cons h4 (mem_cons h5 (ae))⟩
structure DMemory where
 Young : (List DCell)
 Old : (List DCell)
 deriving DecidableEq, Inhabited
def EL : Rep DMemory where
 sz := 2
 rel S w vs x := ∃ A0 n0 c0 A1 n1 c1, vs = [.slice A0 n0 c0, .slice A1 n1 c1] ∧ SlR bO S w (.slice A0 n0 c0) x.Young ∧ SlR bO S w (.slice A1 n1 c1) x.Old
 loc := fun h ⟨_, _, _, _, _, _, e, h0, h1⟩ => ⟨_, _, _, _, _, _, e, h0.loc h, h1.loc h⟩
 mono := fun h ⟨_, _, _, _, _, _, e, h0, h1⟩ => ⟨_, _, _, _, _, _, e, h0.mono h, h1.mono h⟩
 len := fun ⟨_, _, _, _, _, _, e, _⟩ => by rw [e]; rfl
 one := fun ⟨_, _, _, _, _, _, e, _⟩ => by rw [e]; rfl
structure DRow where
 m_ : DMemory
 all_ : (List Int)
 met_ : (List (Int × Unit))
 done_ : Int
 deriving DecidableEq, Inhabited
structure DTwins where
 a_ : DMemory
 b_ : DMemory
 x_ : (List Int)
 y_ : (List Int)
 from_ : (List (Int × Int))
 to_ : (List (Int × Int))
 deriving DecidableEq, Inhabited
structure DSide where
 M : DMemory
 Order : (List Int)
 deriving DecidableEq, Inhabited
def Iz : Rep DSide where
 sz := 3
 rel S w vs x := ∃ A0 n0 c0 A1 n1 c1 A2 n2 c2, vs = [.slice A0 n0 c0, .slice A1 n1 c1, .slice A2 n2 c2] ∧ SlR bO S w (.slice A0 n0 c0) x.M.Young ∧ SlR bO S w (.slice A1 n1 c1) x.M.Old ∧ SlR (dS .i64) S w (.slice A2 n2 c2) x.Order
 loc := fun h ⟨_, _, _, _, _, _, _, _, _, e, h0, h1, h2⟩ => ⟨_, _, _, _, _, _, _, _, _, e, h0.loc h, h1.loc h, h2.loc h⟩
 mono := fun h ⟨_, _, _, _, _, _, _, _, _, e, h0, h1, h2⟩ => ⟨_, _, _, _, _, _, _, _, _, e, h0.mono h, h1.mono h, h2.mono h⟩
 len := fun ⟨_, _, _, _, _, _, _, _, _, e, _⟩ => by rw [e]; rfl
 one := fun ⟨_, _, _, _, _, _, _, _, _, e, _⟩ => by rw [e]; rfl
structure DS41 where
 e0 : (List DValue)
 e1 : (List DValue)
 deriving DecidableEq, Inhabited
def IU : Rep DS41 where
 sz := 2
 rel S w vs x := ∃ A0 n0 c0 A1 n1 c1, vs = [.slice A0 n0 c0, .slice A1 n1 c1] ∧ SlR aw S w (.slice A0 n0 c0) x.e0 ∧ SlR aw S w (.slice A1 n1 c1) x.e1
 loc := fun h ⟨_, _, _, _, _, _, e, h0, h1⟩ => ⟨_, _, _, _, _, _, e, h0.loc h, h1.loc h⟩
 mono := fun h ⟨_, _, _, _, _, _, e, h0, h1⟩ => ⟨_, _, _, _, _, _, e, h0.mono h, h1.mono h⟩
 len := fun ⟨_, _, _, _, _, _, e, _⟩ => by rw [e]; rfl
 one := fun ⟨_, _, _, _, _, _, e, _⟩ => by rw [e]; rfl
structure DMeeter where
 m_ : DMemory
 kept_ : (List Int)
 met_ : (List Int)
 seen_ : (List (Int × Bool))
 next_ : Int
 deriving DecidableEq, Inhabited
structure DSet where
 at_ : (List (Int × Bool))
 deriving DecidableEq, Inhabited
abbrev av (A : Option Addr) (n c : Nat) := dq aw (.slice A n c)
abbrev aF (A : Option Addr) (n c : Nat) := dq bO (.slice A n c)
abbrev br (A : Option Addr) (n c : Nat) := dz (dS .i64) 3 (.slice A n c)
abbrev bD (A : Option Addr) (n c : Nat) := dz aw 38 (.slice A n c)
abbrev cz (A : Option Addr) (n c : Nat) := dz bO 32 (.slice A n c)
abbrev cm (A : Option Addr) (n c : Nat) := dq (dS .i64) (.slice A n c)
theorem HX : ax Tryz.prog 10 := ⟨Tryz.f10, Tryz.func10, rfl, rfl⟩
theorem nW : ax Tryz.prog 13 := ⟨Tryz.f13, Tryz.func13, rfl, rfl⟩
theorem xq : ax Tryz.prog 16 := ⟨Tryz.f16, Tryz.func16, rfl, rfl⟩
theorem HW : ax Tryz.prog 18 := ⟨Tryz.f18, Tryz.func18, rfl, rfl⟩
theorem FI : ax Tryz.prog 20 := ⟨Tryz.f20, Tryz.func20, rfl, rfl⟩
theorem FH : ax Tryz.prog 23 := ⟨Tryz.f23, Tryz.func23, rfl, rfl⟩
theorem Cw : ax Tryz.prog 25 := ⟨Tryz.f25, Tryz.func25, rfl, rfl⟩
theorem HV : ax Tryz.prog 28 := ⟨Tryz.f28, Tryz.func28, rfl, rfl⟩
theorem FG : ax Tryz.prog 30 := ⟨Tryz.f30, Tryz.func30, rfl, rfl⟩
theorem zR : ax Tryz.prog 31 := ⟨Tryz.f31, Tryz.func31, rfl, rfl⟩
theorem HU : ax Tryz.prog 33 := ⟨Tryz.f33, Tryz.func33, rfl, rfl⟩
theorem HT : ax Tryz.prog 35 := ⟨Tryz.f35, Tryz.func35, rfl, rfl⟩
theorem HS : ax Tryz.prog 43 := ⟨Tryz.f43, Tryz.func43, rfl, rfl⟩
theorem HR : ax Tryz.prog 44 := ⟨Tryz.f44, Tryz.func44, rfl, rfl⟩
theorem HQ : ax Tryz.prog 45 := ⟨Tryz.f45, Tryz.func45, rfl, rfl⟩
theorem HP : ax Tryz.prog 46 := ⟨Tryz.f46, Tryz.func46, rfl, rfl⟩
theorem FF : ax Tryz.prog 49 := ⟨Tryz.f49, Tryz.func49, rfl, rfl⟩
theorem Cu : ax Tryz.prog 50 := ⟨Tryz.f50, Tryz.func50, rfl, rfl⟩
theorem zQ : ax Tryz.prog 51 := ⟨Tryz.f51, Tryz.func51, rfl, rfl⟩
theorem FE : ax Tryz.prog 52 := ⟨Tryz.f52, Tryz.func52, rfl, rfl⟩
theorem sq : ax Tryz.prog 53 := ⟨Tryz.f53, Tryz.func53, rfl, rfl⟩
theorem so : ax Tryz.prog 54 := ⟨Tryz.f54, Tryz.func54, rfl, rfl⟩
theorem sm : ax Tryz.prog 55 := ⟨Tryz.f55, Tryz.func55, rfl, rfl⟩
theorem zP : ax Tryz.prog 56 := ⟨Tryz.f56, Tryz.func56, rfl, rfl⟩
theorem HO : ax Tryz.prog 60 := ⟨Tryz.f60, Tryz.func60, rfl, rfl⟩
theorem HN : ax Tryz.prog 62 := ⟨Tryz.f62, Tryz.func62, rfl, rfl⟩
theorem HM : ax Tryz.prog 66 := ⟨Tryz.f66, Tryz.func66, rfl, rfl⟩
theorem HL : ax Tryz.prog 67 := ⟨Tryz.f67, Tryz.func67, rfl, rfl⟩
theorem FD : ax Tryz.prog 68 := ⟨Tryz.f68, Tryz.func68, rfl, rfl⟩
theorem FC : ax Tryz.prog 70 := ⟨Tryz.f70, Tryz.func70, rfl, rfl⟩
theorem Ct : ax Tryz.prog 71 := ⟨Tryz.f71, Tryz.func71, rfl, rfl⟩
theorem FB : ax Tryz.prog 72 := ⟨Tryz.f72, Tryz.func72, rfl, rfl⟩
theorem sk : ax Tryz.prog 76 := ⟨Tryz.f76, Tryz.func76, rfl, rfl⟩
theorem mV : ax Tryz.prog 77 := ⟨Tryz.f77, Tryz.func77, rfl, rfl⟩
theorem HK : ax Tryz.prog 78 := ⟨Tryz.f78, Tryz.func78, rfl, rfl⟩
theorem Cs : ax Tryz.prog 79 := ⟨Tryz.f79, Tryz.func79, rfl, rfl⟩
theorem Cr : ax Tryz.prog 80 := ⟨Tryz.f80, Tryz.func80, rfl, rfl⟩
theorem FA : ax Tryz.prog 81 := ⟨Tryz.f81, Tryz.func81, rfl, rfl⟩
theorem zO : ax Tryz.prog 82 := ⟨Tryz.f82, Tryz.func82, rfl, rfl⟩
theorem HJ : ax Tryz.prog 95 := ⟨Tryz.f95, Tryz.func95, rfl, rfl⟩
theorem HI : ax Tryz.prog 96 := ⟨Tryz.f96, Tryz.func96, rfl, rfl⟩
theorem HH : ax Tryz.prog 97 := ⟨Tryz.f97, Tryz.func97, rfl, rfl⟩
theorem HG : ax Tryz.prog 98 := ⟨Tryz.f98, Tryz.func98, rfl, rfl⟩
theorem HF : ax Tryz.prog 99 := ⟨Tryz.f99, Tryz.func99, rfl, rfl⟩
theorem Dl : ax Tryz.prog 100 := ⟨Tryz.f100, Tryz.func100, rfl, rfl⟩
theorem vI : ax Tryz.prog 101 := ⟨Tryz.f101, Tryz.func101, rfl, rfl⟩
theorem Dk : ax Tryz.prog 102 := ⟨Tryz.f102, Tryz.func102, rfl, rfl⟩
theorem zW : ax Tryz.prog 103 := ⟨Tryz.f103, Tryz.func103, rfl, rfl⟩
theorem tK : ax Tryz.prog 104 := ⟨Tryz.f104, Tryz.func104, rfl, rfl⟩
theorem tJ : ax Tryz.prog 105 := ⟨Tryz.f105, Tryz.func105, rfl, rfl⟩
theorem Dj : ax Tryz.prog 106 := ⟨Tryz.f106, Tryz.func106, rfl, rfl⟩
theorem G8 : ax Tryz.prog 107 := ⟨Tryz.f107, Tryz.func107, rfl, rfl⟩
theorem zV : ax Tryz.prog 108 := ⟨Tryz.f108, Tryz.func108, rfl, rfl⟩
theorem Di : ax Tryz.prog 109 := ⟨Tryz.f109, Tryz.func109, rfl, rfl⟩
theorem G7 : ax Tryz.prog 110 := ⟨Tryz.f110, Tryz.func110, rfl, rfl⟩
theorem G6 : ax Tryz.prog 111 := ⟨Tryz.f111, Tryz.func111, rfl, rfl⟩
theorem G5 : ax Tryz.prog 112 := ⟨Tryz.f112, Tryz.func112, rfl, rfl⟩
theorem G4 : ax Tryz.prog 113 := ⟨Tryz.f113, Tryz.func113, rfl, rfl⟩
theorem Dh : ax Tryz.prog 114 := ⟨Tryz.f114, Tryz.func114, rfl, rfl⟩
theorem G3 : ax Tryz.prog 117 := ⟨Tryz.f117, Tryz.func117, rfl, rfl⟩
theorem zU : ax Tryz.prog 118 := ⟨Tryz.f118, Tryz.func118, rfl, rfl⟩
theorem Dg : ax Tryz.prog 122 := ⟨Tryz.f122, Tryz.func122, rfl, rfl⟩
theorem Df : ax Tryz.prog 124 := ⟨Tryz.f124, Tryz.func124, rfl, rfl⟩
theorem G2 : ax Tryz.prog 125 := ⟨Tryz.f125, Tryz.func125, rfl, rfl⟩
theorem G1 : ax Tryz.prog 126 := ⟨Tryz.f126, Tryz.func126, rfl, rfl⟩
theorem G0 : ax Tryz.prog 127 := ⟨Tryz.f127, Tryz.func127, rfl, rfl⟩
theorem GZ : ax Tryz.prog 130 := ⟨Tryz.f130, Tryz.func130, rfl, rfl⟩
theorem zT : ax Tryz.prog 131 := ⟨Tryz.f131, Tryz.func131, rfl, rfl⟩
theorem De : ax Tryz.prog 132 := ⟨Tryz.f132, Tryz.func132, rfl, rfl⟩
theorem GY : ax Tryz.prog 133 := ⟨Tryz.f133, Tryz.func133, rfl, rfl⟩
theorem GX : ax Tryz.prog 134 := ⟨Tryz.f134, Tryz.func134, rfl, rfl⟩
theorem GW : ax Tryz.prog 135 := ⟨Tryz.f135, Tryz.func135, rfl, rfl⟩
theorem GV : ax Tryz.prog 136 := ⟨Tryz.f136, Tryz.func136, rfl, rfl⟩
theorem GU : ax Tryz.prog 137 := ⟨Tryz.f137, Tryz.func137, rfl, rfl⟩
theorem GT : ax Tryz.prog 149 := ⟨Tryz.f149, Tryz.func149, rfl, rfl⟩
theorem Dd : ax Tryz.prog 150 := ⟨Tryz.f150, Tryz.func150, rfl, rfl⟩
theorem GS : ax Tryz.prog 151 := ⟨Tryz.f151, Tryz.func151, rfl, rfl⟩
theorem GR : ax Tryz.prog 152 := ⟨Tryz.f152, Tryz.func152, rfl, rfl⟩
theorem Dc : ax Tryz.prog 153 := ⟨Tryz.f153, Tryz.func153, rfl, rfl⟩
theorem vH : ax Tryz.prog 154 := ⟨Tryz.f154, Tryz.func154, rfl, rfl⟩
theorem Db : ax Tryz.prog 155 := ⟨Tryz.f155, Tryz.func155, rfl, rfl⟩
theorem GQ : ax Tryz.prog 156 := ⟨Tryz.f156, Tryz.func156, rfl, rfl⟩
theorem GP : ax Tryz.prog 157 := ⟨Tryz.f157, Tryz.func157, rfl, rfl⟩
theorem GO : ax Tryz.prog 158 := ⟨Tryz.f158, Tryz.func158, rfl, rfl⟩
theorem GN : ax Tryz.prog 159 := ⟨Tryz.f159, Tryz.func159, rfl, rfl⟩
theorem zS : ax Tryz.prog 160 := ⟨Tryz.f160, Tryz.func160, rfl, rfl⟩
theorem Da : ax Tryz.prog 162 := ⟨Tryz.f162, Tryz.func162, rfl, rfl⟩
theorem GM : ax Tryz.prog 163 := ⟨Tryz.f163, Tryz.func163, rfl, rfl⟩
theorem qT : ax Tryz.prog 164 := ⟨Tryz.f164, Tryz.func164, rfl, rfl⟩
theorem qS : ax Tryz.prog 165 := ⟨Tryz.f165, Tryz.func165, rfl, rfl⟩
theorem C9 : ax Tryz.prog 166 := ⟨Tryz.f166, Tryz.func166, rfl, rfl⟩
theorem C8 : ax Tryz.prog 179 := ⟨Tryz.f179, Tryz.func179, rfl, rfl⟩
theorem GL : ax Tryz.prog 180 := ⟨Tryz.f180, Tryz.func180, rfl, rfl⟩
theorem GK : ax Tryz.prog 186 := ⟨Tryz.f186, Tryz.func186, rfl, rfl⟩
theorem GJ : ax Tryz.prog 187 := ⟨Tryz.f187, Tryz.func187, rfl, rfl⟩
theorem GI : ax Tryz.prog 188 := ⟨Tryz.f188, Tryz.func188, rfl, rfl⟩
theorem GH : ax Tryz.prog 189 := ⟨Tryz.f189, Tryz.func189, rfl, rfl⟩
theorem C7 : ax Tryz.prog 190 := ⟨Tryz.f190, Tryz.func190, rfl, rfl⟩
theorem GG : ax Tryz.prog 191 := ⟨Tryz.f191, Tryz.func191, rfl, rfl⟩
theorem C6 : ax Tryz.prog 198 := ⟨Tryz.f198, Tryz.func198, rfl, rfl⟩
theorem GF : ax Tryz.prog 199 := ⟨Tryz.f199, Tryz.func199, rfl, rfl⟩
theorem GE : ax Tryz.prog 200 := ⟨Tryz.f200, Tryz.func200, rfl, rfl⟩
theorem GD : ax Tryz.prog 201 := ⟨Tryz.f201, Tryz.func201, rfl, rfl⟩
theorem tz (b o : Nat) (w : World) : (Instr.fieldAt 24 (pV b o) 0).run Tryz.prog w = .ok (pV b o) w := by kernel_rfl
theorem jS (b o : Nat) (w : World) : (Instr.fieldAt 24 (pV b o) 1).run Tryz.prog w = .ok (.pointer (some ⟨b, o + 1, none⟩)) w := by kernel_rfl
theorem GA (b o : Nat) (w : World) : (Instr.fieldAt 32 (pV b o) 0).run Tryz.prog w = .ok (pV b o) w := by kernel_rfl
theorem Gz (b o : Nat) (w : World) : (Instr.fieldAt 32 (pV b o) 1).run Tryz.prog w = .ok (.pointer (some ⟨b, o + 1, none⟩)) w := by kernel_rfl
theorem Gy (b o : Nat) (w : World) : (Instr.fieldAt 32 (pV b o) 2).run Tryz.prog w = .ok (.pointer (some ⟨b, o + 2, none⟩)) w := by kernel_rfl
theorem Gx (b o : Nat) (w : World) : (Instr.fieldAt 32 (pV b o) 3).run Tryz.prog w = .ok (.pointer (some ⟨b, o + 3, none⟩)) w := by kernel_rfl
theorem oY (b o : Nat) (w : World) : (Instr.fieldAt 32 (pV b o) 4).run Tryz.prog w = .ok (.pointer (some ⟨b, o + 4, none⟩)) w := by kernel_rfl
theorem gn (b o : Nat) (w : World) : (Instr.fieldAt 32 (pV b o) 5).run Tryz.prog w = .ok (.pointer (some ⟨b, o + 5, none⟩)) w := by kernel_rfl
theorem kP (b o : Nat) (w : World) : (Instr.fieldAt 38 (pV b o) 0).run Tryz.prog w = .ok (pV b o) w := by kernel_rfl
theorem qR (b o : Nat) (w : World) : (Instr.fieldAt 38 (pV b o) 1).run Tryz.prog w = .ok (.pointer (some ⟨b, o + 1, none⟩)) w := by kernel_rfl
theorem Gw (b o : Nat) (w : World) : (Instr.fieldAt 38 (pV b o) 2).run Tryz.prog w = .ok (.pointer (some ⟨b, o + 2, none⟩)) w := by kernel_rfl
theorem C0 (b o : Nat) (w : World) : (Instr.fieldAt 79 (pV b o) 0).run Tryz.prog w = .ok (pV b o) w := by kernel_rfl
theorem vD (b o : Nat) (w : World) : (Instr.fieldAt 79 (pV b o) 1).run Tryz.prog w = .ok (.pointer (some ⟨b, o + 2, none⟩)) w := by kernel_rfl
theorem Gv (b o : Nat) (w : World) : (Instr.fieldAt 79 (pV b o) 2).run Tryz.prog w = .ok (.pointer (some ⟨b, o + 3, none⟩)) w := by kernel_rfl
theorem zG (b o : Nat) (w : World) : (Instr.fieldAt 79 (pV b o) 3).run Tryz.prog w = .ok (.pointer (some ⟨b, o + 4, none⟩)) w := by kernel_rfl
theorem vC (b o : Nat) (w : World) : (Instr.fieldAt 90 (pV b o) 0).run Tryz.prog w = .ok (pV b o) w := by kernel_rfl
theorem vB (b o : Nat) (w : World) : (Instr.fieldAt 90 (pV b o) 1).run Tryz.prog w = .ok (.pointer (some ⟨b, o + 2, none⟩)) w := by kernel_rfl
theorem qQ (b o : Nat) (w : World) : (Instr.fieldAt 90 (pV b o) 2).run Tryz.prog w = .ok (.pointer (some ⟨b, o + 4, none⟩)) w := by kernel_rfl
theorem qP (b o : Nat) (w : World) : (Instr.fieldAt 90 (pV b o) 3).run Tryz.prog w = .ok (.pointer (some ⟨b, o + 5, none⟩)) w := by kernel_rfl
theorem CZ (b o : Nat) (w : World) : (Instr.fieldAt 90 (pV b o) 4).run Tryz.prog w = .ok (.pointer (some ⟨b, o + 6, none⟩)) w := by kernel_rfl
theorem CY (b o : Nat) (w : World) : (Instr.fieldAt 90 (pV b o) 5).run Tryz.prog w = .ok (.pointer (some ⟨b, o + 7, none⟩)) w := by kernel_rfl
theorem AT (b o : Nat) (w : World) : (Instr.fieldAt 109 (pV b o) 0).run Tryz.prog w = .ok (pV b o) w := by kernel_rfl
theorem AS (b o : Nat) (w : World) : (Instr.fieldAt 109 (pV b o) 1).run Tryz.prog w = .ok (.pointer (some ⟨b, o + 2, none⟩)) w := by kernel_rfl
theorem lg (b o : Nat) (w : World) : (Instr.fieldAt 109 (pV b o) 2).run Tryz.prog w = .ok (.pointer (some ⟨b, o + 3, none⟩)) w := by kernel_rfl
theorem Fj (b o : Nat) (w : World) : (Instr.fieldAt 109 (pV b o) 3).run Tryz.prog w = .ok (.pointer (some ⟨b, o + 4, none⟩)) w := by kernel_rfl
theorem xf (b o : Nat) (w : World) : (Instr.fieldAt 109 (pV b o) 4).run Tryz.prog w = .ok (.pointer (some ⟨b, o + 5, none⟩)) w := by kernel_rfl
theorem Fi (b o : Nat) (w : World) : (Instr.fieldAt 113 (pV b o) 0).run Tryz.prog w = .ok (pV b o) w := by kernel_rfl
theorem eo : iN Tryz.prog 3 = true := by kernel_rfl
theorem BV : iN Tryz.prog 4 = true := by kernel_rfl
theorem IB : iN Tryz.prog 9 = true := by kernel_rfl
theorem gU : iN Tryz.prog 22 = true := by kernel_rfl
theorem fe : iN Tryz.prog 25 = true := by kernel_rfl
theorem dE : iN Tryz.prog 35 = true := by kernel_rfl
theorem Ia : iN Tryz.prog 77 = true := by kernel_rfl
theorem H9 : iN Tryz.prog 80 = true := by kernel_rfl
theorem rG : iN Tryz.prog 88 = true := by kernel_rfl
theorem BW : iN Tryz.prog 107 = true := by kernel_rfl
theorem Hw : iN Tryz.prog 123 = true := by kernel_rfl
theorem cN : uv Tryz.prog 24 2 = true := by kernel_rfl
theorem bu : uv Tryz.prog 32 6 = true := by kernel_rfl
theorem ca : uv Tryz.prog 38 3 = true := by kernel_rfl
theorem dD : dX Tryz.prog 3 1 = true := by kernel_rfl
theorem vY : dX Tryz.prog 4 1 = true := by kernel_rfl
theorem nL : dX Tryz.prog 22 1 = true := by kernel_rfl
theorem lw : dX Tryz.prog 24 2 = true := by kernel_rfl
theorem iL : dX Tryz.prog 25 1 = true := by kernel_rfl
theorem bz : dX Tryz.prog 32 6 = true := by kernel_rfl
theorem iK : dX Tryz.prog 35 1 = true := by kernel_rfl
theorem bh : dX Tryz.prog 38 3 = true := by kernel_rfl
theorem Ht : dX Tryz.prog 80 1 = true := by kernel_rfl
theorem Hs : dX Tryz.prog 88 1 = true := by kernel_rfl
theorem Ga : dX Tryz.prog 107 1 = true := by kernel_rfl
theorem CK : dX Tryz.prog 152 0 = true := by kernel_rfl
theorem uy (w : World) : (zeroValue 3).run Tryz.prog w = .ok (iV 0) w := by kernel_rfl
theorem Ae (w : World) : (zeroValue 4).run Tryz.prog w = .ok (.bool false) w := by kernel_rfl
theorem nI (w : World) : (zeroValue 24).run Tryz.prog w = .ok (.agg #[.slice none 0 0, .slice none 0 0]) w := by kernel_rfl
theorem Ey (w : World) : (zeroValue 25).run Tryz.prog w = .ok (.slice none 0 0) w := by kernel_rfl
theorem dR (w : World) : (zeroValue 32).run Tryz.prog w = .ok (.agg #[iV 0, iV 0, iV 0, iV 0, .slice none 0 0, .slice none 0 0]) w := by kernel_rfl
theorem vP (w : World) : (zeroValue 35).run Tryz.prog w = .ok (.slice none 0 0) w := by kernel_rfl
theorem f4 (w : World) : (zeroValue 38).run Tryz.prog w = .ok (.agg #[iV 0, iV 0, .string ⟨#[]⟩]) w := by kernel_rfl
theorem Hr (w : World) : (zeroValue 80).run Tryz.prog w = .ok (.pointer none) w := by kernel_rfl
theorem Hq (w : World) : (zeroValue 88).run Tryz.prog w = .ok (.map none) w := by kernel_rfl
theorem F4 (w : World) : (zeroValue 107).run Tryz.prog w = .ok (.map none) w := by kernel_rfl
theorem vq (w : World) : (zeroValue 152).run Tryz.prog w = .ok (.agg #[]) w := by kernel_rfl
theorem Fg (x0_ : Int) (x1_ : Int) (x2_ : Int) (x3_ : Int) (x4_a : Option Addr) (x4_n x4_c : Nat) (x5_a : Option Addr) (x5_n x5_c : Nat) (w : World) : (Instr.field 32 (.agg #[iV x0_, iV x1_, iV x2_, iV x3_, .slice x4_a x4_n x4_c, .slice x5_a x5_n x5_c]) 3).run Tryz.prog w = .ok (iV x3_) w := by kernel_rfl
theorem Ff (x0_ : Int) (x1_ : Int) (x2_ : Int) (x3_ : Int) (x4_a : Option Addr) (x4_n x4_c : Nat) (x5_a : Option Addr) (x5_n x5_c : Nat) (w : World) : (Instr.field 32 (.agg #[iV x0_, iV x1_, iV x2_, iV x3_, .slice x4_a x4_n x4_c, .slice x5_a x5_n x5_c]) 5).run Tryz.prog w = .ok (.slice x5_a x5_n x5_c) w := by kernel_rfl
theorem Dn  (w : World) : (Instr.build 24 #[]).run Tryz.prog w = .ok (.agg #[.slice none 0 0, .slice none 0 0]) w := by kernel_rfl
theorem xv (x0_a : Option Addr) (x0_n x0_c : Nat) (x1_a : Option Addr) (x1_n x1_c : Nat) (w : World) : (Instr.build 24 #[(0, .slice x0_a x0_n x0_c), (1, .slice x1_a x1_n x1_c)]).run Tryz.prog w = .ok (.agg #[.slice x0_a x0_n x0_c, .slice x1_a x1_n x1_c]) w := by kernel_rfl
theorem FS (x1_a : Option Addr) (x1_n x1_c : Nat) (w : World) : (Instr.build 24 #[(1, .slice x1_a x1_n x1_c)]).run Tryz.prog w = .ok (.agg #[.slice none 0 0, .slice x1_a x1_n x1_c]) w := by kernel_rfl
theorem zY  (w : World) : (Instr.build 32 #[]).run Tryz.prog w = .ok (.agg #[iV 0, iV 0, iV 0, iV 0, .slice none 0 0, .slice none 0 0]) w := by kernel_rfl
theorem zX (x0_ : Int) (x4_a : Option Addr) (x4_n x4_c : Nat) (x5_a : Option Addr) (x5_n x5_c : Nat) (w : World) : (Instr.build 32 #[(0, iV x0_), (4, .slice x4_a x4_n x4_c), (5, .slice x5_a x5_n x5_c)]).run Tryz.prog w = .ok (.agg #[iV x0_, iV 0, iV 0, iV 0, .slice x4_a x4_n x4_c, .slice x5_a x5_n x5_c]) w := by kernel_rfl
theorem Cz (x0_ : Int) (x5_a : Option Addr) (x5_n x5_c : Nat) (w : World) : (Instr.build 32 #[(0, iV x0_), (5, .slice x5_a x5_n x5_c)]).run Tryz.prog w = .ok (.agg #[iV x0_, iV 0, iV 0, iV 0, .slice none 0 0, .slice x5_a x5_n x5_c]) w := by kernel_rfl
theorem FR (x5_a : Option Addr) (x5_n x5_c : Nat) (w : World) : (Instr.build 32 #[(5, .slice x5_a x5_n x5_c)]).run Tryz.prog w = .ok (.agg #[iV 0, iV 0, iV 0, iV 0, .slice none 0 0, .slice x5_a x5_n x5_c]) w := by kernel_rfl
theorem Dm  (w : World) : (Instr.build 38 #[]).run Tryz.prog w = .ok (.agg #[iV 0, iV 0, .string ⟨#[]⟩]) w := by kernel_rfl
theorem FQ (x0_ : Int) (w : World) : (Instr.build 38 #[(0, iV x0_)]).run Tryz.prog w = .ok (.agg #[iV x0_, iV 0, .string ⟨#[]⟩]) w := by kernel_rfl
theorem sr (x0_ : Int) (x1_ : Int) (w : World) : (Instr.build 38 #[(0, iV x0_), (1, iV x1_)]).run Tryz.prog w = .ok (.agg #[iV x0_, iV x1_, .string ⟨#[]⟩]) w := by kernel_rfl
theorem Cy (x0_0_a : Option Addr) (x0_0_n x0_0_c : Nat) (x0_1_a : Option Addr) (x0_1_n x0_1_c : Nat) (x2_ : Option Nat) (w : World) : (Instr.build 79 #[(0, .agg #[.slice x0_0_a x0_0_n x0_0_c, .slice x0_1_a x0_1_n x0_1_c]), (2, .map x2_)]).run Tryz.prog w = .ok (.agg #[.slice x0_0_a x0_0_n x0_0_c, .slice x0_1_a x0_1_n x0_1_c, .slice none 0 0, .map x2_, iV 0]) w := by kernel_rfl
theorem xu (x0_0_a : Option Addr) (x0_0_n x0_0_c : Nat) (x0_1_a : Option Addr) (x0_1_n x0_1_c : Nat) (x1_0_a : Option Addr) (x1_0_n x1_0_c : Nat) (x1_1_a : Option Addr) (x1_1_n x1_1_c : Nat) (x4_ : Option Nat) (x5_ : Option Nat) (w : World) : (Instr.build 90 #[(0, .agg #[.slice x0_0_a x0_0_n x0_0_c, .slice x0_1_a x0_1_n x0_1_c]), (1, .agg #[.slice x1_0_a x1_0_n x1_0_c, .slice x1_1_a x1_1_n x1_1_c]), (4, .map x4_), (5, .map x5_)]).run Tryz.prog w = .ok (.agg #[.slice x0_0_a x0_0_n x0_0_c, .slice x0_1_a x0_1_n x0_1_c, .slice x1_0_a x1_0_n x1_0_c, .slice x1_1_a x1_1_n x1_1_c, .slice none 0 0, .slice none 0 0, .map x4_, .map x5_]) w := by kernel_rfl
theorem xQ (x0_0_a : Option Addr) (x0_0_n x0_0_c : Nat) (x0_1_a : Option Addr) (x0_1_n x0_1_c : Nat) (x1_a : Option Addr) (x1_n x1_c : Nat) (x3_ : Option Nat) (w : World) : (Instr.build 109 #[(0, .agg #[.slice x0_0_a x0_0_n x0_0_c, .slice x0_1_a x0_1_n x0_1_c]), (1, .slice x1_a x1_n x1_c), (3, .map x3_)]).run Tryz.prog w = .ok (.agg #[.slice x0_0_a x0_0_n x0_0_c, .slice x0_1_a x0_1_n x0_1_c, .slice x1_a x1_n x1_c, .slice none 0 0, .map x3_, iV 0]) w := by kernel_rfl
theorem Ei (x0_ : Option Nat) (w : World) : (Instr.build 113 #[(0, .map x0_)]).run Tryz.prog w = .ok (.agg #[.map x0_]) w := by kernel_rfl
theorem Bk  (w : World) : (Instr.build 152 #[]).run Tryz.prog w = .ok (.agg #[]) w := by kernel_rfl
theorem FP  (w : World) : (Instr.buildSlice 22 0 #[]).run Tryz.prog w = .ok (.slice (some ⟨w.heap.size, 0, none⟩) 0 0) (w.alloc (.cells #[] 32)) := by kernel_rfl
theorem tL (x0_0_ : Int) (x0_1_ : Int) (x0_2_ : Int) (x0_3_ : Int) (x0_4_a : Option Addr) (x0_4_n x0_4_c : Nat) (x0_5_a : Option Addr) (x0_5_n x0_5_c : Nat) (w : World) : (Instr.buildSlice 22 1 #[(0, .agg #[iV x0_0_, iV x0_1_, iV x0_2_, iV x0_3_, .slice x0_4_a x0_4_n x0_4_c, .slice x0_5_a x0_5_n x0_5_c])]).run Tryz.prog w = .ok (.slice (some ⟨w.heap.size, 0, none⟩) 1 1) (w.alloc (.cells #[iV x0_0_, iV x0_1_, iV x0_2_, iV x0_3_, .slice x0_4_a x0_4_n x0_4_c, .slice x0_5_a x0_5_n x0_5_c] 32)) := by kernel_rfl
theorem Bj (x0_0_ : Int) (x0_1_ : Int) (x0_2_ : Int) (x0_3_ : Int) (x0_4_a : Option Addr) (x0_4_n x0_4_c : Nat) (x0_5_a : Option Addr) (x0_5_n x0_5_c : Nat) (x1_0_ : Int) (x1_1_ : Int) (x1_2_ : Int) (x1_3_ : Int) (x1_4_a : Option Addr) (x1_4_n x1_4_c : Nat) (x1_5_a : Option Addr) (x1_5_n x1_5_c : Nat) (w : World) : (Instr.buildSlice 22 2 #[(0, .agg #[iV x0_0_, iV x0_1_, iV x0_2_, iV x0_3_, .slice x0_4_a x0_4_n x0_4_c, .slice x0_5_a x0_5_n x0_5_c]), (1, .agg #[iV x1_0_, iV x1_1_, iV x1_2_, iV x1_3_, .slice x1_4_a x1_4_n x1_4_c, .slice x1_5_a x1_5_n x1_5_c])]).run Tryz.prog w = .ok (.slice (some ⟨w.heap.size, 0, none⟩) 2 2) (w.alloc (.cells #[iV x0_0_, iV x0_1_, iV x0_2_, iV x0_3_, .slice x0_4_a x0_4_n x0_4_c, .slice x0_5_a x0_5_n x0_5_c, iV x1_0_, iV x1_1_, iV x1_2_, iV x1_3_, .slice x1_4_a x1_4_n x1_4_c, .slice x1_5_a x1_5_n x1_5_c] 32)) := by kernel_rfl
theorem FO (x0_0_ : Int) (x0_1_ : Int) (x0_2_ : Int) (x0_3_ : Int) (x0_4_a : Option Addr) (x0_4_n x0_4_c : Nat) (x0_5_a : Option Addr) (x0_5_n x0_5_c : Nat) (x1_0_ : Int) (x1_1_ : Int) (x1_2_ : Int) (x1_3_ : Int) (x1_4_a : Option Addr) (x1_4_n x1_4_c : Nat) (x1_5_a : Option Addr) (x1_5_n x1_5_c : Nat) (x2_0_ : Int) (x2_1_ : Int) (x2_2_ : Int) (x2_3_ : Int) (x2_4_a : Option Addr) (x2_4_n x2_4_c : Nat) (x2_5_a : Option Addr) (x2_5_n x2_5_c : Nat) (x3_0_ : Int) (x3_1_ : Int) (x3_2_ : Int) (x3_3_ : Int) (x3_4_a : Option Addr) (x3_4_n x3_4_c : Nat) (x3_5_a : Option Addr) (x3_5_n x3_5_c : Nat) (w : World) : (Instr.buildSlice 22 4 #[(0, .agg #[iV x0_0_, iV x0_1_, iV x0_2_, iV x0_3_, .slice x0_4_a x0_4_n x0_4_c, .slice x0_5_a x0_5_n x0_5_c]), (1, .agg #[iV x1_0_, iV x1_1_, iV x1_2_, iV x1_3_, .slice x1_4_a x1_4_n x1_4_c, .slice x1_5_a x1_5_n x1_5_c]), (2, .agg #[iV x2_0_, iV x2_1_, iV x2_2_, iV x2_3_, .slice x2_4_a x2_4_n x2_4_c, .slice x2_5_a x2_5_n x2_5_c]), (3, .agg #[iV x3_0_, iV x3_1_, iV x3_2_, iV x3_3_, .slice x3_4_a x3_4_n x3_4_c, .slice x3_5_a x3_5_n x3_5_c])]).run Tryz.prog w = .ok (.slice (some ⟨w.heap.size, 0, none⟩) 4 4) (w.alloc (.cells #[iV x0_0_, iV x0_1_, iV x0_2_, iV x0_3_, .slice x0_4_a x0_4_n x0_4_c, .slice x0_5_a x0_5_n x0_5_c, iV x1_0_, iV x1_1_, iV x1_2_, iV x1_3_, .slice x1_4_a x1_4_n x1_4_c, .slice x1_5_a x1_5_n x1_5_c, iV x2_0_, iV x2_1_, iV x2_2_, iV x2_3_, .slice x2_4_a x2_4_n x2_4_c, .slice x2_5_a x2_5_n x2_5_c, iV x3_0_, iV x3_1_, iV x3_2_, iV x3_3_, .slice x3_4_a x3_4_n x3_4_c, .slice x3_5_a x3_5_n x3_5_c] 32)) := by kernel_rfl
theorem FN  (w : World) : (Instr.buildSlice 25 0 #[]).run Tryz.prog w = .ok (.slice (some ⟨w.heap.size, 0, none⟩) 0 0) (w.alloc (.cells #[] 38)) := by kernel_rfl
theorem mW (x0_0_ : Int) (x0_1_ : Int) (x0_2_ : ByteArray) (w : World) : (Instr.buildSlice 25 1 #[(0, .agg #[iV x0_0_, iV x0_1_, .string x0_2_])]).run Tryz.prog w = .ok (.slice (some ⟨w.heap.size, 0, none⟩) 1 1) (w.alloc (.cells #[iV x0_0_, iV x0_1_, .string x0_2_] 38)) := by kernel_rfl
theorem FM (x0_0_ : Int) (x0_1_ : Int) (x0_2_ : ByteArray) (x1_0_ : Int) (x1_1_ : Int) (x1_2_ : ByteArray) (w : World) : (Instr.buildSlice 25 2 #[(0, .agg #[iV x0_0_, iV x0_1_, .string x0_2_]), (1, .agg #[iV x1_0_, iV x1_1_, .string x1_2_])]).run Tryz.prog w = .ok (.slice (some ⟨w.heap.size, 0, none⟩) 2 2) (w.alloc (.cells #[iV x0_0_, iV x0_1_, .string x0_2_, iV x1_0_, iV x1_1_, .string x1_2_] 38)) := by kernel_rfl
theorem Bi (x0_0_ : Int) (x0_1_ : Int) (x0_2_ : ByteArray) (x1_0_ : Int) (x1_1_ : Int) (x1_2_ : ByteArray) (x2_0_ : Int) (x2_1_ : Int) (x2_2_ : ByteArray) (w : World) : (Instr.buildSlice 25 3 #[(0, .agg #[iV x0_0_, iV x0_1_, .string x0_2_]), (1, .agg #[iV x1_0_, iV x1_1_, .string x1_2_]), (2, .agg #[iV x2_0_, iV x2_1_, .string x2_2_])]).run Tryz.prog w = .ok (.slice (some ⟨w.heap.size, 0, none⟩) 3 3) (w.alloc (.cells #[iV x0_0_, iV x0_1_, .string x0_2_, iV x1_0_, iV x1_1_, .string x1_2_, iV x2_0_, iV x2_1_, .string x2_2_] 38)) := by kernel_rfl
theorem FL (x0_0_ : Int) (x0_1_ : Int) (x0_2_ : ByteArray) (x1_0_ : Int) (x1_1_ : Int) (x1_2_ : ByteArray) (x2_0_ : Int) (x2_1_ : Int) (x2_2_ : ByteArray) (x3_0_ : Int) (x3_1_ : Int) (x3_2_ : ByteArray) (w : World) : (Instr.buildSlice 25 4 #[(0, .agg #[iV x0_0_, iV x0_1_, .string x0_2_]), (1, .agg #[iV x1_0_, iV x1_1_, .string x1_2_]), (2, .agg #[iV x2_0_, iV x2_1_, .string x2_2_]), (3, .agg #[iV x3_0_, iV x3_1_, .string x3_2_])]).run Tryz.prog w = .ok (.slice (some ⟨w.heap.size, 0, none⟩) 4 4) (w.alloc (.cells #[iV x0_0_, iV x0_1_, .string x0_2_, iV x1_0_, iV x1_1_, .string x1_2_, iV x2_0_, iV x2_1_, .string x2_2_, iV x3_0_, iV x3_1_, .string x3_2_] 38)) := by kernel_rfl
theorem FK (x0_0_ : Int) (x0_1_ : Int) (x0_2_ : ByteArray) (x1_0_ : Int) (x1_1_ : Int) (x1_2_ : ByteArray) (x2_0_ : Int) (x2_1_ : Int) (x2_2_ : ByteArray) (x3_0_ : Int) (x3_1_ : Int) (x3_2_ : ByteArray) (x4_0_ : Int) (x4_1_ : Int) (x4_2_ : ByteArray) (w : World) : (Instr.buildSlice 25 5 #[(0, .agg #[iV x0_0_, iV x0_1_, .string x0_2_]), (1, .agg #[iV x1_0_, iV x1_1_, .string x1_2_]), (2, .agg #[iV x2_0_, iV x2_1_, .string x2_2_]), (3, .agg #[iV x3_0_, iV x3_1_, .string x3_2_]), (4, .agg #[iV x4_0_, iV x4_1_, .string x4_2_])]).run Tryz.prog w = .ok (.slice (some ⟨w.heap.size, 0, none⟩) 5 5) (w.alloc (.cells #[iV x0_0_, iV x0_1_, .string x0_2_, iV x1_0_, iV x1_1_, .string x1_2_, iV x2_0_, iV x2_1_, .string x2_2_, iV x3_0_, iV x3_1_, .string x3_2_, iV x4_0_, iV x4_1_, .string x4_2_] 38)) := by kernel_rfl
theorem gG (x0_ : Int) (w : World) : (Instr.buildSlice 35 1 #[(0, iV x0_)]).run Tryz.prog w = .ok (.slice (some ⟨w.heap.size, 0, none⟩) 1 1) (w.alloc (.cells #[iV x0_] 3)) := by kernel_rfl
theorem xt (x0_ : Int) (x1_ : Int) (w : World) : (Instr.buildSlice 35 2 #[(0, iV x0_), (1, iV x1_)]).run Tryz.prog w = .ok (.slice (some ⟨w.heap.size, 0, none⟩) 2 2) (w.alloc (.cells #[iV x0_, iV x1_] 3)) := by kernel_rfl
theorem xr (x0_a : Option Addr) (x0_n x0_c : Nat) (x1_a : Option Addr) (x1_n x1_c : Nat) (w : World) : (Instr.buildSlice 66 2 #[(0, .slice x0_a x0_n x0_c), (1, .slice x1_a x1_n x1_c)]).run Tryz.prog w = .ok (.slice (some ⟨w.heap.size, 0, none⟩) 2 2) (w.alloc (.cells #[.slice x0_a x0_n x0_c, .slice x1_a x1_n x1_c] 22)) := by kernel_rfl
theorem Eh (x0_a : Option Addr) (x0_n x0_c : Nat) (x1_a : Option Addr) (x1_n x1_c : Nat) (w : World) : (Instr.buildSlice 146 2 #[(0, .slice x0_a x0_n x0_c), (1, .slice x1_a x1_n x1_c)]).run Tryz.prog w = .ok (.slice (some ⟨w.heap.size, 0, none⟩) 2 2) (w.alloc (.cells #[.slice x0_a x0_n x0_c, .slice x1_a x1_n x1_c] 25)) := by kernel_rfl
theorem Eg (x0_a : Option Addr) (x0_n x0_c : Nat) (x1_a : Option Addr) (x1_n x1_c : Nat) (w : World) : (Instr.buildSlice 181 2 #[(0, .slice x0_a x0_n x0_c), (1, .slice x1_a x1_n x1_c)]).run Tryz.prog w = .ok (.slice (some ⟨w.heap.size, 0, none⟩) 2 2) (w.alloc (.cells #[.slice x0_a x0_n x0_c, .slice x1_a x1_n x1_c] 35)) := by kernel_rfl
theorem Ac : sy Tryz.prog 3 1 8 = true := by kernel_rfl
theorem Af : sy Tryz.prog 32 6 80 = true := by kernel_rfl
theorem Bt : sy Tryz.prog 38 3 32 = true := by kernel_rfl
instance : Fc (iN Tryz.prog 3 = true) := ⟨eo⟩
instance : Fc (iN Tryz.prog 4 = true) := ⟨BV⟩
instance : Fc (iN Tryz.prog 9 = true) := ⟨IB⟩
instance : Fc (iN Tryz.prog 22 = true) := ⟨gU⟩
instance : Fc (iN Tryz.prog 25 = true) := ⟨fe⟩
instance : Fc (iN Tryz.prog 35 = true) := ⟨dE⟩
instance : Fc (iN Tryz.prog 77 = true) := ⟨Ia⟩
instance : Fc (iN Tryz.prog 80 = true) := ⟨H9⟩
instance : Fc (iN Tryz.prog 88 = true) := ⟨rG⟩
instance : Fc (iN Tryz.prog 107 = true) := ⟨BW⟩
instance : Fc (iN Tryz.prog 123 = true) := ⟨Hw⟩
instance : FcA0 Tryz.prog 24 0 := ⟨tz⟩
instance : FcA Tryz.prog 24 1 1 := ⟨jS⟩
instance : FcA0 Tryz.prog 32 0 := ⟨GA⟩
instance : FcA Tryz.prog 32 1 1 := ⟨Gz⟩
instance : FcA Tryz.prog 32 2 2 := ⟨Gy⟩
instance : FcA Tryz.prog 32 3 3 := ⟨Gx⟩
instance : FcA Tryz.prog 32 4 4 := ⟨oY⟩
instance : FcA Tryz.prog 32 5 5 := ⟨gn⟩
instance : FcA0 Tryz.prog 38 0 := ⟨kP⟩
instance : FcA Tryz.prog 38 1 1 := ⟨qR⟩
instance : FcA Tryz.prog 38 2 2 := ⟨Gw⟩
instance : FcA0 Tryz.prog 79 0 := ⟨C0⟩
instance : FcA Tryz.prog 79 1 2 := ⟨vD⟩
instance : FcA Tryz.prog 79 2 3 := ⟨Gv⟩
instance : FcA Tryz.prog 79 3 4 := ⟨zG⟩
instance : FcA0 Tryz.prog 90 0 := ⟨vC⟩
instance : FcA Tryz.prog 90 1 2 := ⟨vB⟩
instance : FcA Tryz.prog 90 2 4 := ⟨qQ⟩
instance : FcA Tryz.prog 90 3 5 := ⟨qP⟩
instance : FcA Tryz.prog 90 4 6 := ⟨CZ⟩
instance : FcA Tryz.prog 90 5 7 := ⟨CY⟩
instance : FcA0 Tryz.prog 109 0 := ⟨AT⟩
instance : FcA Tryz.prog 109 1 2 := ⟨AS⟩
instance : FcA Tryz.prog 109 2 3 := ⟨lg⟩
instance : FcA Tryz.prog 109 3 4 := ⟨Fj⟩
instance : FcA Tryz.prog 109 4 5 := ⟨xf⟩
instance : FcA0 Tryz.prog 113 0 := ⟨Fi⟩
theorem yz : Tryz.prog.eqGuardType Tryz.prog.depth 38 = false := by kernel_rfl
theorem C1 (x y : DValue) (w : World) : (Op.equalIn 10000 38 (.agg #[iV x.Kind, iV x.N, .string x.S]) (.agg #[iV y.Kind, iV y.N, .string y.S])).run Tryz.prog w = .ok (decide (x = y)) w := by
 obtain ⟨xKind, xN, xS⟩ := x
 obtain ⟨yKind, yN, yS⟩ := y
 show (Op.equalIn 10000 38 (.agg #[iV xKind, iV xN, .string xS]) (.agg #[iV yKind, iV yN, .string yS])).run Tryz.prog w = _
 go_simp
 simp only [FJ]
 by_cases h0 : xKind = yKind <;> by_cases h1 : xN = yN <;> by_cases h2 : xS = yS <;> simp [h0, h1, h2]
theorem xg {s : ce} {C : World → Prop} {d : Option Nat} {ty u : TypeId} {pos : String} {af : Array Edge} {gd : Option (Nat × Bool)} {a b : Operand} {x y : DValue} (hx : bZ s a = some (.agg #[iV x.Kind, iV x.N, .string x.S])) (hy : bZ s b = some (.agg #[iV y.Kind, iV y.N, .string y.S])) : Ev Tryz.prog s C ⟨d, .binOp .eql 38 a b u, ty, pos, af, gd⟩ (.bool (decide (x = y))) :=
 gp hx hy fun w => by
  rw [Sem.run_bind, run_eqGuard_agg w _ _ _ _ _ _ yz]
  simp only [Result.andThen_ok]
  rw [run_eql_struct, C1]
  rfl
theorem D6 {s : ce} {C : World → Prop} {d : Option Nat} {ty u : TypeId} {pos : String} {af : Array Edge} {gd : Option (Nat × Bool)} {a b : Operand} {x y : DValue} (hx : bZ s a = some (.agg #[iV x.Kind, iV x.N, .string x.S])) (hy : bZ s b = some (.agg #[iV y.Kind, iV y.N, .string y.S])) : Ev Tryz.prog s C ⟨d, .binOp .neq 38 a b u, ty, pos, af, gd⟩ (.bool (!decide (x = y))) :=
 gp hx hy fun w => by
  rw [Sem.run_bind, run_eqGuard_agg w _ _ _ _ _ _ yz]
  simp only [Result.andThen_ok]
  rw [run_neq_struct, C1]
  rfl
def pO (N : Nat) (p25 : Int) : Option Bool :=
 some (decide (p25 ≤ 600))
def r19_Few_l26 (N : Nat) (a0 : DMemory) : Nat → Int → Int → Option Bool
 | 0, _, _ => none
 | m26 + 1, p27, p28 => (bif decide (p28 < (a0.Old.length : Int)) then (some (decide (p27 ≤ 600))) else (some false)).bind fun b29 => bif b29 then (bM (in64 (p27 + 1)) ((aG a0.Old p28).bind fun x32 => bM (in64 ((p27 + 1) + (x32.Slots.length : Int))) ((aG a0.Old p28).bind fun x37 => bM (in64 (((p27 + 1) + (x32.Slots.length : Int)) + (x37.More.length : Int))) (bM (in64 (p28 + 1)) ((r19_Few_l26 N a0 m26) (((p27 + 1) + (x32.Slots.length : Int)) + (x37.More.length : Int)) (p28 + 1)))))) else (pO N p27)
def oQ (N : Nat) (a0 : DMemory) (p6 : Int) : Option Bool :=
 r19_Few_l26 N a0 N p6 0
def r19_Few_l7 (N : Nat) (a0 : DMemory) : Nat → Int → Int → Option Bool
 | 0, _, _ => none
 | m7 + 1, p8, p9 => (bif decide (p9 < (a0.Young.length : Int)) then (some (decide (p8 ≤ 600))) else (some false)).bind fun b10 => bif b10 then (bM (in64 (p8 + 1)) ((aG a0.Young p9).bind fun x13 => bM (in64 ((p8 + 1) + (x13.Slots.length : Int))) ((aG a0.Young p9).bind fun x18 => bM (in64 (((p8 + 1) + (x13.Slots.length : Int)) + (x18.More.length : Int))) (bM (in64 (p9 + 1)) ((r19_Few_l7 N a0 m7) (((p8 + 1) + (x13.Slots.length : Int)) + (x18.More.length : Int)) (p9 + 1)))))) else (oQ N a0 p8)
def qF (N : Nat) (a0 : DMemory) (a1 : (List DValue)) : Option Bool :=
 r19_Few_l7 N a0 N (a1.length : Int) 0
theorem BN {N : Nat} {a0 : DMemory} {a1 : (List DValue)} {r : Bool} (h : qF N a0 a1 = some r) : Okc Tryz.prog 10 [.agg #[.slice A1 n1 c1, .slice A2 n2 c2], .slice A3 n3 c3] ([aF A1 n1 c1 a0.Young, aF A2 n2 c2 a0.Old, av A3 n3 c3 a1]) (fun u post => u = .bool r ∧ post = []) := by
 refine bN Tryz.func10 rfl rfl ?_
 simp only [bc]
 refine run ?_
 refine gD (bo rfl rfl) ?_
 rintro _ _ ⟨B4, rfl, rfl⟩
 refine run ?_
 refine gR (aL 3 rfl ao rfl Tryz.underlying25) ?_
 refine run ?_
 refine aS (fun s L => ∃ p6, oQ N a0 p6 = some r ∧ s = [(2, pV B4 0), (4, .bool false), (5, iV p6)] ∧ L = [aF A1 n1 c1 a0.Young, aF A2 n2 c2 a0.Old, ag B4 24 [.slice A1 n1 c1, .slice A2 n2 c2]]) ?_ ?_
 ·refine run ?_
  refine bp (fun m s L => ∃ p8 p9, r19_Few_l7 N a0 m p8 p9 = some r ∧ s = [(2, pV B4 0), (4, .bool false), (5, iV p8), (6, iV p9)] ∧ L = [aF A1 n1 c1 a0.Young, aF A2 n2 c2 a0.Old, ag B4 24 [.slice A1 n1 c1, .slice A2 n2 c2]]) N _ _ ⟨(a1.length : Int), 0, h, rfl, rfl⟩ sA (ad [1, 2, 0] 4 rfl rfl) ?_
  rintro (_ | m7) _ _ ⟨p8, p9, h, rfl, rfl⟩
  ·exact aD h
  rw [r19_Few_l7.eq_2] at h
  refine aB ?_
  refine run ?_
  refine gR (aL 0 rfl ao rfl Tryz.underlying22) ?_
  refine run ?_
  obtain ⟨b10, hb10, h⟩ := aa h
  refine aX 3 18 b10 ?_ ?_
  ·clear h
   refine aY 15 rfl (fun g10 => ?_) (fun g10 => ?_)
   ·have h := ah g10 hb10
    refine run ?_
    obtain rfl := aq h
    exact ak sA (ad [0, 1, 2] 3 rfl rfl)
   have h := ai g10 hb10
   refine run ?_
   obtain rfl := aq h
   exact ak sA (ad [0, 1, 2] 3 rfl rfl)
  refine run ?_
  refine ay rfl (fun g11 => ?_) (fun g11 => ?_)
  ·replace h := ah g11 h
   refine run ?_
   refine aB ?_
   refine fG ?_
   refine dB (by kernel_rfl) _ (ab _) ?_
   refine aI 0 rfl (by kernel_rfl) (az rfl) rfl rfl ?_
   obtain ⟨q12, h⟩ := ap h
   refine aI 1 rfl (by kernel_rfl) (aR rfl rfl q12.1 q12.2) rfl rfl ?_
   refine aI 2 rfl (by kernel_rfl) (jm rfl tz) rfl rfl ?_
   refine bv 3 rfl (by kernel_rfl) (aO 2 rfl rfl gU rfl) rfl rfl ?_
   refine aI 4 rfl (by kernel_rfl) (az rfl) rfl rfl ?_
   obtain ⟨x13, hx13, h⟩ := aa h
   obtain ⟨lx13, ux13, hx13⟩ := au hx13
   refine bv 5 rfl (by kernel_rfl) (aM 0 rfl ao rfl rfl Tryz.underlying22 bz lx13 ux13) rfl rfl ?_
   refine bv 6 rfl (by kernel_rfl) (rv 0 rfl ao rfl (dC lx13 ux13) oY) rfl rfl ?_
   refine Aa 0 rfl hx13 (db x13) ?_
   rintro _ _ ⟨A14, n14, c14, A15, n15, c15, rfl, rfl⟩
   refine bv 7 rfl (by kernel_rfl) (qE 0 rfl rfl fe rfl) rfl rfl ?_
   refine bv 8 rfl (by kernel_rfl) (aL 1 rfl ao rfl Tryz.underlying25) rfl rfl ?_
   obtain ⟨q17, h⟩ := ap h
   refine aI 9 rfl (by kernel_rfl) (aR rfl rfl q17.1 q17.2) rfl rfl ?_
   refine aI 10 rfl (by kernel_rfl) (jm rfl tz) rfl rfl ?_
   refine bv 11 rfl (by kernel_rfl) (aO 5 rfl rfl gU rfl) rfl rfl ?_
   refine aI 12 rfl (by kernel_rfl) (az rfl) rfl rfl ?_
   obtain ⟨x18, hx18, h⟩ := aa h
   obtain ⟨lx18, ux18, hx18⟩ := au hx18
   refine bv 13 rfl (by kernel_rfl) (aM 3 rfl ao rfl rfl Tryz.underlying22 bz lx18 ux18) rfl rfl ?_
   refine bv 14 rfl (by kernel_rfl) (rv 3 rfl ao rfl (dC lx18 ux18) gn) rfl rfl ?_
   refine Aa 3 rfl hx18 (db x18) ?_
   rintro _ _ ⟨A19, n19, c19, A20, n20, c20, rfl, rfl⟩
   refine bv 15 rfl (by kernel_rfl) (qE 0 rfl rfl fe rfl) rfl rfl ?_
   refine bv 16 rfl (by kernel_rfl) (aL 2 rfl ao rfl Tryz.underlying25) rfl rfl ?_
   obtain ⟨q22, h⟩ := ap h
   refine aI 17 rfl (by kernel_rfl) (aR rfl rfl q22.1 q22.2) rfl rfl ?_
   refine aI 18 rfl (by kernel_rfl) (bw rfl) rfl rfl ?_
   refine dA (by kernel_rfl) ?_
   refine run ?_
   obtain ⟨q23, h⟩ := ap h
   refine gE (aR rfl rfl q23.1 q23.2) ?_
   refine run ?_
   exact ⟨m7, _, _, Nat.lt_succ_self _, ⟨((p8 + 1) + (x13.Slots.length : Int)) + (x18.More.length : Int), p9 + 1, h, rfl, rfl⟩, sA, ad [6, 7, 8] 9 rfl rfl⟩
  replace h := ai g11 h
  refine run ?_
  exact ⟨_, _, ⟨p8, h, rfl, rfl⟩, sA, ad [0, 1, 2] 3 rfl rfl⟩
 rintro _ _ ⟨p6, h, rfl, rfl⟩
 refine aS (fun s L => ∃ p25, pO N p25 = some r ∧ s = [(4, .bool false), (5, iV p25)] ∧ L = []) ?_ ?_
 ·refine run ?_
  refine bp (fun m s L => ∃ p27 p28, r19_Few_l26 N a0 m p27 p28 = some r ∧ s = [(2, pV B4 0), (4, .bool false), (5, iV p27), (7, iV p28)] ∧ L = [aF A1 n1 c1 a0.Young, aF A2 n2 c2 a0.Old, ag B4 24 [.slice A1 n1 c1, .slice A2 n2 c2]]) N _ _ ⟨p6, 0, h, rfl, rfl⟩ sA (ad [0, 1, 2] 3 rfl rfl) ?_
  rintro (_ | m26) _ _ ⟨p27, p28, h, rfl, rfl⟩
  ·exact aD h
  rw [r19_Few_l26.eq_2] at h
  refine aB ?_
  refine run ?_
  refine gR (aL 1 rfl ao rfl Tryz.underlying22) ?_
  refine run ?_
  obtain ⟨b29, hb29, h⟩ := aa h
  refine aX 3 47 b29 ?_ ?_
  ·clear h
   refine aY 44 rfl (fun g29 => ?_) (fun g29 => ?_)
   ·have h := ah g29 hb29
    refine run ?_
    obtain rfl := aq h
    exact ak sA (ad [0, 1, 2] 3 rfl rfl)
   have h := ai g29 hb29
   refine run ?_
   obtain rfl := aq h
   exact ak sA (ad [0, 1, 2] 3 rfl rfl)
  refine run ?_
  refine ay rfl (fun g30 => ?_) (fun g30 => ?_)
  ·replace h := ah g30 h
   refine run ?_
   refine aB ?_
   refine fG ?_
   refine dB (by kernel_rfl) _ (ab _) ?_
   refine aI 0 rfl (by kernel_rfl) (az rfl) rfl rfl ?_
   obtain ⟨q31, h⟩ := ap h
   refine aI 1 rfl (by kernel_rfl) (aR rfl rfl q31.1 q31.2) rfl rfl ?_
   refine aI 2 rfl (by kernel_rfl) (cr rfl jS) rfl rfl ?_
   refine bv 3 rfl (by kernel_rfl) (aO 2 rfl rfl gU rfl) rfl rfl ?_
   refine aI 4 rfl (by kernel_rfl) (az rfl) rfl rfl ?_
   obtain ⟨x32, hx32, h⟩ := aa h
   obtain ⟨lx32, ux32, hx32⟩ := au hx32
   refine bv 5 rfl (by kernel_rfl) (aM 1 rfl ao rfl rfl Tryz.underlying22 bz lx32 ux32) rfl rfl ?_
   refine bv 6 rfl (by kernel_rfl) (rv 1 rfl ao rfl (dC lx32 ux32) oY) rfl rfl ?_
   refine Aa 1 rfl hx32 (db x32) ?_
   rintro _ _ ⟨A33, n33, c33, A34, n34, c34, rfl, rfl⟩
   refine bv 7 rfl (by kernel_rfl) (qE 0 rfl rfl fe rfl) rfl rfl ?_
   refine bv 8 rfl (by kernel_rfl) (aL 1 rfl ao rfl Tryz.underlying25) rfl rfl ?_
   obtain ⟨q36, h⟩ := ap h
   refine aI 9 rfl (by kernel_rfl) (aR rfl rfl q36.1 q36.2) rfl rfl ?_
   refine aI 10 rfl (by kernel_rfl) (cr rfl jS) rfl rfl ?_
   refine bv 11 rfl (by kernel_rfl) (aO 5 rfl rfl gU rfl) rfl rfl ?_
   refine aI 12 rfl (by kernel_rfl) (az rfl) rfl rfl ?_
   obtain ⟨x37, hx37, h⟩ := aa h
   obtain ⟨lx37, ux37, hx37⟩ := au hx37
   refine bv 13 rfl (by kernel_rfl) (aM 4 rfl ao rfl rfl Tryz.underlying22 bz lx37 ux37) rfl rfl ?_
   refine bv 14 rfl (by kernel_rfl) (rv 4 rfl ao rfl (dC lx37 ux37) gn) rfl rfl ?_
   refine Aa 4 rfl hx37 (db x37) ?_
   rintro _ _ ⟨A38, n38, c38, A39, n39, c39, rfl, rfl⟩
   refine bv 15 rfl (by kernel_rfl) (qE 0 rfl rfl fe rfl) rfl rfl ?_
   refine bv 16 rfl (by kernel_rfl) (aL 2 rfl ao rfl Tryz.underlying25) rfl rfl ?_
   obtain ⟨q41, h⟩ := ap h
   refine aI 17 rfl (by kernel_rfl) (aR rfl rfl q41.1 q41.2) rfl rfl ?_
   refine aI 18 rfl (by kernel_rfl) (bw rfl) rfl rfl ?_
   refine dA (by kernel_rfl) ?_
   refine run ?_
   obtain ⟨q42, h⟩ := ap h
   refine gE (aR rfl rfl q42.1 q42.2) ?_
   refine run ?_
   exact ⟨m26, _, _, Nat.lt_succ_self _, ⟨((p27 + 1) + (x32.Slots.length : Int)) + (x37.More.length : Int), p28 + 1, h, rfl, rfl⟩, sA, ad [6, 7, 8] 9 rfl rfl⟩
  replace h := ai g30 h
  refine run ?_
  exact ⟨_, _, ⟨p27, h, rfl, rfl⟩, sA, ad [] 3 rfl rfl⟩
 rintro _ _ ⟨p25, h, rfl, rfl⟩
 refine run ?_
 obtain rfl := aq h
 exact aQ rfl rfl (ad [] 0 rfl rfl) ⟨rfl, rfl⟩
theorem zp {r : Bool} : ∀ v post, ((fun (u : Value) (post : List Chunk) => u = .bool r ∧ post = [])) v post → ∀ c ∈ post, cZ c := by
 rintro _ _ ⟨rfl, rfl⟩; exact ae
def cG (N : Nat) (a0 : DValue) : Option (Int × Bool) :=
 (bif decide (a0.Kind = 7) then (some true) else (some (decide (a0.Kind = 9)))).bind fun b2 => some (a0.N, b2)
theorem iw {N : Nat} {a0 : DValue} {r : (Int × Bool)} (h : cG N a0 = some r) : Okc Tryz.prog 51 [.agg #[iV a0.Kind, iV a0.N, .string a0.S]] ([]) (fun u post => u = .tuple #[iV r.1, .bool r.2] ∧ post = []) := by
 refine bN Tryz.func51 rfl rfl ?_
 simp only [bc]
 refine run ?_
 refine gD (bo rfl rfl) ?_
 rintro _ _ ⟨B1, rfl, rfl⟩
 refine run ?_
 refine aB ?_
 refine dB (by kernel_rfl) _ (ab _) ?_
 refine aI 0 rfl (by kernel_rfl) (cr rfl qR) rfl rfl ?_
 refine bv 1 rfl (by kernel_rfl) (aO 0 rfl rfl eo rfl) rfl rfl ?_
 refine aI 2 rfl (by kernel_rfl) (jm rfl kP) rfl rfl ?_
 refine bv 3 rfl (by kernel_rfl) (aO 0 rfl rfl eo rfl) rfl rfl ?_
 refine aI 4 rfl (by kernel_rfl) (oy rfl rfl) rfl rfl ?_
 refine aI 5 rfl (by kernel_rfl) (az rfl) rfl rfl ?_
 refine aI 10 rfl (by kernel_rfl) (bw rfl) rfl rfl ?_
 obtain ⟨b2, hb2, h⟩ := aa h
 refine tR (fun l => ((((l.setIfInBounds 6 true).setIfInBounds 7 true).setIfInBounds 8 true).setIfInBounds 9 true)) 1 13 b2 (fun rest => ?_) ?_
 ·clear h
  refine vL 9 rfl (fun g2 => ?_) (fun g2 => ?_)
  ·have h := ah g2 hb2
   refine i9 6 rfl (by kernel_rfl) (Ci g2 rfl) rfl ?_
   refine i9 7 rfl (by kernel_rfl) (Ci g2 rfl) rfl ?_
   refine i9 8 rfl (by kernel_rfl) (Ci g2 rfl) rfl ?_
   refine aI 9 rfl (by kernel_rfl) (cR g2 rfl rfl) rfl rfl ?_
   obtain rfl := aq h
   exact qp rest (iR rfl (bf (bf (bf (bf cw rfl) rfl) rfl) rfl)) (ab _) (ab _)
  have h := ai g2 hb2
  refine aI 6 rfl (by kernel_rfl) (jm rfl kP) (gm g2 rfl) rfl ?_
  refine bv 7 rfl (by kernel_rfl) (aO 0 rfl rfl eo rfl) (gm g2 rfl) rfl ?_
  refine aI 8 rfl (by kernel_rfl) (oy rfl rfl) (gm g2 rfl) rfl ?_
  refine aI 9 rfl (by kernel_rfl) (cT g2 rfl rfl) rfl rfl ?_
  obtain rfl := aq h
  exact qp rest (iR rfl (bf (bf (bf (bf cw rfl) rfl) rfl) rfl)) (ab _) (ab _)
 refine aI 11 rfl (by kernel_rfl) (bw rfl) rfl rfl ?_
 refine dA (by kernel_rfl) ?_
 refine run ?_
 obtain rfl := aq h
 exact Hi rfl rfl rfl (ad [] 1 rfl rfl) ⟨rfl, rfl⟩
theorem gi {r : (Int × Bool)} : ∀ v post, ((fun (u : Value) (post : List Chunk) => u = .tuple #[iV r.1, .bool r.2] ∧ post = [])) v post → ∀ c ∈ post, cZ c := by
 rintro _ _ ⟨rfl, rfl⟩; exact ae
def jD (N : Nat) (a1 : Int) (p6 : (List DCell)) (p7 : Int) : Option ((List DCell) × Int × Bool) :=
 (bif decide (0 < a1) then (some (decide (p7 < (p6.length : Int)))) else (some false)).bind fun b11 => some (p6, p7, b11)
def iS (N : Nat) (a0 : DMemory) (a1 : Int) : Option ((List DCell) × Int × Bool) :=
 bM (in64 (a1.tdiv 2)) (bif decide (a1.tmod 2 = 0) then (bM (in64 (a1.tdiv 2)) (bM (in64 ((a1.tdiv 2) - 1)) (jD N a1 a0.Old ((a1.tdiv 2) - 1)))) else (jD N a1 a0.Young (a1.tdiv 2)))
theorem pK {N : Nat} {a0 : DMemory} {a1 : Int} {r : ((List DCell) × Int × Bool)} (h : iS N a0 a1 = some r) : Okc Tryz.prog 49 [.agg #[.slice A1 n1 c1, .slice A2 n2 c2], iV a1] ([aF A1 n1 c1 a0.Young, aF A2 n2 c2 a0.Old]) (fun u post => ∃ A0 n0 c0, u = .tuple #[.slice A0 n0 c0, iV r.2.1, .bool r.2.2] ∧ post = [aF A0 n0 c0 r.1]) := by
 refine bN Tryz.func49 rfl rfl ?_
 simp only [bc]
 refine run ?_
 refine gD (bo rfl rfl) ?_
 rintro _ _ ⟨B3, rfl, rfl⟩
 refine run ?_
 obtain ⟨q4, h⟩ := ap h
 refine gE (zH rfl rfl (by decide) q4.1 q4.2) ?_
 refine run ?_
 refine aS (fun s L => ∃ p6 p7 A6 n6 c6, jD N a1 p6 p7 = some r ∧ s = [(1, iV a1), (4, .slice none 0 0), (5, iV 0), (6, .bool false), (7, .slice A6 n6 c6), (8, iV p7)] ∧ L = [aF A6 n6 c6 p6]) ?_ ?_
 ·refine run ?_
  refine gE (sc rfl rfl (by decide)) ?_
  refine run ?_
  refine ay rfl (fun g8 => ?_) (fun g8 => ?_)
  ·replace h := ah g8 h
   refine run ?_
   obtain ⟨q9, h⟩ := ap h
   refine gE (zH rfl rfl (by decide) q9.1 q9.2) ?_
   obtain ⟨q10, h⟩ := ap h
   refine gE (sb rfl rfl q10.1 q10.2) ?_
   refine run ?_
   exact ⟨_, _, ⟨a0.Old, (a1.tdiv 2) - 1, A2, n2, c2, h, rfl, rfl⟩, sA, ad [2] 3 rfl rfl⟩
  replace h := ai g8 h
  refine run ?_
  exact ⟨_, _, ⟨a0.Young, a1.tdiv 2, A1, n1, c1, h, rfl, rfl⟩, sA, ad [1] 3 rfl rfl⟩
 rintro _ _ ⟨p6, p7, A6, n6, c6, h, rfl, rfl⟩
 refine run ?_
 obtain ⟨b11, hb11, h⟩ := aa h
 refine aX 5 30 b11 ?_ ?_
 ·clear h
  refine aY 25 rfl (fun g11 => ?_) (fun g11 => ?_)
  ·have h := ah g11 hb11
   refine run ?_
   refine cY (aL 0 rfl ao rfl Tryz.underlying22) rfl (bd g11 rfl) rfl ?_
   refine run ?_
   obtain rfl := aq h
   exact ak sA (ad [0] 1 rfl rfl)
  have h := ai g11 hb11
  refine run ?_
  obtain rfl := aq h
  exact ak sA (ad [0] 1 rfl rfl)
 refine run ?_
 obtain rfl := aq h
 exact Il rfl rfl rfl rfl (ad [0] 1 rfl rfl) ⟨_, _, _, rfl, rfl⟩
def dx (N : Nat) (a0 : DMemory) (a1 : Int) : Option Bool :=
 (iS N a0 a1).bind fun y4 => some y4.2.2
theorem dM {N : Nat} {a0 : DMemory} {a1 : Int} {r : Bool} (h : dx N a0 a1 = some r) : Okc Tryz.prog 13 [.agg #[.slice A1 n1 c1, .slice A2 n2 c2], iV a1] ([aF A1 n1 c1 a0.Young, aF A2 n2 c2 a0.Old]) (fun u post => u = .bool r ∧ post = []) := by
 refine bN Tryz.func13 rfl rfl ?_
 simp only [bc]
 refine run ?_
 refine gD (bo rfl rfl) ?_
 rintro _ _ ⟨B3, rfl, rfl⟩
 refine run ?_
 refine gR (aC (us := [.slice A1 n1 c1, .slice A2 n2 c2]) 0 rfl rfl cN rfl) ?_
 refine run ?_
 obtain ⟨y4, hy4, h⟩ := aa h
 refine gD (bH (pK hy4) FF rfl (be [1, 2] [] [0, 1, 2] 3 rfl)) ?_
 rintro _ _ ⟨_, ⟨A5, n5, c5, rfl, rfl⟩, rfl⟩
 refine run ?_
 obtain rfl := aq h
 exact aQ rfl rfl (ad [] 4 rfl rfl) ⟨rfl, rfl⟩
theorem dh {r : Bool} : ∀ v post, ((fun (u : Value) (post : List Chunk) => u = .bool r ∧ post = [])) v post → ∀ c ∈ post, cZ c := by
 rintro _ _ ⟨rfl, rfl⟩; exact ae
def fa (N : Nat) (kb7 : Int → (List Int) → (List (Int × Unit)) → Option DRow) (a1 : (List Int)) (p8 : Int) (a0 : DRow) (p13 : (List Int)) (p14 : (List (Int × Unit))) : Option DRow :=
 bM (in64 (p8 + 1)) (kb7 (p8 + 1) p13 p14)
def reach_row_lay_l7 (N : Nat) (a1 : (List Int)) (a0 : DRow) : Nat → Int → (List Int) → (List (Int × Unit)) → Option DRow
 | 0, _, _, _ => none
 | m7 + 1, p8, p9, p10 => bif decide (p8 < (a1.length : Int)) then ((aG a1 p8).bind fun x15 => (bif !((lk p10 x15).isSome) then ((dx N a0.m_ x15).bind fun y18 => some y18) else (some false)).bind fun b17 => bif b17 then (bM (cD (p9.length + ([x15] : List Int).length)) (fa N (reach_row_lay_l7 N a1 a0 m7) a1 p8 a0 (p9 ++ ([x15] : List Int)) (na p10 x15 ()))) else (fa N (reach_row_lay_l7 N a1 a0 m7) a1 p8 a0 p9 p10)) else (some (⟨a0.m_, p9, p10, a0.done_⟩ : DRow))
def dk (N : Nat) (a0 : DRow) (a1 : (List Int)) : Option DRow :=
 reach_row_lay_l7 N a1 a0 N 0 a0.all_ a0.met_
theorem oe {N : Nat} {a0 : DRow} {a1 : (List Int)} {r : DRow} (h : dk N a0 a1 = some r) : Okc Tryz.prog 118 [pV B1 0, .slice A6 n6 c6] ([aF A2 n2 c2 a0.m_.Young, aF A3 n3 c3 a0.m_.Old, cm A6 n6 c6 a1, ag B1 79 [.slice A2 n2 c2, .slice A3 n3 c3, .slice A4 n4 c4, .map (some M5), iV a0.done_], br A4 n4 c4 a0.all_, aN bQ rN M5 a0.met_]) (fun u post => ∃ A0 n0 c0 A1 n1 c1 A2 n2 c2 M3, u = .tuple #[] ∧ post = [ag B1 79 [.slice A0 n0 c0, .slice A1 n1 c1, .slice A2 n2 c2, .map (some M3), iV r.done_], aF A0 n0 c0 r.m_.Young, aF A1 n1 c1 r.m_.Old, br A2 n2 c2 r.all_, aN bQ rN M3 r.met_]) := by
 refine bN Tryz.func118 rfl rfl ?_
 simp only [bc]
 refine run ?_
 refine gR (aL 2 rfl ao rfl Tryz.underlying35) ?_
 refine run ?_
 refine bp (fun m s L => ∃ p8 p9 p10 A9 n9 c9, reach_row_lay_l7 N a1 a0 m p8 p9 p10 = some r ∧ s = [(0, pV B1 0), (8, .slice A6 n6 c6), (9, iV (a1.length : Int)), (10, iV p8)] ∧ L = [cm A6 n6 c6 a1, aF A2 n2 c2 a0.m_.Young, aF A3 n3 c3 a0.m_.Old, br A9 n9 c9 p9, aN bQ rN M5 p10, ag B1 79 [.slice A2 n2 c2, .slice A3 n3 c3, .slice A9 n9 c9, .map (some M5), iV a0.done_]]) N _ _ ⟨0, a0.all_, a0.met_, A4, n4, c4, h, rfl, rfl⟩ sA (ad [2, 0, 1, 4, 5, 3] 6 rfl rfl) ?_
 rintro (_ | m7) _ _ ⟨p8, p9, p10, A9, n9, c9, h, rfl, rfl⟩
 ·exact aD h
 rw [reach_row_lay_l7.eq_2] at h
 refine run ?_
 refine aB ?_
 refine ay rfl (fun g11 => ?_) (fun g11 => ?_)
 ·replace h := ah g11 h
  refine run ?_
  refine aS (fun s L => ∃ p13 p14 A13 n13 c13, fa N (reach_row_lay_l7 N a1 a0 m7) a1 p8 a0 p13 p14 = some r ∧ s = [(0, pV B1 0), (8, .slice A6 n6 c6), (9, iV (a1.length : Int)), (10, iV p8)] ∧ L = [cm A6 n6 c6 a1, aF A2 n2 c2 a0.m_.Young, aF A3 n3 c3 a0.m_.Old, br A13 n13 c13 p13, aN bQ rN M5 p14, ag B1 79 [.slice A2 n2 c2, .slice A3 n3 c3, .slice A13 n13 c13, .map (some M5), iV a0.done_]]) ?_ ?_
  ·refine run ?_
   obtain ⟨x15, hx15, h⟩ := aa h
   obtain ⟨lx15, ux15, hx15⟩ := au hx15
   refine gR (aM 0 rfl ao rfl rfl Tryz.underlying35 dD lx15 ux15) ?_
   refine gR (bK (u := iV x15) 0 rfl ao rfl hx15 eo (fun _ _ _ h => by rw [show _ = _ from h]; rfl)) ?_
   refine run ?_
   refine gR (kZ (a := x15) (z := ()) 4 rfl qb rfl rfl Tryz.underlying77 (cB Tryz.underlying3) vq) ?_
   refine run ?_
   refine gD (aJ vq rfl) ?_
   rintro _ _ ⟨B16, rfl, rfl⟩
   refine gO (ar (us := []) (cs' := []) 0 rfl rfl rfl rfl CK rfl rfl rfl) ?_
   rintro _ _ rfl
   refine run ?_
   obtain ⟨b17, hb17, h⟩ := aa h
   refine aX 7 32 b17 ?_ ?_
   ·clear h
    refine aY 25 rfl (fun g17 => ?_) (fun g17 => ?_)
    ·have h := ah g17 hb17
     refine run ?_
     refine cY (aC (us := [.slice A2 n2 c2, .slice A3 n3 c3]) 6 rfl rfl cN rfl) rfl (bd g17 rfl) rfl ?_
     refine run ?_
     obtain ⟨y18, hy18, h⟩ := aa h
     refine dj (am (dM hy18) nW rfl (mem_cons (aj (i := 2) rfl rfl) (mem_cons (aj (i := 3) rfl rfl) ae)) dh) rfl (bd g17 rfl) rfl ?_
     rintro _ _ ⟨_, ⟨rfl, rfl⟩, rfl⟩
     refine run ?_
     obtain rfl := aq h
     exact ak sA (ad [0, 1, 2, 3, 4, 5, 6] 7 rfl rfl)
    have h := ai g17 hb17
    refine run ?_
    obtain rfl := aq h
    exact ak sA (ad [0, 1, 2, 3, 4, 5, 6] 7 rfl rfl)
   refine run ?_
   refine ay rfl (fun g19 => ?_) (fun g19 => ?_)
   ·replace h := ah g19 h
    refine run ?_
    refine gE (cU rfl (Bk)) ?_
    refine gO (fd (a := x15) (b := ()) 5 rfl rfl rfl rfl Tryz.underlying77 (cB Tryz.underlying3)) ?_
    rintro _ _ rfl
    refine run ?_
    refine gD (bm (R := (dS .i64)) (vss := [[iV x15]]) (xs := [x15]) rfl (gG _) rfl rfl (fun _ _ hr => .cons rfl All2.nil)) ?_
    rintro _ _ ⟨A20, n20, c20, rfl, rfl⟩
    obtain ⟨q21, h⟩ := ap h
    refine gD (bF 5 0 rfl rfl aH rfl rfl Tryz.underlying35 Ac rfl rfl q21) ?_
    rintro _ _ ⟨A22, n22, c22, rfl, rfl⟩
    refine bC ([br A20 n20 c20 ([x15] : List Int), ag B16 152 [], cm A6 n6 c6 a1, aF A2 n2 c2 a0.m_.Young, aF A3 n3 c3 a0.m_.Old, br A22 n22 c22 (p9 ++ ([x15] : List Int)), aN bQ rN M5 (na p10 x15 ()), ag B1 79 [.slice A2 n2 c2, .slice A3 n3 c3, .slice A9 n9 c9, .map (some M5), iV a0.done_]]) rfl ?_
    refine run ?_
    refine gO (ar (us := [.slice A22 n22 c22]) (cs' := [.slice A2 n2 c2, .slice A3 n3 c3, .slice A22 n22 c22, .map (some M5), iV a0.done_]) 7 rfl rfl rfl rfl iK rfl rfl rfl) ?_
    rintro _ _ rfl
    refine run ?_
    exact ⟨_, _, ⟨p9 ++ ([x15] : List Int), na p10 x15 (), A22, n22, c22, h, rfl, rfl⟩, sA, ad [2, 3, 4, 5, 6, 7] 8 rfl rfl⟩
   replace h := ai g19 h
   refine run ?_
   exact ⟨_, _, ⟨p9, p10, A9, n9, c9, h, rfl, rfl⟩, sA, ad [1, 2, 3, 4, 5, 6] 7 rfl rfl⟩
  rintro _ _ ⟨p13, p14, A13, n13, c13, h, rfl, rfl⟩
  refine cx ?_
  obtain ⟨q23, h⟩ := ap h
  refine gE (aR rfl rfl q23.1 q23.2) ?_
  refine run ?_
  exact ⟨m7, _, _, Nat.lt_succ_self _, ⟨p8 + 1, p13, p14, A13, n13, c13, h, rfl, rfl⟩, sA, ad [0, 1, 2, 3, 4, 5] 6 rfl rfl⟩
 replace h := ai g11 h
 refine run ?_
 obtain rfl := aq h
 exact jo rfl (ad [5, 1, 2, 3, 4] 6 rfl rfl) ⟨_, _, _, _, _, _, _, _, _, _, rfl, rfl⟩
theorem rY {N : Nat} {V : Value} {K : Nat} {a0 : DRow} {a1 : (List Int)} {r : DRow} (h : dk N a0 a1 = some r) : Okc Tryz.prog 118 [pV B1 0, .slice A6 n6 c6] ([aF A2 n2 c2 a0.m_.Young, aF A3 n3 c3 a0.m_.Old, cm A6 n6 c6 a1, ag B1 79 [.slice A2 n2 c2, .slice A3 n3 c3, .slice A4 n4 c4, .map (some M5), iV a0.done_], gC (dS .i64) 3 (.slice A4 n4 c4) a0.all_ V K, aN bQ rN M5 a0.met_]) (fun u post => ∃ A0 n0 c0 A1 n1 c1 A2 n2 c2 M3, u = .tuple #[] ∧ post = [ag B1 79 [.slice A0 n0 c0, .slice A1 n1 c1, .slice A2 n2 c2, .map (some M3), iV r.done_], aF A0 n0 c0 r.m_.Young, aF A1 n1 c1 r.m_.Old, gC (dS .i64) 3 (.slice A2 n2 c2) r.all_ V K, aN bQ rN M3 r.met_]) := by
 refine bN Tryz.func118 rfl rfl ?_
 simp only [bc]
 refine run ?_
 refine gR (aL 2 rfl ao rfl Tryz.underlying35) ?_
 refine run ?_
 refine bp (fun m s L => ∃ p8 p9 p10 A9 n9 c9, reach_row_lay_l7 N a1 a0 m p8 p9 p10 = some r ∧ s = [(0, pV B1 0), (8, .slice A6 n6 c6), (9, iV (a1.length : Int)), (10, iV p8)] ∧ L = [cm A6 n6 c6 a1, aF A2 n2 c2 a0.m_.Young, aF A3 n3 c3 a0.m_.Old, gC (dS .i64) 3 (.slice A9 n9 c9) p9 V K, aN bQ rN M5 p10, ag B1 79 [.slice A2 n2 c2, .slice A3 n3 c3, .slice A9 n9 c9, .map (some M5), iV a0.done_]]) N _ _ ⟨0, a0.all_, a0.met_, A4, n4, c4, h, rfl, rfl⟩ sA (ad [2, 0, 1, 4, 5, 3] 6 rfl rfl) ?_
 rintro (_ | m7) _ _ ⟨p8, p9, p10, A9, n9, c9, h, rfl, rfl⟩
 ·exact aD h
 rw [reach_row_lay_l7.eq_2] at h
 refine run ?_
 refine aB ?_
 refine ay rfl (fun g11 => ?_) (fun g11 => ?_)
 ·replace h := ah g11 h
  refine run ?_
  refine aS (fun s L => ∃ p13 p14 A13 n13 c13, fa N (reach_row_lay_l7 N a1 a0 m7) a1 p8 a0 p13 p14 = some r ∧ s = [(0, pV B1 0), (8, .slice A6 n6 c6), (9, iV (a1.length : Int)), (10, iV p8)] ∧ L = [cm A6 n6 c6 a1, aF A2 n2 c2 a0.m_.Young, aF A3 n3 c3 a0.m_.Old, gC (dS .i64) 3 (.slice A13 n13 c13) p13 V K, aN bQ rN M5 p14, ag B1 79 [.slice A2 n2 c2, .slice A3 n3 c3, .slice A13 n13 c13, .map (some M5), iV a0.done_]]) ?_ ?_
  ·refine run ?_
   obtain ⟨x15, hx15, h⟩ := aa h
   obtain ⟨lx15, ux15, hx15⟩ := au hx15
   refine gR (aM 0 rfl ao rfl rfl Tryz.underlying35 dD lx15 ux15) ?_
   refine gR (bK (u := iV x15) 0 rfl ao rfl hx15 eo (fun _ _ _ h => by rw [show _ = _ from h]; rfl)) ?_
   refine run ?_
   refine gR (kZ (a := x15) (z := ()) 4 rfl qb rfl rfl Tryz.underlying77 (cB Tryz.underlying3) vq) ?_
   refine run ?_
   refine gD (aJ vq rfl) ?_
   rintro _ _ ⟨B16, rfl, rfl⟩
   refine gO (ar (us := []) (cs' := []) 0 rfl rfl rfl rfl CK rfl rfl rfl) ?_
   rintro _ _ rfl
   refine run ?_
   obtain ⟨b17, hb17, h⟩ := aa h
   refine aX 7 32 b17 ?_ ?_
   ·clear h
    refine aY 25 rfl (fun g17 => ?_) (fun g17 => ?_)
    ·have h := ah g17 hb17
     refine run ?_
     refine cY (aC (us := [.slice A2 n2 c2, .slice A3 n3 c3]) 6 rfl rfl cN rfl) rfl (bd g17 rfl) rfl ?_
     refine run ?_
     obtain ⟨y18, hy18, h⟩ := aa h
     refine dj (am (dM hy18) nW rfl (mem_cons (aj (i := 2) rfl rfl) (mem_cons (aj (i := 3) rfl rfl) ae)) dh) rfl (bd g17 rfl) rfl ?_
     rintro _ _ ⟨_, ⟨rfl, rfl⟩, rfl⟩
     refine run ?_
     obtain rfl := aq h
     exact ak sA (ad [0, 1, 2, 3, 4, 5, 6] 7 rfl rfl)
    have h := ai g17 hb17
    refine run ?_
    obtain rfl := aq h
    exact ak sA (ad [0, 1, 2, 3, 4, 5, 6] 7 rfl rfl)
   refine run ?_
   refine ay rfl (fun g19 => ?_) (fun g19 => ?_)
   ·replace h := ah g19 h
    refine run ?_
    refine gE (cU rfl (Bk)) ?_
    refine gO (fd (a := x15) (b := ()) 5 rfl rfl rfl rfl Tryz.underlying77 (cB Tryz.underlying3)) ?_
    rintro _ _ rfl
    refine run ?_
    refine gD (bm (R := (dS .i64)) (vss := [[iV x15]]) (xs := [x15]) rfl (gG _) rfl rfl (fun _ _ hr => .cons rfl All2.nil)) ?_
    rintro _ _ ⟨A20, n20, c20, rfl, rfl⟩
    obtain ⟨q21, h⟩ := ap h
    refine gD (BU 5 0 rfl rfl aH rfl rfl Tryz.underlying35 Ac rfl rfl q21) ?_
    rintro _ _ ⟨A22, n22, c22, rfl, rfl⟩
    refine bC ([br A20 n20 c20 ([x15] : List Int), ag B16 152 [], cm A6 n6 c6 a1, aF A2 n2 c2 a0.m_.Young, aF A3 n3 c3 a0.m_.Old, gC (dS .i64) 3 (.slice A22 n22 c22) (p9 ++ ([x15] : List Int)) V K, aN bQ rN M5 (na p10 x15 ()), ag B1 79 [.slice A2 n2 c2, .slice A3 n3 c3, .slice A9 n9 c9, .map (some M5), iV a0.done_]]) rfl ?_
    refine run ?_
    refine gO (ar (us := [.slice A22 n22 c22]) (cs' := [.slice A2 n2 c2, .slice A3 n3 c3, .slice A22 n22 c22, .map (some M5), iV a0.done_]) 7 rfl rfl rfl rfl iK rfl rfl rfl) ?_
    rintro _ _ rfl
    refine run ?_
    exact ⟨_, _, ⟨p9 ++ ([x15] : List Int), na p10 x15 (), A22, n22, c22, h, rfl, rfl⟩, sA, ad [2, 3, 4, 5, 6, 7] 8 rfl rfl⟩
   replace h := ai g19 h
   refine run ?_
   exact ⟨_, _, ⟨p9, p10, A9, n9, c9, h, rfl, rfl⟩, sA, ad [1, 2, 3, 4, 5, 6] 7 rfl rfl⟩
  rintro _ _ ⟨p13, p14, A13, n13, c13, h, rfl, rfl⟩
  refine cx ?_
  obtain ⟨q23, h⟩ := ap h
  refine gE (aR rfl rfl q23.1 q23.2) ?_
  refine run ?_
  exact ⟨m7, _, _, Nat.lt_succ_self _, ⟨p8 + 1, p13, p14, A13, n13, c13, h, rfl, rfl⟩, sA, ad [0, 1, 2, 3, 4, 5] 6 rfl rfl⟩
 replace h := ai g11 h
 refine run ?_
 obtain rfl := aq h
 exact jo rfl (ad [5, 1, 2, 3, 4] 6 rfl rfl) ⟨_, _, _, _, _, _, _, _, _, _, rfl, rfl⟩
def kg (N : Nat) (a0 : DValue) (a1 : DRow) : Option DRow :=
 (cG N a0).bind fun y8 => bif y8.2 then ((dk N a1 ([y8.1] : List Int)).bind fun y11 => some y11) else (some a1)
theorem sN {N : Nat} {a0 : DValue} {a1 : DRow} {r : DRow} (h : kg N a0 a1 = some r) : Okc Tryz.prog 117 [.agg #[iV a0.Kind, iV a0.N, .string a0.S], pV B1 0] ([aF A3 n3 c3 a1.m_.Young, aF A4 n4 c4 a1.m_.Old, ag B1 80 [pV B2 0], ag B2 79 [.slice A3 n3 c3, .slice A4 n4 c4, .slice A5 n5 c5, .map (some M6), iV a1.done_], br A5 n5 c5 a1.all_, aN bQ rN M6 a1.met_]) (fun u post => ∃ A0 n0 c0 A1 n1 c1 A2 n2 c2 M3, u = .tuple #[] ∧ post = [ag B2 79 [.slice A0 n0 c0, .slice A1 n1 c1, .slice A2 n2 c2, .map (some M3), iV r.done_], aF A0 n0 c0 r.m_.Young, aF A1 n1 c1 r.m_.Old, br A2 n2 c2 r.all_, aN bQ rN M3 r.met_, ag B1 80 [pV B2 0]]) := by
 refine bN Tryz.func117 rfl rfl ?_
 simp only [bc]
 refine run ?_
 refine gD (bo rfl rfl) ?_
 rintro _ _ ⟨B7, rfl, rfl⟩
 refine run ?_
 refine gR (aC (us := [iV a0.Kind, iV a0.N, .string a0.S]) 0 rfl rfl ca rfl) ?_
 obtain ⟨y8, hy8, h⟩ := aa h
 refine gD (am (iw hy8) zQ rfl (ae) gi) ?_
 rintro _ _ ⟨_, ⟨rfl, rfl⟩, rfl⟩
 refine run ?_
 refine ay rfl (fun g9 => ?_) (fun g9 => ?_)
 ·replace h := ah g9 h
  refine run ?_
  refine gD (bm (R := (dS .i64)) (vss := [[iV y8.1]]) (xs := [y8.1]) rfl (gG _) rfl rfl (fun _ _ hr => .cons rfl All2.nil)) ?_
  rintro _ _ ⟨A10, n10, c10, rfl, rfl⟩
  refine pv (bV 0 rfl) ?_
  obtain ⟨y11, hy11, h⟩ := aa h
  refine gD (bH (oe hy11) zU rfl (be [2, 3, 0] [5, 6, 7] [0, 1, 2, 3, 4] 8 rfl)) ?_
  rintro _ _ ⟨_, ⟨A12, n12, c12, A13, n13, c13, A14, n14, c14, M15, rfl, rfl⟩, rfl⟩
  refine nH ?_
  obtain rfl := aq h
  exact jo rfl (ad [0, 1, 2, 3, 4, 9] 10 rfl rfl) ⟨_, _, _, _, _, _, _, _, _, _, rfl, rfl⟩
 replace h := ai g9 h
 refine Ab ?_
 obtain rfl := aq h
 exact jo rfl (ad [4, 1, 2, 5, 6, 3] 7 rfl rfl) ⟨_, _, _, _, _, _, _, _, _, _, rfl, rfl⟩
def eJ (N : Nat) (a0 : (List DValue)) : Option (List DValue) :=
 bM (cD (([] : List DValue).length + a0.length)) (some (([] : List DValue) ++ a0))
theorem lu {N : Nat} {a0 : (List DValue)} {r : (List DValue)} (h : eJ N a0 = some r) : Okc Tryz.prog 108 [.slice A1 n1 c1] ([av A1 n1 c1 a0]) (fun u post => ∃ A0 n0 c0, u = .slice A0 n0 c0 ∧ post = [bD A0 n0 c0 r]) := by
 refine bN Tryz.func108 rfl rfl ?_
 simp only [bc]
 refine run ?_
 refine aB ?_
 refine run ?_
 refine gE (uS rfl Tryz.underlying25) ?_
 refine run ?_
 refine ay rfl (fun g2 => ?_) (fun g2 => ?_)
 ·replace g2 : (A1).isNone = true := by simpa using g2
  refine Dt 0 rfl ao g2 (fun hx => ?_)
  subst hx
  replace h : bM (cD (([] : List DValue).length + ([] : List DValue).length)) (some (([] : List DValue) ++ ([] : List DValue))) = some r := h
  replace h : some [] = some r := by simpa [bM] using h
  refine run ?_
  obtain rfl := aq h
  exact aQ rfl rfl ((cH aw 38 _).trans (ad [0] 2 rfl rfl)) ⟨_, _, _, rfl, rfl⟩
 refine run ?_
 refine gD (bm (R := aw) (vss := []) (xs := []) rfl (FN) rfl rfl (fun _ _ hr => All2.nil)) ?_
 rintro _ _ ⟨A4, n4, c4, rfl, rfl⟩
 refine run ?_
 obtain ⟨q5, h⟩ := ap h
 refine gD (bF 0 1 rfl rfl ao rfl rfl Tryz.underlying25 Bt rfl rfl q5) ?_
 rintro _ _ ⟨A6, n6, c6, rfl, rfl⟩
 refine run ?_
 obtain rfl := aq h
 exact aQ rfl rfl (ad [0] 2 rfl rfl) ⟨_, _, _, rfl, rfl⟩
theorem jA {r : (List DValue)} : ∀ v post, ((fun (u : Value) (post : List Chunk) => ∃ A0 n0 c0, u = .slice A0 n0 c0 ∧ post = [bD A0 n0 c0 r])) v post → ∀ c ∈ post, cZ c := by
 rintro _ _ ⟨_, _, _, rfl, rfl⟩; exact mem_cons bS (ae)
def f3 (N : Nat) (a0 : DCell) : Option DCell :=
 (eJ N a0.Slots).bind fun y5 => (eJ N a0.More).bind fun y8 => some (⟨a0.Kind, a0.Shape, a0.Flags, a0.Age, y5, y8⟩ : DCell)
theorem o5 {N : Nat} {a0 : DCell} {r : DCell} (h : f3 N a0 = some r) : Okc Tryz.prog 50 [.agg #[iV a0.Kind, iV a0.Shape, iV a0.Flags, iV a0.Age, .slice A1 n1 c1, .slice A2 n2 c2]] ([av A1 n1 c1 a0.Slots, av A2 n2 c2 a0.More]) (fun u post => ∃ A0 n0 c0 A1 n1 c1, u = .agg #[iV r.Kind, iV r.Shape, iV r.Flags, iV r.Age, .slice A0 n0 c0, .slice A1 n1 c1] ∧ post = [bD A0 n0 c0 r.Slots, bD A1 n1 c1 r.More]) := by
 refine bN Tryz.func50 rfl rfl ?_
 simp only [bc]
 refine run ?_
 refine gD (bo rfl rfl) ?_
 rintro _ _ ⟨B3, rfl, rfl⟩
 refine gD (aJ dR rfl) ?_
 rintro _ _ ⟨B4, rfl, rfl⟩
 refine run ?_
 refine aB ?_
 obtain ⟨y5, hy5, h⟩ := aa h
 obtain ⟨y8, hy8, h⟩ := aa h
 refine dK (t := [(1, pV B3 0), (2, pV B4 0)]) ?_ fU (ab _)
 refine d9 (by kernel_rfl) 7 [] [2, 5, 6] [3, 4, 5, 6, 7, 8, 9] [[], [0], [1], [], [3], [4], []] [aV (pV B3 4),
 aV (.slice A1 n1 c1),
 aX3 (fun (A7 : Option Addr) (n7 c7 : Nat) => .slice A7 n7 c7) (fun A7 n7 c7 => [bD A7 n7 c7 y5]),
 aV (pV B3 5),
 aV (.slice A2 n2 c2),
 aX3 (fun (A10 : Option Addr) (n10 c10 : Nat) => .slice A10 n10 c10) (fun A10 n10 c10 => [bD A10 n10 c10 y8]),
 aV (pV B3 4)] [] (ab _) (fM) (by kernel_rfl) rfl rfl ?_ ?_ ?_
 ·exact fL
 ·refine ac rfl ?_ ?_
  ·exact aW (cr rfl oY) rfl (aA rfl (ab _))
  refine ac rfl ?_ ?_
  ·refine eg (am (lu hy8) zV rfl (mem_cons (aj (i := 3) rfl rfl) ae) jA) rfl ?_
   rintro _ _ ⟨_, ⟨A9, n9, c9, rfl, rfl⟩, rfl⟩
   exact gX A9 n9 c9 (ab _)
  refine ac rfl ?_ ?_
  ·exact cc (aO 1 rfl rfl fe rfl) rfl (aA rfl (ab _))
  refine ac rfl ?_ ?_
  ·exact aW (cr rfl gn) rfl (aA rfl (ab _))
  refine ac rfl ?_ ?_
  ·refine eg (am (lu hy5) zV rfl (mem_cons (aj (i := 2) rfl rfl) ae) jA) rfl ?_
   rintro _ _ ⟨_, ⟨A6, n6, c6, rfl, rfl⟩, rfl⟩
   exact gX A6 n6 c6 (ab _)
  refine ac rfl ?_ ?_
  ·exact cc (aO 1 rfl rfl fe rfl) rfl (aA rfl (ab _))
  refine ac rfl ?_ ?_
  ·exact aW (cr rfl oY) rfl (aA rfl (ab _))
  exact cO
 intro A7 n7 c7 A10 n10 c10
 refine ip (t := [(5, .slice A7 n7 c7), (8, .slice A10 n10 c10), (9, pV B3 4), (1, pV B3 0), (2, pV B4 0)]) (L' := [bD A7 n7 c7 y5, bD A10 n10 c10 y8, ag B4 32 [iV 0, iV 0, iV 0, iV 0, .slice none 0 0, .slice none 0 0], ag B3 32 [iV a0.Kind, iV a0.Shape, iV a0.Flags, iV a0.Age, .slice A1 n1 c1, .slice A2 n2 c2], av A1 n1 c1 a0.Slots, av A2 n2 c2 a0.More]) ?_ fU (ab _)
 refine jY 7 rfl (by kernel_rfl) (ar (us := [.slice A7 n7 c7]) (cs' := [iV a0.Kind, iV a0.Shape, iV a0.Flags, iV a0.Age, .slice A7 n7 c7, .slice A2 n2 c2]) 3 rfl rfl rfl rfl iL rfl rfl rfl) rfl rfl ?_
 rintro _ _ rfl
 refine mY 8 rfl (by kernel_rfl) (cr rfl gn) rfl rfl rfl ?_
 refine jY 9 rfl (by kernel_rfl) (ar (us := [.slice A10 n10 c10]) (cs' := [iV a0.Kind, iV a0.Shape, iV a0.Flags, iV a0.Age, .slice A7 n7 c7, .slice A10 n10 c10]) 3 rfl rfl rfl rfl iL rfl rfl rfl) rfl rfl ?_
 rintro _ _ rfl
 refine fT (by kernel_rfl) ?_
 refine run ?_
 refine gR (aC (us := [iV a0.Kind, iV a0.Shape, iV a0.Flags, iV a0.Age, .slice A7 n7 c7, .slice A10 n10 c10]) 3 rfl rfl bu rfl) ?_
 refine gO (ar (us := [iV a0.Kind, iV a0.Shape, iV a0.Flags, iV a0.Age, .slice A7 n7 c7, .slice A10 n10 c10]) (cs' := [iV a0.Kind, iV a0.Shape, iV a0.Flags, iV a0.Age, .slice A7 n7 c7, .slice A10 n10 c10]) 2 rfl rfl rfl rfl bz rfl rfl rfl) ?_
 rintro _ _ rfl
 refine bC ([bD A7 n7 c7 y5, bD A10 n10 c10 y8, ag B4 32 [iV a0.Kind, iV a0.Shape, iV a0.Flags, iV a0.Age, .slice A7 n7 c7, .slice A10 n10 c10], ag B3 32 [iV a0.Kind, iV a0.Shape, iV a0.Flags, iV a0.Age, .slice A7 n7 c7, .slice A10 n10 c10], av A1 n1 c1 a0.Slots, av A2 n2 c2 a0.More]) rfl ?_
 refine run ?_
 obtain rfl := aq h
 exact eP (rs := [.cell 2 32]) (vs := [.agg #[iV a0.Kind, iV a0.Shape, iV a0.Flags, iV a0.Age, .slice A7 n7 c7, .slice A10 n10 c10]]) rfl (.cons (dn 2 rfl rfl bu) .nil) rfl (ad [0, 1] 6 rfl rfl) ⟨_, _, _, _, _, _, rfl, rfl⟩
theorem mT {r : DCell} : ∀ v post, ((fun (u : Value) (post : List Chunk) => ∃ A0 n0 c0 A1 n1 c1, u = .agg #[iV r.Kind, iV r.Shape, iV r.Flags, iV r.Age, .slice A0 n0 c0, .slice A1 n1 c1] ∧ post = [bD A0 n0 c0 r.Slots, bD A1 n1 c1 r.More])) v post → ∀ c ∈ post, cZ c := by
 rintro _ _ ⟨_, _, _, _, _, _, rfl, rfl⟩; exact mem_cons bS (mem_cons bS (ae))
def eb (N : Nat) (a0 : DMemory) (a1 : Int) : Option DCell :=
 (iS N a0 a1).bind fun y5 => bif !y5.2.2 then (some (⟨0, 0, 0, 0, [], []⟩ : DCell)) else ((aG y5.1 y5.2.1).bind fun x10 => (f3 N x10).bind fun y14 => some y14)
theorem kY {N : Nat} {a0 : DMemory} {a1 : Int} {r : DCell} (h : eb N a0 a1 = some r) : Okc Tryz.prog 16 [.agg #[.slice A1 n1 c1, .slice A2 n2 c2], iV a1] ([aF A1 n1 c1 a0.Young, aF A2 n2 c2 a0.Old]) (fun u post => ∃ A0 n0 c0 A1 n1 c1, u = .agg #[iV r.Kind, iV r.Shape, iV r.Flags, iV r.Age, .slice A0 n0 c0, .slice A1 n1 c1] ∧ post = [bD A0 n0 c0 r.Slots, bD A1 n1 c1 r.More]) := by
 refine bN Tryz.func16 rfl rfl ?_
 simp only [bc]
 refine run ?_
 refine gD (bo rfl rfl) ?_
 rintro _ _ ⟨B3, rfl, rfl⟩
 refine gD (aJ dR rfl) ?_
 rintro _ _ ⟨B4, rfl, rfl⟩
 refine run ?_
 refine gR (aC (us := [.slice A1 n1 c1, .slice A2 n2 c2]) 1 rfl rfl cN rfl) ?_
 refine run ?_
 obtain ⟨y5, hy5, h⟩ := aa h
 refine gD (bH (pK hy5) FF rfl (be [2, 3] [] [0, 1, 2, 3] 4 rfl)) ?_
 rintro _ _ ⟨_, ⟨A6, n6, c6, rfl, rfl⟩, rfl⟩
 refine run ?_
 refine aB ?_
 refine run ?_
 refine ay rfl (fun g7 => ?_) (fun g7 => ?_)
 ·replace h := ah g7 h
  refine run ?_
  refine gE (cU rfl (zY)) ?_
  refine gO (ar (us := [iV 0, iV 0, iV 0, iV 0, .slice none 0 0, .slice none 0 0]) (cs' := [iV 0, iV 0, iV 0, iV 0, .slice none 0 0, .slice none 0 0]) 1 rfl rfl rfl rfl bz rfl rfl rfl) ?_
  rintro _ _ rfl
  refine run ?_
  obtain rfl := aq h
  exact eP (rs := [.cell 4 32]) (vs := [.agg #[iV 0, iV 0, iV 0, iV 0, .slice none 0 0, .slice none 0 0]]) rfl (.cons (dn 1 rfl rfl bu) .nil) rfl ((cH aw 38 _).trans ((cH aw 38 _).trans (ad [1, 0] 7 rfl rfl))) ⟨_, _, _, _, _, _, rfl, rfl⟩
 replace h := ai g7 h
 refine run ?_
 obtain ⟨x10, hx10, h⟩ := aa h
 obtain ⟨lx10, ux10, hx10⟩ := au hx10
 refine gR (aM 0 rfl ao rfl rfl Tryz.underlying22 bz lx10 ux10) ?_
 refine va 0 rfl hx10 (db x10) ?_
 rintro _ _ ⟨A11, n11, c11, A12, n12, c12, rfl, rfl⟩
 refine gR (nm (us := [iV x10.Kind, iV x10.Shape, iV x10.Flags, iV x10.Age, .slice A11 n11 c11, .slice A12 n12 c12]) 0 rfl rfl bu rfl) ?_
 obtain ⟨y14, hy14, h⟩ := aa h
 refine gD (am (o5 hy14) Cu rfl (mem_cons (aj (i := 1) rfl rfl) (mem_cons (aj (i := 2) rfl rfl) ae)) mT) ?_
 rintro _ _ ⟨_, ⟨A15, n15, c15, A16, n16, c16, rfl, rfl⟩, rfl⟩
 refine gO (ar (us := [iV y14.Kind, iV y14.Shape, iV y14.Flags, iV y14.Age, .slice A15 n15 c15, .slice A16 n16 c16]) (cs' := [iV y14.Kind, iV y14.Shape, iV y14.Flags, iV y14.Age, .slice A15 n15 c15, .slice A16 n16 c16]) 6 rfl rfl rfl rfl bz rfl rfl rfl) ?_
 rintro _ _ rfl
 refine bC ([bD A15 n15 c15 y14.Slots, bD A16 n16 c16 y14.More, pq (cA (.slice A6 n6 c6) y5.2.1.toNat 6 0) [iV x10.Kind, iV x10.Shape, iV x10.Flags, iV x10.Age, .slice A11 n11 c11, .slice A12 n12 c12], av A11 n11 c11 x10.Slots, av A12 n12 c12 x10.More, aF A6 n6 c6 y5.1, ag B4 32 [iV y14.Kind, iV y14.Shape, iV y14.Flags, iV y14.Age, .slice A15 n15 c15, .slice A16 n16 c16], ag B3 24 [.slice A1 n1 c1, .slice A2 n2 c2], aF A1 n1 c1 a0.Young, aF A2 n2 c2 a0.Old]) rfl ?_
 refine run ?_
 obtain rfl := aq h
 exact eP (rs := [.cell 4 32]) (vs := [.agg #[iV y14.Kind, iV y14.Shape, iV y14.Flags, iV y14.Age, .slice A15 n15 c15, .slice A16 n16 c16]]) rfl (.cons (dn 6 rfl rfl bu) .nil) rfl (ad [0, 1] 10 rfl rfl) ⟨_, _, _, _, _, _, rfl, rfl⟩
theorem iU {r : DCell} : ∀ v post, ((fun (u : Value) (post : List Chunk) => ∃ A0 n0 c0 A1 n1 c1, u = .agg #[iV r.Kind, iV r.Shape, iV r.Flags, iV r.Age, .slice A0 n0 c0, .slice A1 n1 c1] ∧ post = [bD A0 n0 c0 r.Slots, bD A1 n1 c1 r.More])) v post → ∀ c ∈ post, cZ c := by
 rintro _ _ ⟨_, _, _, _, _, _, rfl, rfl⟩; exact mem_cons bS (mem_cons bS (ae))
def cell_all_c1_l15 (N : Nat) {σ : Type} (fy : (Bool × DValue) → σ → Option (Bool × σ)) (a1 : DCell) : Nat → Int → σ → Option σ
 | 0, _, _ => none
 | m15 + 1, p16, p17 => bif decide (p16 < (a1.More.length : Int)) then ((aG a1.More p16).bind fun x19 => (bif !decide (a1.Kind = 8) then ((bif !decide (a1.Kind = 10) then (some true) else (some (decide (p16.tmod 2 = 0)))).bind fun b22 => some b22) else (some false)).bind fun b21 => (fy (b21, x19) p17).bind fun y23 => bif !y23.1 then (some y23.2) else (bM (in64 (p16 + 1)) ((cell_all_c1_l15 N fy a1 m15) (p16 + 1) y23.2))) else (some p17)
def mO (N : Nat) {σ : Type} (fy : (Bool × DValue) → σ → Option (Bool × σ)) (a1 : DCell) (p5 : σ) : Option σ :=
 cell_all_c1_l15 N fy a1 N 0 p5
def cell_all_c1_l6 (N : Nat) {σ : Type} (fy : (Bool × DValue) → σ → Option (Bool × σ)) (a1 : DCell) : Nat → Int → σ → Option σ
 | 0, _, _ => none
 | m6 + 1, p7, p8 => bif decide (p7 < (a1.Slots.length : Int)) then ((aG a1.Slots p7).bind fun x10 => (fy (true, x10) p8).bind fun y12 => bif !y12.1 then (some y12.2) else (bM (in64 (p7 + 1)) ((cell_all_c1_l6 N fy a1 m6) (p7 + 1) y12.2))) else (mO N fy a1 p8)
def i7 (N : Nat) {σ : Type} (a1 : DCell) (fy : (Bool × DValue) → σ → Option (Bool × σ)) (s0 : σ) : Option σ :=
 cell_all_c1_l6 N fy a1 N 0 s0
theorem qn {N : Nat} {σ : Type} {a1 : DCell} {fy : (Bool × DValue) → σ → Option (Bool × σ)} {s0 : σ} {r : σ} (h : i7 N a1 fy s0 = some r) {l : Nat} {G : σ → List Chunk} (hY : nF Tryz.prog l G (fun x => [.bool x.1, .agg #[iV x.2.Kind, iV x.2.N, .string x.2.S]]) fy) : Okc Tryz.prog 162 [.func (.yield l) #[] #[], pV B1 0] (bU B1 32 [iV a1.Kind, iV a1.Shape, iV a1.Flags, iV a1.Age, .slice A2 n2 c2, .slice A3 n3 c3] :: av A2 n2 c2 a1.Slots :: av A3 n3 c3 a1.More :: (G s0)) (fun u post => u = .tuple #[] ∧ post = G r) := by
 refine bN Tryz.func162 rfl rfl ?_
 simp only [bc]
 refine aS (fun s L => ∃ p5, mO N fy a1 p5 = some r ∧ s = [(0, .func (.yield l) #[] #[]), (1, pV B1 0)] ∧ L = av A2 n2 c2 a1.Slots :: av A3 n3 c3 a1.More :: bU B1 32 [iV a1.Kind, iV a1.Shape, iV a1.Flags, iV a1.Age, .slice A2 n2 c2, .slice A3 n3 c3] :: (G p5)) ?_ ?_
 ·refine run ?_
  refine gR (ci 0 rfl rfl fe rfl) ?_
  refine gR (aL 1 rfl ao rfl Tryz.underlying25) ?_
  refine run ?_
  refine bp (fun m s L => ∃ p7 p8, cell_all_c1_l6 N fy a1 m p7 p8 = some r ∧ s = [(0, .func (.yield l) #[] #[]), (1, pV B1 0), (9, .slice A2 n2 c2), (10, iV (a1.Slots.length : Int)), (11, iV p7)] ∧ L = av A2 n2 c2 a1.Slots :: av A3 n3 c3 a1.More :: bU B1 32 [iV a1.Kind, iV a1.Shape, iV a1.Flags, iV a1.Age, .slice A2 n2 c2, .slice A3 n3 c3] :: (G p8)) N _ _ ⟨0, s0, h, rfl, rfl⟩ sA (ad [1, 2, 0] 3 rfl rfl) ?_
  rintro (_ | m6) _ _ ⟨p7, p8, h, rfl, rfl⟩
  ·exact aD h
  rw [cell_all_c1_l6.eq_2] at h
  refine run ?_
  refine aB ?_
  refine ay rfl (fun g9 => ?_) (fun g9 => ?_)
  ·replace h := ah g9 h
   refine run ?_
   refine aB ?_
   refine run ?_
   obtain ⟨x10, hx10, h⟩ := aa h
   obtain ⟨lx10, ux10, hx10⟩ := au hx10
   refine gR (aM 0 rfl ao rfl rfl Tryz.underlying25 bh lx10 ux10) ?_
   refine gR (bA (us := [iV x10.Kind, iV x10.N, .string x10.S]) 0 rfl ao rfl hx10 ca (fun _ _ _ h => by rw [show _ = _ from h]; rfl)) ?_
   refine gD (aJ f4 rfl) ?_
   rintro _ _ ⟨B11, rfl, rfl⟩
   refine gO (ar (us := [iV x10.Kind, iV x10.N, .string x10.S]) (cs' := [iV x10.Kind, iV x10.N, .string x10.S]) 0 rfl rfl rfl rfl bh rfl rfl rfl) ?_
   rintro _ _ rfl
   refine run ?_
   refine gR (aC (us := [iV x10.Kind, iV x10.N, .string x10.S]) 0 rfl rfl ca rfl) ?_
   obtain ⟨y12, hy12, h⟩ := aa h
   refine gD (qI (a := (true, x10)) [ag B11 38 [iV x10.Kind, iV x10.N, .string x10.S], av A2 n2 c2 a1.Slots, av A3 n3 c3 a1.More, bU B1 32 [iV a1.Kind, iV a1.Shape, iV a1.Flags, iV a1.Age, .slice A2 n2 c2, .slice A3 n3 c3]] hY hy12 rfl rfl) ?_
   rintro _ _ ⟨rfl, rfl⟩
   refine run ?_
   refine ay rfl (fun g13 => ?_) (fun g13 => ?_)
   ·replace h := ah g13 h
    refine run ?_
    obtain rfl := aq h
    exact yM rfl (ad [] 4 rfl rfl) ⟨rfl, rfl⟩
   replace h := ai g13 h
   refine run ?_
   obtain ⟨q14, h⟩ := ap h
   refine gE (aR rfl rfl q14.1 q14.2) ?_
   refine run ?_
   exact ⟨m6, _, _, Nat.lt_succ_self _, ⟨p7 + 1, y12.2, h, rfl, rfl⟩, sA, ad [1, 2, 3] 4 rfl rfl⟩
  replace h := ai g9 h
  refine run ?_
  exact ⟨_, _, ⟨p8, h, rfl, rfl⟩, sA, ad [0, 1, 2] 3 rfl rfl⟩
 rintro _ _ ⟨p5, h, rfl, rfl⟩
 refine run ?_
 refine gR (ci 2 rfl rfl fe rfl) ?_
 refine gR (aL 1 rfl ao rfl Tryz.underlying25) ?_
 refine run ?_
 refine bp (fun m s L => ∃ p16 p17, cell_all_c1_l15 N fy a1 m p16 p17 = some r ∧ s = [(0, .func (.yield l) #[] #[]), (1, pV B1 0), (21, .slice A3 n3 c3), (22, iV (a1.More.length : Int)), (23, iV p16)] ∧ L = av A3 n3 c3 a1.More :: av A2 n2 c2 a1.Slots :: bU B1 32 [iV a1.Kind, iV a1.Shape, iV a1.Flags, iV a1.Age, .slice A2 n2 c2, .slice A3 n3 c3] :: (G p17)) N _ _ ⟨0, p5, h, rfl, rfl⟩ sA (ad [1, 0, 2] 3 rfl rfl) ?_
 rintro (_ | m15) _ _ ⟨p16, p17, h, rfl, rfl⟩
 ·exact aD h
 rw [cell_all_c1_l15.eq_2] at h
 refine run ?_
 refine aB ?_
 refine ay rfl (fun g18 => ?_) (fun g18 => ?_)
 ·replace h := ah g18 h
  refine run ?_
  refine aB ?_
  refine run ?_
  obtain ⟨x19, hx19, h⟩ := aa h
  obtain ⟨lx19, ux19, hx19⟩ := au hx19
  refine gR (aM 0 rfl ao rfl rfl Tryz.underlying25 bh lx19 ux19) ?_
  refine gR (bA (us := [iV x19.Kind, iV x19.N, .string x19.S]) 0 rfl ao rfl hx19 ca (fun _ _ _ h => by rw [show _ = _ from h]; rfl)) ?_
  refine gD (aJ f4 rfl) ?_
  rintro _ _ ⟨B20, rfl, rfl⟩
  refine run ?_
  refine gO (ar (us := [iV x19.Kind, iV x19.N, .string x19.S]) (cs' := [iV x19.Kind, iV x19.N, .string x19.S]) 0 rfl rfl rfl rfl bh rfl rfl rfl) ?_
  rintro _ _ rfl
  refine bC (ag B20 38 [iV x19.Kind, iV x19.N, .string x19.S] :: av A3 n3 c3 a1.More :: av A2 n2 c2 a1.Slots :: bU B1 32 [iV a1.Kind, iV a1.Shape, iV a1.Flags, iV a1.Age, .slice A2 n2 c2, .slice A3 n3 c3] :: (G p17)) rfl ?_
  refine run ?_
  refine gR (ci 3 rfl rfl eo rfl) ?_
  refine run ?_
  obtain ⟨b21, hb21, h⟩ := aa h
  refine aX 9 40 b21 ?_ ?_
  ·clear h
   refine aY 31 rfl (fun g21 => ?_) (fun g21 => ?_)
   ·have h := ah g21 hb21
    refine run ?_
    refine cY (ci 3 rfl rfl eo rfl) rfl (bd g21 rfl) rfl ?_
    refine run ?_
    obtain ⟨b22, hb22, h⟩ := aa h
    refine aX 4 39 b22 ?_ ?_
    ·clear h
     refine aY 35 rfl (fun g22 => ?_) (fun g22 => ?_)
     ·have h := ah g22 hb22
      refine run ?_
      obtain rfl := aq h
      exact ak sA (ad [0, 1, 2, 3] 4 rfl rfl)
     have h := ai g22 hb22
     refine run ?_
     refine ri (sc rfl rfl (by decide)) rfl (gm g22 rfl) rfl ?_
     refine run ?_
     obtain rfl := aq h
     exact ak sA (ad [0, 1, 2, 3] 4 rfl rfl)
    refine run ?_
    obtain rfl := aq h
    exact ak sA (ad [0, 1, 2, 3] 4 rfl rfl)
   have h := ai g21 hb21
   refine run ?_
   obtain rfl := aq h
   exact ak sA (ad [0, 1, 2, 3] 4 rfl rfl)
  refine run ?_
  refine gR (aC (us := [iV x19.Kind, iV x19.N, .string x19.S]) 0 rfl rfl ca rfl) ?_
  obtain ⟨y23, hy23, h⟩ := aa h
  refine gD (qI (a := (b21, x19)) [ag B20 38 [iV x19.Kind, iV x19.N, .string x19.S], av A3 n3 c3 a1.More, av A2 n2 c2 a1.Slots, bU B1 32 [iV a1.Kind, iV a1.Shape, iV a1.Flags, iV a1.Age, .slice A2 n2 c2, .slice A3 n3 c3]] hY hy23 rfl rfl) ?_
  rintro _ _ ⟨rfl, rfl⟩
  refine run ?_
  refine ay rfl (fun g24 => ?_) (fun g24 => ?_)
  ·replace h := ah g24 h
   refine run ?_
   obtain rfl := aq h
   exact yM rfl (ad [] 4 rfl rfl) ⟨rfl, rfl⟩
  replace h := ai g24 h
  refine run ?_
  obtain ⟨q25, h⟩ := ap h
  refine gE (aR rfl rfl q25.1 q25.2) ?_
  refine run ?_
  exact ⟨m15, _, _, Nat.lt_succ_self _, ⟨p16 + 1, y23.2, h, rfl, rfl⟩, sA, ad [1, 2, 3] 4 rfl rfl⟩
 replace h := ai g18 h
 refine run ?_
 obtain rfl := aq h
 exact jo rfl (ad [] 3 rfl rfl) ⟨rfl, rfl⟩
def mP (N : Nat) (a0 : DCell) : Option Unit :=
 some ()
theorem uW {N : Nat} {a0 : DCell} {r : Unit} (h : mP N a0 = some r) : Okc Tryz.prog 109 [.agg #[iV a0.Kind, iV a0.Shape, iV a0.Flags, iV a0.Age, .slice A1 n1 c1, .slice A2 n2 c2]] ([av A1 n1 c1 a0.Slots, av A2 n2 c2 a0.More]) (fun u post => ∃ B900, u = .func (.func 162) #[] #[pV B900 0] ∧ post = [ag B900 32 [iV a0.Kind, iV a0.Shape, iV a0.Flags, iV a0.Age, .slice A1 n1 c1, .slice A2 n2 c2]]) := by
 refine bN Tryz.func109 rfl rfl ?_
 simp only [bc]
 refine run ?_
 refine gD (bo rfl rfl) ?_
 rintro _ _ ⟨B3, rfl, rfl⟩
 refine run ?_
 refine gE (dU rfl) ?_
 refine run ?_
 obtain rfl := aq h
 exact aQ rfl rfl (ad [0] 3 rfl rfl) ⟨_, rfl, rfl⟩
theorem rO {a0 : DCell} {A1 : Option Addr} {n1 : Nat} {c1 : Nat} {A2 : Option Addr} {n2 : Nat} {c2 : Nat} : ∀ v post, ((fun (u : Value) (post : List Chunk) => ∃ B900, u = .func (.func 162) #[] #[pV B900 0] ∧ post = [ag B900 32 [iV a0.Kind, iV a0.Shape, iV a0.Flags, iV a0.Age, .slice A1 n1 c1, .slice A2 n2 c2]])) v post → ∀ c ∈ post, cZ c := by
 rintro _ _ ⟨_, rfl, rfl⟩; exact mem_cons mI (ae)
def iE (N : Nat) (a0 : DValue) : Option Bool :=
 (bif decide (a0.Kind = 7) then (some true) else (some (decide (a0.Kind = 9)))).bind fun b2 => some b2
theorem nU {N : Nat} {a0 : DValue} {r : Bool} (h : iE N a0 = some r) : Okc Tryz.prog 160 [.agg #[iV a0.Kind, iV a0.N, .string a0.S]] ([]) (fun u post => u = .bool r ∧ post = []) := by
 refine bN Tryz.func160 rfl rfl ?_
 simp only [bc]
 refine run ?_
 refine gD (bo rfl rfl) ?_
 rintro _ _ ⟨B1, rfl, rfl⟩
 refine run ?_
 obtain ⟨b2, hb2, h⟩ := aa h
 refine aX 4 10 b2 ?_ ?_
 ·clear h
  refine aY 6 rfl (fun g2 => ?_) (fun g2 => ?_)
  ·have h := ah g2 hb2
   refine run ?_
   obtain rfl := aq h
   exact ak sA (ad [0] 1 rfl rfl)
  have h := ai g2 hb2
  refine run ?_
  obtain rfl := aq h
  exact ak sA (ad [0] 1 rfl rfl)
 refine run ?_
 obtain rfl := aq h
 exact aQ rfl rfl (ad [] 1 rfl rfl) ⟨rfl, rfl⟩
theorem lG {r : Bool} : ∀ v post, ((fun (u : Value) (post : List Chunk) => u = .bool r ∧ post = [])) v post → ∀ c ∈ post, cZ c := by
 rintro _ _ ⟨rfl, rfl⟩; exact ae
def dw (N : Nat) (a1 : Bool) (x8 : Bool × DValue) : ((List Int)) → Option (Option Exit × (List Int))
 | p9 => (bif x8.1 == a1 then ((iE N x8.2).bind fun y14 => some y14) else (some false)).bind fun b13 => bif b13 then (bM (cD (p9.length + ([x8.2.N] : List Int).length)) (some (none, p9 ++ ([x8.2.N] : List Int)))) else (some (none, p9))
def fS (N : Nat) (a0 : DCell) (a1 : Bool) : Option (List Int) :=
 (mP N a0).bind fun y6 => (i7 N a0 (cK (fun x st => dw N a1 x st)) (none, [])).bind fun y10 => oz y10.1 (some y10.2) none (fun _ => none)
theorem nE {N : Nat} {a0 : DCell} {a1 : Bool} {r : (List Int)} (h : fS N a0 a1 = some r) : Okc Tryz.prog 114 [.agg #[iV a0.Kind, iV a0.Shape, iV a0.Flags, iV a0.Age, .slice A1 n1 c1, .slice A2 n2 c2], .bool a1] ([av A1 n1 c1 a0.Slots, av A2 n2 c2 a0.More]) (fun u post => ∃ A0 n0 c0, u = .slice A0 n0 c0 ∧ post = [br A0 n0 c0 r]) := by
 refine bN Tryz.func114 rfl rfl ?_
 simp only [bc]
 refine run ?_
 refine gD (bo rfl rfl) ?_
 rintro _ _ ⟨B3, rfl, rfl⟩
 refine gD (bo rfl rfl) ?_
 rintro _ _ ⟨B4, rfl, rfl⟩
 refine run ?_
 refine gD (aJ vP rfl) ?_
 rintro _ _ ⟨B5, rfl, rfl⟩
 refine run ?_
 refine aB ?_
 refine run ?_
 refine gR (aC (us := [iV a0.Kind, iV a0.Shape, iV a0.Flags, iV a0.Age, .slice A1 n1 c1, .slice A2 n2 c2]) 2 rfl rfl bu rfl) ?_
 obtain ⟨y6, hy6, h⟩ := aa h
 refine gD (am (uW hy6) Di rfl (mem_cons (aj (i := 3) rfl rfl) (mem_cons (aj (i := 4) rfl rfl) ae)) rO) ?_
 rintro _ _ ⟨_, ⟨B7, rfl, rfl⟩, rfl⟩
 refine nH ?_
 refine lN ?_
 refine dK ?_ cw (fO 0 rfl)
 obtain ⟨y10, hy10, h⟩ := aa h
 refine mZ (en := (fun x => [.bool x.1, .agg #[iV x.2.Kind, iV x.2.N, .string x.2.S]])) (fun x st => dw N a1 x st) (fun (st : (List Int)) (mz : ((Option Addr × Nat × Nat))) => [ag B4 4 [.bool a1], dz (dS .i64) 3 (.slice mz.1 mz.2.1 mz.2.2) st, ag B5 35 [.slice mz.1 mz.2.1 mz.2.2]]) [bU B7 32 [iV a0.Kind, iV a0.Shape, iV a0.Flags, iV a0.Age, .slice A1 n1 c1, .slice A2 n2 c2], av A1 n1 c1 a0.Slots, av A2 n2 c2 a0.More] ([]) ((none, 0, 0)) rfl rfl Da rfl (fun _ => rfl) (fun l G hY => (qn hy10 hY).mono fun _ _ hh => hh.2) ((cH (dS .i64) 3 _).trans (be [1, 5, 6] [] [3, 0, 2] 7 rfl)) h ?_ ?_ ?_ ?_
 ·rintro l x8 p9 je sr8 ⟨A9, n9, c9⟩ h
  replace h : dw N a1 x8 p9 = some (je, sr8) := h
  simp only [sd, List.zip_cons_cons, List.zip_nil_left, List.zip_nil_right, List.reverse_cons, List.reverse_nil, List.nil_append, List.cons_append]
  refine run ?_
  refine gD (aJ f4 rfl) ?_
  rintro _ _ ⟨B12, rfl, rfl⟩
  refine gO (ar (us := [iV x8.2.Kind, iV x8.2.N, .string x8.2.S]) (cs' := [iV x8.2.Kind, iV x8.2.N, .string x8.2.S]) 0 rfl rfl rfl rfl bh rfl rfl rfl) ?_
  rintro _ _ rfl
  refine run ?_
  refine gE (Fn rfl rfl Tryz.underlying4) ?_
  refine run ?_
  obtain ⟨b13, hb13, h⟩ := aa h
  refine aX 3 18 b13 ?_ ?_
  ·clear h
   refine aY 15 rfl (fun g13 => ?_) (fun g13 => ?_)
   ·have h := ah g13 hb13
    refine cY (aC (us := [iV x8.2.Kind, iV x8.2.N, .string x8.2.S]) 0 rfl rfl ca rfl) rfl (bd g13 rfl) rfl ?_
    obtain ⟨y14, hy14, h⟩ := aa h
    refine dj (am (nU hy14) zS rfl (ae) lG) rfl (bd g13 rfl) rfl ?_
    rintro _ _ ⟨_, ⟨rfl, rfl⟩, rfl⟩
    refine run ?_
    obtain rfl := aq h
    exact ak sA (ad [0, 1, 2, 3] 4 rfl rfl)
   have h := ai g13 hb13
   refine run ?_
   obtain rfl := aq h
   exact ak sA (ad [0, 1, 2, 3] 4 rfl rfl)
  refine run ?_
  refine ay rfl (fun g15 => ?_) (fun g15 => ?_)
  ·replace h := ah g15 h
   refine run ?_
   refine gD (bm (R := (dS .i64)) (vss := [[iV x8.2.N]]) (xs := [x8.2.N]) rfl (gG _) rfl rfl (fun _ _ hr => .cons rfl All2.nil)) ?_
   rintro _ _ ⟨A16, n16, c16, rfl, rfl⟩
   obtain ⟨q17, h⟩ := ap h
   refine gD (bF 3 0 rfl rfl aH rfl rfl Tryz.underlying35 Ac rfl rfl q17) ?_
   rintro _ _ ⟨A18, n18, c18, rfl, rfl⟩
   refine bC ([br A16 n16 c16 ([x8.2.N] : List Int), ag B12 38 [iV x8.2.Kind, iV x8.2.N, .string x8.2.S], ag B4 4 [.bool a1], br A18 n18 c18 (p9 ++ ([x8.2.N] : List Int)), ag B5 35 [.slice A9 n9 c9]]) rfl ?_
   refine gO (ar (us := [.slice A18 n18 c18]) (cs' := [.slice A18 n18 c18]) 4 rfl rfl rfl rfl iK rfl rfl rfl) ?_
   rintro _ _ rfl
   refine run ?_
   obtain ⟨rfl, rfl⟩ := Prod.mk.inj (Option.some.inj h)
   exact ux ((ad [2, 3, 4] 5 rfl rfl).trans (dF (A18, n18, c18) rfl))
  replace h := ai g15 h
  refine run ?_
  obtain ⟨rfl, rfl⟩ := Prod.mk.inj (Option.some.inj h)
  exact ux ((ad [1, 2, 3] 4 rfl rfl).trans (dF (A9, n9, c9) rfl))
 ·rintro ⟨A9, n9, c9⟩ h
  refine jZ ([ag B4 4 [.bool a1], br A9 n9 c9 y10.2, ag B5 35 [.slice A9 n9 c9]]) rfl ?_
  refine run ?_
  obtain rfl := aq h
  exact aQ rfl rfl (ad [1] 3 rfl rfl) ⟨_, _, _, rfl, rfl⟩
 ·rintro ⟨A9, n9, c9⟩ h
  exact aD h
 rintro i ⟨A9, n9, c9⟩ h
 exact aD h
theorem lL {r : (List Int)} : ∀ v post, ((fun (u : Value) (post : List Chunk) => ∃ A0 n0 c0, u = .slice A0 n0 c0 ∧ post = [br A0 n0 c0 r])) v post → ∀ c ∈ post, cZ c := by
 rintro _ _ ⟨_, _, _, rfl, rfl⟩; exact mem_cons bS (ae)
def dQ (N : Nat) (a0 : DCell) : Option (List Int) :=
 (fS N a0 true).bind fun y4 => some y4
theorem fE {N : Nat} {a0 : DCell} {r : (List Int)} (h : dQ N a0 = some r) : Okc Tryz.prog 55 [.agg #[iV a0.Kind, iV a0.Shape, iV a0.Flags, iV a0.Age, .slice A1 n1 c1, .slice A2 n2 c2]] ([av A1 n1 c1 a0.Slots, av A2 n2 c2 a0.More]) (fun u post => ∃ A0 n0 c0, u = .slice A0 n0 c0 ∧ post = [br A0 n0 c0 r]) := by
 refine bN Tryz.func55 rfl rfl ?_
 simp only [bc]
 refine run ?_
 refine gD (bo rfl rfl) ?_
 rintro _ _ ⟨B3, rfl, rfl⟩
 refine run ?_
 refine gR (aC (us := [iV a0.Kind, iV a0.Shape, iV a0.Flags, iV a0.Age, .slice A1 n1 c1, .slice A2 n2 c2]) 0 rfl rfl bu rfl) ?_
 obtain ⟨y4, hy4, h⟩ := aa h
 refine gD (am (nE hy4) Dh rfl (mem_cons (aj (i := 1) rfl rfl) (mem_cons (aj (i := 2) rfl rfl) ae)) lL) ?_
 rintro _ _ ⟨_, ⟨A5, n5, c5, rfl, rfl⟩, rfl⟩
 refine run ?_
 obtain rfl := aq h
 exact aQ rfl rfl (ad [0] 4 rfl rfl) ⟨_, _, _, rfl, rfl⟩
theorem ef {r : (List Int)} : ∀ v post, ((fun (u : Value) (post : List Chunk) => ∃ A0 n0 c0, u = .slice A0 n0 c0 ∧ post = [br A0 n0 c0 r])) v post → ∀ c ∈ post, cZ c := by
 rintro _ _ ⟨_, _, _, rfl, rfl⟩; exact mem_cons bS (ae)
def reach_row_through_l6 (N : Nat) : Nat → (List DCell) → (List DCell) → (List Int) → (List (Int × Unit)) → Int → Option DRow
 | 0, _, _, _, _, _ => none
 | m6 + 1, p7, p8, p9, p10, p11 => bif decide (p11 < (p9.length : Int)) then ((aG p9 p11).bind fun x13 => (eb N (⟨p7, p8⟩ : DMemory) x13).bind fun y14 => (dQ N y14).bind fun y17 => (dk N (⟨(⟨p7, p8⟩ : DMemory), p9, p10, p11⟩ : DRow) y17).bind fun y19 => bM (in64 (y19.done_ + 1)) ((reach_row_through_l6 N m6) y19.m_.Young y19.m_.Old y19.all_ y19.met_ (y19.done_ + 1))) else (some (⟨(⟨p7, p8⟩ : DMemory), p9, p10, p11⟩ : DRow))
def ei (N : Nat) (a0 : DRow) : Option DRow :=
 reach_row_through_l6 N N a0.m_.Young a0.m_.Old a0.all_ a0.met_ a0.done_
theorem kX {N : Nat} {a0 : DRow} {r : DRow} (h : ei N a0 = some r) : Okc Tryz.prog 68 [pV B1 0] ([aF A2 n2 c2 a0.m_.Young, aF A3 n3 c3 a0.m_.Old, ag B1 79 [.slice A2 n2 c2, .slice A3 n3 c3, .slice A4 n4 c4, .map (some M5), iV a0.done_], br A4 n4 c4 a0.all_, aN bQ rN M5 a0.met_]) (fun u post => ∃ A0 n0 c0 A1 n1 c1 A2 n2 c2 M3, u = .tuple #[] ∧ post = [ag B1 79 [.slice A0 n0 c0, .slice A1 n1 c1, .slice A2 n2 c2, .map (some M3), iV r.done_], aF A0 n0 c0 r.m_.Young, aF A1 n1 c1 r.m_.Old, br A2 n2 c2 r.all_, aN bQ rN M3 r.met_]) := by
 refine bN Tryz.func68 rfl rfl ?_
 simp only [bc]
 refine fG ?_
 refine bp (fun m s L => ∃ p7 p8 p9 p10 p11 A7 n7 c7 A8 n8 c8 A9 n9 c9 M10, reach_row_through_l6 N m p7 p8 p9 p10 p11 = some r ∧ s = [(0, pV B1 0)] ∧ L = [aF A7 n7 c7 p7, aF A8 n8 c8 p8, br A9 n9 c9 p9, aN bQ rN M10 p10, ag B1 79 [.slice A7 n7 c7, .slice A8 n8 c8, .slice A9 n9 c9, .map (some M10), iV p11]]) N _ _ ⟨a0.m_.Young, a0.m_.Old, a0.all_, a0.met_, a0.done_, A2, n2, c2, A3, n3, c3, A4, n4, c4, M5, h, rfl, rfl⟩ sA (ad [0, 1, 3, 4, 2] 5 rfl rfl) ?_
 rintro (_ | m6) _ _ ⟨p7, p8, p9, p10, p11, A7, n7, c7, A8, n8, c8, A9, n9, c9, M10, h, rfl, rfl⟩
 ·exact aD h
 rw [reach_row_through_l6.eq_2] at h
 refine aB ?_
 refine aB ?_
 refine dB (by kernel_rfl) _ (ab _) ?_
 refine aI 0 rfl (by kernel_rfl) (az rfl) rfl rfl ?_
 refine aI 1 rfl (by kernel_rfl) (aZ rfl) rfl rfl ?_
 refine aI 2 rfl (by kernel_rfl) (cr rfl zG) rfl rfl ?_
 refine bv 3 rfl (by kernel_rfl) (aO 4 rfl rfl eo rfl) rfl rfl ?_
 refine aI 4 rfl (by kernel_rfl) (az rfl) rfl rfl ?_
 refine aI 5 rfl (by kernel_rfl) (aZ rfl) rfl rfl ?_
 refine aI 6 rfl (by kernel_rfl) (cr rfl vD) rfl rfl ?_
 refine bv 7 rfl (by kernel_rfl) (aO 4 rfl rfl dE rfl) rfl rfl ?_
 refine bv 8 rfl (by kernel_rfl) (aL 2 rfl aH rfl Tryz.underlying35) rfl rfl ?_
 refine aI 9 rfl (by kernel_rfl) (Fm rfl rfl) rfl rfl ?_
 refine dA (by kernel_rfl) ?_
 refine lN ?_
 refine ay rfl (fun g12 => ?_) (fun g12 => ?_)
 ·replace h := ah g12 h
  refine run ?_
  refine aB ?_
  refine fG ?_
  obtain ⟨x13, hx13, h⟩ := aa h
  obtain ⟨lx13, ux13, hx13⟩ := au hx13
  refine dK (t := [(0, pV B1 0)]) ?_ fU (ab _)
  refine d9 (by kernel_rfl) 15 [0] [0, 4, 14] [19, 20, 21, 22, 23, 24, 25, 26, 27, 28, 29, 30, 31, 32, 33] [[], [], [1], [2], [3], [], [5], [6], [7], [], [9], [10], [11], [8, 12], [13]] [aV (pV B1 0),
 aV (pV B1 0),
 aV (pV B1 0),
 aV (pV B1 0),
 aV (.agg #[.slice A7 n7 c7, .slice A8 n8 c8]),
 aV (pV B1 0),
 aV (pV B1 0),
 aV (pV B1 2),
 aV (.slice A9 n9 c9),
 aV (pV B1 0),
 aV (pV B1 0),
 aV (pV B1 4),
 aV (iV p11),
 aV (cA (.slice A9 n9 c9) p11.toNat 1 0),
 aV (iV x13)] [] (ab _) (iz rfl fM) (by kernel_rfl) rfl rfl ?_ ?_ ?_
  ·refine iy rfl ?_ ?_
   ·exact oE (az rfl) rfl (aA rfl (ab _))
   exact fL
  ·refine ac rfl ?_ ?_
   ·exact cc (bK (u := iV x13) 2 rfl aH rfl hx13 eo (fun _ _ _ h => by rw [show _ = _ from h]; rfl)) rfl (aA rfl (ab _))
   refine ac rfl ?_ ?_
   ·exact cc (aM 2 rfl aH rfl rfl Tryz.underlying35 dD lx13 ux13) rfl (aA rfl (ab _))
   refine ac rfl ?_ ?_
   ·exact cc (aO 4 rfl rfl eo rfl) rfl (aA rfl (ab _))
   refine ac rfl ?_ ?_
   ·exact aW (cr rfl zG) rfl (aA rfl (ab _))
   refine ac rfl ?_ ?_
   ·exact aW (aZ rfl) rfl (aA rfl (ab _))
   refine ac rfl ?_ ?_
   ·exact aW (az rfl) rfl (aA rfl (ab _))
   refine ac rfl ?_ ?_
   ·exact cc (aO 4 rfl rfl dE rfl) rfl (aA rfl (ab _))
   refine ac rfl ?_ ?_
   ·exact aW (cr rfl vD) rfl (aA rfl (ab _))
   refine ac rfl ?_ ?_
   ·exact aW (aZ rfl) rfl (aA rfl (ab _))
   refine ac rfl ?_ ?_
   ·exact aW (az rfl) rfl (aA rfl (ab _))
   refine ac rfl ?_ ?_
   ·exact cc (aC (us := [.slice A7 n7 c7, .slice A8 n8 c8]) 4 rfl rfl cN rfl) rfl (aA rfl (ab _))
   refine ac rfl ?_ ?_
   ·exact aW (jm rfl C0) rfl (aA rfl (ab _))
   refine ac rfl ?_ ?_
   ·exact aW (aZ rfl) rfl (aA rfl (ab _))
   refine ac rfl ?_ ?_
   ·exact aW (az rfl) rfl (aA rfl (ab _))
   refine ac rfl ?_ ?_
   ·exact aW (az rfl) rfl (aA rfl (ab _))
   exact cO
  refine ip (t := [(19, pV B1 0), (23, .agg #[.slice A7 n7 c7, .slice A8 n8 c8]), (33, iV x13), (0, pV B1 0)]) (L' := [aF A7 n7 c7 p7, aF A8 n8 c8 p8, br A9 n9 c9 p9, aN bQ rN M10 p10, ag B1 79 [.slice A7 n7 c7, .slice A8 n8 c8, .slice A9 n9 c9, .map (some M10), iV p11]]) ?_ fU (ab _)
  obtain ⟨y14, hy14, h⟩ := aa h
  refine nG 15 rfl (by kernel_rfl) (am (kY hy14) xq rfl (mem_cons (aj (i := 0) rfl rfl) (mem_cons (aj (i := 1) rfl rfl) ae)) iU) rfl rfl rfl ?_
  rintro _ _ ⟨_, ⟨A15, n15, c15, A16, n16, c16, rfl, rfl⟩, rfl⟩
  obtain ⟨y17, hy17, h⟩ := aa h
  refine nG 16 rfl (by kernel_rfl) (am (fE hy17) sm rfl (mem_cons (aK (i := 0) rfl) (mem_cons (aK (i := 1) rfl) ae)) ef) rfl rfl rfl ?_
  rintro _ _ ⟨_, ⟨A18, n18, c18, rfl, rfl⟩, rfl⟩
  refine ip ?_ cw (bV 0 rfl)
  obtain ⟨y19, hy19, h⟩ := aa h
  refine nG 17 rfl (by kernel_rfl) (bH (oe hy19) zU rfl (be [3, 4, 0] [7, 5, 6] [0, 1, 2, 3, 4] 8 rfl)) rfl rfl rfl ?_
  rintro _ _ ⟨_, ⟨A20, n20, c20, A21, n21, c21, A22, n22, c22, M23, rfl, rfl⟩, rfl⟩
  refine fT (by kernel_rfl) ?_
  refine run ?_
  obtain ⟨q24, h⟩ := ap h
  refine gE (aR rfl rfl q24.1 q24.2) ?_
  refine run ?_
  refine gO (ar (us := [iV (y19.done_ + 1)]) (cs' := [.slice A20 n20 c20, .slice A21 n21 c21, .slice A22 n22 c22, .map (some M23), iV (y19.done_ + 1)]) 0 rfl rfl rfl rfl dD rfl rfl rfl) ?_
  rintro _ _ rfl
  refine bC ([ag B1 79 [.slice A20 n20 c20, .slice A21 n21 c21, .slice A22 n22 c22, .map (some M23), iV (y19.done_ + 1)], aF A20 n20 c20 y19.m_.Young, aF A21 n21 c21 y19.m_.Old, br A22 n22 c22 y19.all_, aN bQ rN M23 y19.met_, cm A18 n18 c18 y17, bD A15 n15 c15 y14.Slots, bD A16 n16 c16 y14.More, aF A7 n7 c7 p7, aF A8 n8 c8 p8]) rfl ?_
  refine run ?_
  exact ⟨m6, _, _, Nat.lt_succ_self _, ⟨y19.m_.Young, y19.m_.Old, y19.all_, y19.met_, y19.done_ + 1, A20, n20, c20, A21, n21, c21, A22, n22, c22, M23, h, rfl, rfl⟩, sA, ad [1, 2, 3, 4, 0] 10 rfl rfl⟩
 replace h := ai g12 h
 refine run ?_
 obtain rfl := aq h
 exact jo rfl (ad [4, 0, 1, 2, 3] 5 rfl rfl) ⟨_, _, _, _, _, _, _, _, _, _, rfl, rfl⟩
def mn (N : Nat) (p9 : (List DCell)) (p10 : (List DCell)) (p11 : (List Int)) (p12 : (List (Int × Unit))) (p13 : Int) : Option DRow :=
 (ei N (⟨(⟨p9, p10⟩ : DMemory), p11, p12, p13⟩ : DRow)).bind fun y31 => some y31
def reach_begin_l14 (N : Nat) (a1 : (List DValue)) : Nat → Int → (List DCell) → (List DCell) → (List Int) → (List (Int × Unit)) → Int → Option DRow
 | 0, _, _, _, _, _, _ => none
 | m14 + 1, p15, p16, p17, p18, p19, p20 => bif decide (p15 < (a1.length : Int)) then ((aG a1 p15).bind fun x23 => (kg N x23 (⟨(⟨p16, p17⟩ : DMemory), p18, p19, p20⟩ : DRow)).bind fun y25 => bM (in64 (p15 + 1)) ((reach_begin_l14 N a1 m14) (p15 + 1) y25.m_.Young y25.m_.Old y25.all_ y25.met_ y25.done_)) else (mn N p16 p17 p18 p19 p20)
def iT (N : Nat) (a0 : DMemory) (a1 : (List DValue)) : Option DRow :=
 reach_begin_l14 N a1 N 0 a0.Young a0.Old [] ([] : (List (Int × Unit))) 0
theorem wk {N : Nat} {a0 : DMemory} {a1 : (List DValue)} {r : DRow} (h : iT N a0 a1 = some r) : Okc Tryz.prog 62 [.agg #[.slice A1 n1 c1, .slice A2 n2 c2], .slice A3 n3 c3] ([aF A1 n1 c1 a0.Young, aF A2 n2 c2 a0.Old, av A3 n3 c3 a1]) (fun u post => ∃ B0 A1 n1 c1 A2 n2 c2 A3 n3 c3 M4, u = pV B0 0 ∧ post = [ag B0 79 [.slice A1 n1 c1, .slice A2 n2 c2, .slice A3 n3 c3, .map (some M4), iV r.done_], aF A1 n1 c1 r.m_.Young, aF A2 n2 c2 r.m_.Old, br A3 n3 c3 r.all_, aN bQ rN M4 r.met_]) := by
 refine bN Tryz.func62 rfl rfl ?_
 simp only [bc]
 refine run ?_
 refine gD (bo rfl rfl) ?_
 rintro _ _ ⟨B4, rfl, rfl⟩
 refine run ?_
 refine gR (aC (us := [.slice A1 n1 c1, .slice A2 n2 c2]) 0 rfl rfl cN rfl) ?_
 refine gD (kq (ek := bQ) (ev := rN)) ?_
 rintro _ _ ⟨M5, rfl, rfl⟩
 refine gE (cU rfl (Cy _ _ _ _ _ _ _)) ?_
 refine gD (bo rfl rfl) ?_
 rintro _ _ ⟨B6, rfl, rfl⟩
 refine gD (aJ Hr rfl) ?_
 rintro _ _ ⟨B7, rfl, rfl⟩
 refine gO (ar (us := [pV B6 0]) (cs' := [pV B6 0]) 0 rfl rfl rfl rfl Ht rfl rfl rfl) ?_
 rintro _ _ rfl
 refine run ?_
 refine gE (dU rfl) ?_
 refine run ?_
 refine aS (fun s L => ∃ p9 p10 p11 p12 p13 A9 n9 c9 A10 n10 c10 A11 n11 c11 M12, mn N p9 p10 p11 p12 p13 = some r ∧ s = [(4, .pointer none), (5, pV B7 0)] ∧ L = [ag B7 80 [pV B6 0], aF A9 n9 c9 p9, aF A10 n10 c10 p10, br A11 n11 c11 p11, aN bQ rN M12 p12, ag B6 79 [.slice A9 n9 c9, .slice A10 n10 c10, .slice A11 n11 c11, .map (some M12), iV p13]]) ?_ ?_
 ·refine run ?_
  refine gR (aL 6 rfl ao rfl Tryz.underlying25) ?_
  refine run ?_
  refine bp (fun m s L => ∃ p15 p16 p17 p18 p19 p20 A16 n16 c16 A17 n17 c17 A18 n18 c18 M19, reach_begin_l14 N a1 m p15 p16 p17 p18 p19 p20 = some r ∧ s = [(4, .pointer none), (5, pV B7 0), (6, .func (.func 117) #[] #[pV B7 0]), (14, .slice A3 n3 c3), (15, iV (a1.length : Int)), (16, iV p15)] ∧ L = [av A3 n3 c3 a1, ag B7 80 [pV B6 0], aF A16 n16 c16 p16, aF A17 n17 c17 p17, br A18 n18 c18 p18, aN bQ rN M19 p19, ag B6 79 [.slice A16 n16 c16, .slice A17 n17 c17, .slice A18 n18 c18, .map (some M19), iV p20]]) N _ _ ⟨0, a0.Young, a0.Old, [], ([] : (List (Int × Unit))), 0, A1, n1, c1, A2, n2, c2, none, 0, 0, M5, h, rfl, rfl⟩ sA ((cH (dS .i64) 3 _).trans (ad [7, 1, 5, 6, 0, 3, 2] 8 rfl rfl)) ?_
  rintro (_ | m14) _ _ ⟨p15, p16, p17, p18, p19, p20, A16, n16, c16, A17, n17, c17, A18, n18, c18, M19, h, rfl, rfl⟩
  ·exact aD h
  rw [reach_begin_l14.eq_2] at h
  refine run ?_
  refine aB ?_
  refine ay rfl (fun g22 => ?_) (fun g22 => ?_)
  ·replace h := ah g22 h
   refine run ?_
   refine aB ?_
   refine run ?_
   obtain ⟨x23, hx23, h⟩ := aa h
   obtain ⟨lx23, ux23, hx23⟩ := au hx23
   refine gR (aM 0 rfl ao rfl rfl Tryz.underlying25 bh lx23 ux23) ?_
   refine gR (bA (us := [iV x23.Kind, iV x23.N, .string x23.S]) 0 rfl ao rfl hx23 ca (fun _ _ _ h => by rw [show _ = _ from h]; rfl)) ?_
   refine gD (aJ f4 rfl) ?_
   rintro _ _ ⟨B24, rfl, rfl⟩
   refine gO (ar (us := [iV x23.Kind, iV x23.N, .string x23.S]) (cs' := [iV x23.Kind, iV x23.N, .string x23.S]) 0 rfl rfl rfl rfl bh rfl rfl rfl) ?_
   rintro _ _ rfl
   refine run ?_
   refine gR (aC (us := [iV x23.Kind, iV x23.N, .string x23.S]) 0 rfl rfl ca rfl) ?_
   obtain ⟨y25, hy25, h⟩ := aa h
   refine gD (iW (sN hy25) G3 rfl rfl rfl (be [3, 4] [2, 7, 5, 6] [0, 1, 3, 4] 8 rfl)) ?_
   rintro _ _ ⟨_, ⟨A26, n26, c26, A27, n27, c27, A28, n28, c28, M29, rfl, rfl⟩, rfl⟩
   refine bC ([ag B6 79 [.slice A26 n26 c26, .slice A27 n27 c27, .slice A28 n28 c28, .map (some M29), iV y25.done_], aF A26 n26 c26 y25.m_.Young, aF A27 n27 c27 y25.m_.Old, br A28 n28 c28 y25.all_, aN bQ rN M29 y25.met_, ag B7 80 [pV B6 0], ag B24 38 [iV x23.Kind, iV x23.N, .string x23.S], av A3 n3 c3 a1, aF A16 n16 c16 p16, aF A17 n17 c17 p17]) rfl ?_
   refine run ?_
   obtain ⟨q30, h⟩ := ap h
   refine gE (aR rfl rfl q30.1 q30.2) ?_
   refine run ?_
   exact ⟨m14, _, _, Nat.lt_succ_self _, ⟨p15 + 1, y25.m_.Young, y25.m_.Old, y25.all_, y25.met_, y25.done_, A26, n26, c26, A27, n27, c27, A28, n28, c28, M29, h, rfl, rfl⟩, sA, ad [7, 5, 1, 2, 3, 4, 0] 10 rfl rfl⟩
  replace h := ai g22 h
  refine run ?_
  exact ⟨_, _, ⟨p16, p17, p18, p19, p20, A16, n16, c16, A17, n17, c17, A18, n18, c18, M19, h, rfl, rfl⟩, sA, ad [1, 2, 3, 4, 5, 6] 7 rfl rfl⟩
 rintro _ _ ⟨p9, p10, p11, p12, p13, A9, n9, c9, A10, n10, c10, A11, n11, c11, M12, h, rfl, rfl⟩
 refine run ?_
 obtain ⟨y31, hy31, h⟩ := aa h
 refine gD (bH (kX hy31) FD rfl (be [1, 2] [5, 3, 4] [0, 1, 2] 6 rfl)) ?_
 rintro _ _ ⟨_, ⟨A32, n32, c32, A33, n33, c33, A34, n34, c34, M35, rfl, rfl⟩, rfl⟩
 refine run ?_
 obtain rfl := aq h
 exact aQ rfl rfl (ad [0, 1, 2, 3, 4] 8 rfl rfl) ⟨_, _, _, _, _, _, _, _, _, _, _, rfl, rfl⟩
def lj (N : Nat) (a0 : DValue) (p10 : Bool) : Option Bool :=
 bif p10 then (some (decide (1 ≤ a0.N))) else ((bif decide (a0.N = 0) then (some (decide (0 ≤ a0.Kind))) else (some false)).bind fun b14 => (bif b14 then (some (decide (a0.Kind ≤ 9))) else (some false)).bind fun b15 => some b15)
def o3 (N : Nat) (a0 : DValue) : Option Bool :=
 bif decide (a0.Kind = 5) then ((bif decide (a0.N = 0) then (some (decide ((a0.S.size : Int) ≤ 65536))) else (some false)).bind fun b3 => some b3) else (bif !(a0.S.toList == (⟨#[]⟩ : ByteArray).toList) then (some false) else (bif decide (a0.Kind = 2) then ((bif decide (a0.N = 0) then (some true) else (some (decide (a0.N = 1)))).bind fun b6 => some b6) else (bif decide (a0.Kind = 3) then ((bif decide ((-9007199254740992) ≤ a0.N) then (some (decide (a0.N ≤ 9007199254740992))) else (some false)).bind fun b8 => some b8) else (bif decide (a0.Kind = 6) then (lj N a0 (decide (a0.Kind = 6))) else (bif decide (a0.Kind = 7) then (lj N a0 (decide (a0.Kind = 7))) else (lj N a0 (decide (a0.Kind = 9))))))))
theorem Bf {N : Nat} {a0 : DValue} {r : Bool} (h : o3 N a0 = some r) : Okc Tryz.prog 110 [.agg #[iV a0.Kind, iV a0.N, .string a0.S]] ([]) (fun u post => u = .bool r ∧ post = []) := by
 refine bN Tryz.func110 rfl rfl ?_
 simp only [bc]
 refine run ?_
 refine gD (bo rfl rfl) ?_
 rintro _ _ ⟨B1, rfl, rfl⟩
 refine run ?_
 refine aB ?_
 refine run ?_
 refine ay rfl (fun g2 => ?_) (fun g2 => ?_)
 ·replace h := ah g2 h
  refine run ?_
  obtain ⟨b3, hb3, h⟩ := aa h
  refine aX 5 14 b3 ?_ ?_
  ·clear h
   refine aY 9 rfl (fun g3 => ?_) (fun g3 => ?_)
   ·have h := ah g3 hb3
    refine run ?_
    refine ri (GB rfl Tryz.underlying9) rfl (bd g3 rfl) rfl ?_
    refine run ?_
    obtain rfl := aq h
    exact ak sA (ad [0] 1 rfl rfl)
   have h := ai g3 hb3
   refine run ?_
   obtain rfl := aq h
   exact ak sA (ad [0] 1 rfl rfl)
  refine run ?_
  obtain rfl := aq h
  exact aQ rfl rfl (ad [] 1 rfl rfl) ⟨rfl, rfl⟩
 replace h := ai g2 h
 refine run ?_
 refine aB ?_
 refine run ?_
 refine gE (AU rfl rfl) ?_
 refine run ?_
 refine ay rfl (fun g4 => ?_) (fun g4 => ?_)
 ·replace h := ah g4 h
  refine run ?_
  obtain rfl := aq h
  exact aQ rfl rfl (ad [] 1 rfl rfl) ⟨rfl, rfl⟩
 replace h := ai g4 h
 refine run ?_
 refine aB ?_
 refine run ?_
 refine ay rfl (fun g5 => ?_) (fun g5 => ?_)
 ·replace h := ah g5 h
  refine run ?_
  obtain ⟨b6, hb6, h⟩ := aa h
  refine aX 4 29 b6 ?_ ?_
  ·clear h
   refine aY 25 rfl (fun g6 => ?_) (fun g6 => ?_)
   ·have h := ah g6 hb6
    refine run ?_
    obtain rfl := aq h
    exact ak sA (ad [0] 1 rfl rfl)
   have h := ai g6 hb6
   refine run ?_
   obtain rfl := aq h
   exact ak sA (ad [0] 1 rfl rfl)
  refine run ?_
  obtain rfl := aq h
  exact aQ rfl rfl (ad [] 1 rfl rfl) ⟨rfl, rfl⟩
 replace h := ai g5 h
 refine run ?_
 refine ay rfl (fun g7 => ?_) (fun g7 => ?_)
 ·replace h := ah g7 h
  refine run ?_
  obtain ⟨b8, hb8, h⟩ := aa h
  refine aX 4 39 b8 ?_ ?_
  ·clear h
   refine aY 35 rfl (fun g8 => ?_) (fun g8 => ?_)
   ·have h := ah g8 hb8
    refine run ?_
    obtain rfl := aq h
    exact ak sA (ad [0] 1 rfl rfl)
   have h := ai g8 hb8
   refine run ?_
   obtain rfl := aq h
   exact ak sA (ad [0] 1 rfl rfl)
  refine run ?_
  obtain rfl := aq h
  exact aQ rfl rfl (ad [] 1 rfl rfl) ⟨rfl, rfl⟩
 replace h := ai g7 h
 refine aS (fun s L => ∃ p10, lj N a0 p10 = some r ∧ s = [(1, pV B1 0), (2, .bool false), (40, .bool p10)] ∧ L = [ag B1 38 [iV a0.Kind, iV a0.N, .string a0.S]]) ?_ ?_
 ·refine run ?_
  refine ay rfl (fun g11 => ?_) (fun g11 => ?_)
  ·replace h := ah g11 h
   refine run ?_
   exact ⟨_, _, ⟨decide (a0.Kind = 6), h, rfl, rfl⟩, sA, ad [0] 1 rfl rfl⟩
  replace h := ai g11 h
  refine run ?_
  refine ay rfl (fun g12 => ?_) (fun g12 => ?_)
  ·replace h := ah g12 h
   refine run ?_
   exact ⟨_, _, ⟨decide (a0.Kind = 7), h, rfl, rfl⟩, sA, ad [0] 1 rfl rfl⟩
  replace h := ai g12 h
  refine run ?_
  exact ⟨_, _, ⟨decide (a0.Kind = 9), h, rfl, rfl⟩, sA, ad [0] 1 rfl rfl⟩
 rintro _ _ ⟨p10, h, rfl, rfl⟩
 refine ay rfl (fun g13 => ?_) (fun g13 => ?_)
 ·replace h := ah g13 h
  refine run ?_
  obtain rfl := aq h
  exact aQ rfl rfl (ad [] 1 rfl rfl) ⟨rfl, rfl⟩
 replace h := ai g13 h
 refine run ?_
 obtain ⟨b14, hb14, h⟩ := aa h
 refine aX 4 54 b14 ?_ ?_
 ·clear h
  refine aY 50 rfl (fun g14 => ?_) (fun g14 => ?_)
  ·have h := ah g14 hb14
   refine run ?_
   obtain rfl := aq h
   exact ak sA (ad [0] 1 rfl rfl)
  have h := ai g14 hb14
  refine run ?_
  obtain rfl := aq h
  exact ak sA (ad [0] 1 rfl rfl)
 refine run ?_
 obtain ⟨b15, hb15, h⟩ := aa h
 refine aX 4 59 b15 ?_ ?_
 ·clear h
  refine aY 55 rfl (fun g15 => ?_) (fun g15 => ?_)
  ·have h := ah g15 hb15
   refine run ?_
   obtain rfl := aq h
   exact ak sA (ad [0] 1 rfl rfl)
  have h := ai g15 hb15
  refine run ?_
  obtain rfl := aq h
  exact ak sA (ad [0] 1 rfl rfl)
 refine run ?_
 obtain rfl := aq h
 exact aQ rfl rfl (ad [] 1 rfl rfl) ⟨rfl, rfl⟩
theorem xO {r : Bool} : ∀ v post, ((fun (u : Value) (post : List Chunk) => u = .bool r ∧ post = [])) v post → ∀ c ∈ post, cZ c := by
 rintro _ _ ⟨rfl, rfl⟩; exact ae
def ft (N : Nat) (p2 : Bool) : Option Bool :=
 bif p2 then (some true) else (some false)
def o4 (N : Nat) (a0 : Int) : Option Bool :=
 bif decide (a0 = 1) then (ft N (decide (a0 = 1))) else (bif decide (a0 = 2) then (ft N (decide (a0 = 2))) else (bif decide (a0 = 3) then (ft N (decide (a0 = 3))) else (bif decide (a0 = 6) then (ft N (decide (a0 = 6))) else (bif decide (a0 = 8) then (ft N (decide (a0 = 8))) else (bif decide (a0 = 9) then (ft N (decide (a0 = 9))) else (ft N (decide (a0 = 10))))))))
theorem Bg {N : Nat} {a0 : Int} {r : Bool} (h : o4 N a0 = some r) : Okc Tryz.prog 163 [iV a0] ([]) (fun u post => u = .bool r ∧ post = []) := by
 refine bN Tryz.func163 rfl rfl ?_
 simp only [bc]
 refine run ?_
 refine aB ?_
 refine run ?_
 refine aS (fun s L => ∃ p2, ft N p2 = some r ∧ s = [(2, .bool false), (4, .bool p2)] ∧ L = []) ?_ ?_
 ·refine run ?_
  refine ay rfl (fun g3 => ?_) (fun g3 => ?_)
  ·replace h := ah g3 h
   refine run ?_
   exact ⟨_, _, ⟨decide (a0 = 1), h, rfl, rfl⟩, sA, ad [] 0 rfl rfl⟩
  replace h := ai g3 h
  refine run ?_
  refine ay rfl (fun g4 => ?_) (fun g4 => ?_)
  ·replace h := ah g4 h
   refine run ?_
   exact ⟨_, _, ⟨decide (a0 = 2), h, rfl, rfl⟩, sA, ad [] 0 rfl rfl⟩
  replace h := ai g4 h
  refine run ?_
  refine ay rfl (fun g5 => ?_) (fun g5 => ?_)
  ·replace h := ah g5 h
   refine run ?_
   exact ⟨_, _, ⟨decide (a0 = 3), h, rfl, rfl⟩, sA, ad [] 0 rfl rfl⟩
  replace h := ai g5 h
  refine run ?_
  refine ay rfl (fun g6 => ?_) (fun g6 => ?_)
  ·replace h := ah g6 h
   refine run ?_
   exact ⟨_, _, ⟨decide (a0 = 6), h, rfl, rfl⟩, sA, ad [] 0 rfl rfl⟩
  replace h := ai g6 h
  refine run ?_
  refine ay rfl (fun g7 => ?_) (fun g7 => ?_)
  ·replace h := ah g7 h
   refine run ?_
   exact ⟨_, _, ⟨decide (a0 = 8), h, rfl, rfl⟩, sA, ad [] 0 rfl rfl⟩
  replace h := ai g7 h
  refine run ?_
  refine ay rfl (fun g8 => ?_) (fun g8 => ?_)
  ·replace h := ah g8 h
   refine run ?_
   exact ⟨_, _, ⟨decide (a0 = 9), h, rfl, rfl⟩, sA, ad [] 0 rfl rfl⟩
  replace h := ai g8 h
  refine run ?_
  exact ⟨_, _, ⟨decide (a0 = 10), h, rfl, rfl⟩, sA, ad [] 0 rfl rfl⟩
 rintro _ _ ⟨p2, h, rfl, rfl⟩
 refine ay rfl (fun g9 => ?_) (fun g9 => ?_)
 ·replace h := ah g9 h
  refine run ?_
  obtain rfl := aq h
  exact aQ rfl rfl (ad [] 0 rfl rfl) ⟨rfl, rfl⟩
 replace h := ai g9 h
 refine run ?_
 obtain rfl := aq h
 exact aQ rfl rfl (ad [] 0 rfl rfl) ⟨rfl, rfl⟩
theorem xP {r : Bool} : ∀ v post, ((fun (u : Value) (post : List Chunk) => u = .bool r ∧ post = [])) v post → ∀ c ∈ post, cZ c := by
 rintro _ _ ⟨rfl, rfl⟩; exact ae
def er (N : Nat) (a0 : DValue) (a1 : Int) : Option Bool :=
 (bif decide (a0.Kind = 0) then (some true) else (some (decide (a0.Kind = a1)))).bind fun b2 => some b2
theorem fP {N : Nat} {a0 : DValue} {a1 : Int} {r : Bool} (h : er N a0 a1 = some r) : Okc Tryz.prog 164 [.agg #[iV a0.Kind, iV a0.N, .string a0.S], iV a1] ([]) (fun u post => u = .bool r ∧ post = []) := by
 refine bN Tryz.func164 rfl rfl ?_
 simp only [bc]
 refine run ?_
 refine gD (bo rfl rfl) ?_
 rintro _ _ ⟨B1, rfl, rfl⟩
 refine run ?_
 obtain ⟨b2, hb2, h⟩ := aa h
 refine aX 5 13 b2 ?_ ?_
 ·clear h
  refine aY 8 rfl (fun g2 => ?_) (fun g2 => ?_)
  ·have h := ah g2 hb2
   refine run ?_
   obtain rfl := aq h
   exact ak sA (ad [0] 1 rfl rfl)
  have h := ai g2 hb2
  refine run ?_
  obtain rfl := aq h
  exact ak sA (ad [0] 1 rfl rfl)
 refine run ?_
 obtain rfl := aq h
 exact aQ rfl rfl (ad [] 1 rfl rfl) ⟨rfl, rfl⟩
theorem eE {r : Bool} : ∀ v post, ((fun (u : Value) (post : List Chunk) => u = .bool r ∧ post = [])) v post → ∀ c ∈ post, cZ c := by
 rintro _ _ ⟨rfl, rfl⟩; exact ae
end Go.Proofs.YtmbaennilhdieaaGreat
namespace Go.Proofs.YtmbaennilhdieaaGreat
variable {A1 A2 A3 A4 A5 A6 : Option Addr} {B1 B2 M5 M6 c1 c2 c3 c4 c5 c6 n1 n2 n3 n4 n5 n6 : Nat}
open Go.RowKit Go.ChangeShapes Go.WideShapes Go.Deep
def jr (x : DValue) : Prop := (in64 x.Kind) ∧ (in64 x.N) ∧ (True)
set_option maxRecDepth 100000 in
theorem pM : Es Tryz.prog 38 aw jr := fun {_ enc w base spare held _ cs y} h hw => by
 obtain ⟨xs, m, -, hy, hl, hx, hf⟩ := DataW.trod_struct Tryz.underlying38 h
 have hc : Tryz.prog.cellsOf 38 = 3 := by kernel_rfl
 rw [hc] at hl
 match cs, hl, hf with
 | [c0, c1, c2], _, hf =>
  have k0 : DataW.trod enc Tryz.prog w base spare held m 3 (List.take (Tryz.prog.cellsOf 3) (List.drop 0 [c0, c1, c2])) = xs[0]? := hf 0 _ rfl
  have z0 : Tryz.prog.cellsOf 3 = 1 := by kernel_rfl
  simp only [z0, List.drop_succ_cons, List.drop_zero, List.take_succ_cons, List.take_zero] at k0
  have l0 : 0 < xs.length := by rw [hx]; decide
  obtain ⟨a0, r0, w0⟩ := (Rdr.w (qD Tryz.underlying3)) (k0.trans (List.getElem?_eq_getElem l0)) (fH Tryz.underlying38 hy hw (i := 0) rfl (List.getElem?_eq_getElem l0))
  have k1 : DataW.trod enc Tryz.prog w base spare held m 3 (List.take (Tryz.prog.cellsOf 3) (List.drop 1 [c0, c1, c2])) = xs[1]? := hf 1 _ rfl
  have z1 : Tryz.prog.cellsOf 3 = 1 := by kernel_rfl
  simp only [z1, List.drop_succ_cons, List.drop_zero, List.take_succ_cons, List.take_zero] at k1
  have l1 : 1 < xs.length := by rw [hx]; decide
  obtain ⟨a1, r1, w1⟩ := (Rdr.w (qD Tryz.underlying3)) (k1.trans (List.getElem?_eq_getElem l1)) (fH Tryz.underlying38 hy hw (i := 1) rfl (List.getElem?_eq_getElem l1))
  have k2 : DataW.trod enc Tryz.prog w base spare held m 9 (List.take (Tryz.prog.cellsOf 9) (List.drop 2 [c0, c1, c2])) = xs[2]? := hf 2 _ rfl
  have z2 : Tryz.prog.cellsOf 9 = 1 := by kernel_rfl
  simp only [z2, List.drop_succ_cons, List.drop_zero, List.take_succ_cons, List.take_zero] at k2
  have l2 : 2 < xs.length := by rw [hx]; decide
  obtain ⟨a2, r2, w2⟩ := (Rdr.w (Gd Tryz.underlying9)) (k2.trans (List.getElem?_eq_getElem l2)) (fH Tryz.underlying38 hy hw (i := 2) rfl (List.getElem?_eq_getElem l2))
  obtain ⟨rfl, -⟩ := List.cons.inj (show [c0] = [_] from r0)
  obtain ⟨rfl, -⟩ := List.cons.inj (show [c1] = [_] from r1)
  obtain ⟨rfl, -⟩ := List.cons.inj (show [c2] = [_] from r2)
  exact ⟨⟨a0, a1, a2⟩, rfl, ⟨w0, w1, w2⟩⟩
def sC (x : DCell) : Prop := (in64 x.Kind) ∧ (in64 x.Shape) ∧ (in64 x.Flags) ∧ (in64 x.Age) ∧ (F3 (fun z25 => jr z25) x.Slots) ∧ (F3 (fun z25 => jr z25) x.More)
set_option maxRecDepth 100000 in
theorem wo : Es Tryz.prog 32 bO sC := fun {_ enc w base spare held _ cs y} h hw => by
 obtain ⟨xs, m, -, hy, hl, hx, hf⟩ := DataW.trod_struct Tryz.underlying32 h
 have hc : Tryz.prog.cellsOf 32 = 6 := by kernel_rfl
 rw [hc] at hl
 match cs, hl, hf with
 | [c0, c1, c2, c3, c4, c5], _, hf =>
  have k0 : DataW.trod enc Tryz.prog w base spare held m 3 (List.take (Tryz.prog.cellsOf 3) (List.drop 0 [c0, c1, c2, c3, c4, c5])) = xs[0]? := hf 0 _ rfl
  have z0 : Tryz.prog.cellsOf 3 = 1 := by kernel_rfl
  simp only [z0, List.drop_succ_cons, List.drop_zero, List.take_succ_cons, List.take_zero] at k0
  have l0 : 0 < xs.length := by rw [hx]; decide
  obtain ⟨a0, r0, w0⟩ := (Rdr.w (qD Tryz.underlying3)) (k0.trans (List.getElem?_eq_getElem l0)) (fH Tryz.underlying32 hy hw (i := 0) rfl (List.getElem?_eq_getElem l0))
  have k1 : DataW.trod enc Tryz.prog w base spare held m 3 (List.take (Tryz.prog.cellsOf 3) (List.drop 1 [c0, c1, c2, c3, c4, c5])) = xs[1]? := hf 1 _ rfl
  have z1 : Tryz.prog.cellsOf 3 = 1 := by kernel_rfl
  simp only [z1, List.drop_succ_cons, List.drop_zero, List.take_succ_cons, List.take_zero] at k1
  have l1 : 1 < xs.length := by rw [hx]; decide
  obtain ⟨a1, r1, w1⟩ := (Rdr.w (qD Tryz.underlying3)) (k1.trans (List.getElem?_eq_getElem l1)) (fH Tryz.underlying32 hy hw (i := 1) rfl (List.getElem?_eq_getElem l1))
  have k2 : DataW.trod enc Tryz.prog w base spare held m 3 (List.take (Tryz.prog.cellsOf 3) (List.drop 2 [c0, c1, c2, c3, c4, c5])) = xs[2]? := hf 2 _ rfl
  have z2 : Tryz.prog.cellsOf 3 = 1 := by kernel_rfl
  simp only [z2, List.drop_succ_cons, List.drop_zero, List.take_succ_cons, List.take_zero] at k2
  have l2 : 2 < xs.length := by rw [hx]; decide
  obtain ⟨a2, r2, w2⟩ := (Rdr.w (qD Tryz.underlying3)) (k2.trans (List.getElem?_eq_getElem l2)) (fH Tryz.underlying32 hy hw (i := 2) rfl (List.getElem?_eq_getElem l2))
  have k3 : DataW.trod enc Tryz.prog w base spare held m 3 (List.take (Tryz.prog.cellsOf 3) (List.drop 3 [c0, c1, c2, c3, c4, c5])) = xs[3]? := hf 3 _ rfl
  have z3 : Tryz.prog.cellsOf 3 = 1 := by kernel_rfl
  simp only [z3, List.drop_succ_cons, List.drop_zero, List.take_succ_cons, List.take_zero] at k3
  have l3 : 3 < xs.length := by rw [hx]; decide
  obtain ⟨a3, r3, w3⟩ := (Rdr.w (qD Tryz.underlying3)) (k3.trans (List.getElem?_eq_getElem l3)) (fH Tryz.underlying32 hy hw (i := 3) rfl (List.getElem?_eq_getElem l3))
  have k4 : DataW.trod enc Tryz.prog w base spare held m 25 (List.take (Tryz.prog.cellsOf 25) (List.drop 4 [c0, c1, c2, c3, c4, c5])) = xs[4]? := hf 4 _ rfl
  have z4 : Tryz.prog.cellsOf 25 = 1 := by kernel_rfl
  simp only [z4, List.drop_succ_cons, List.drop_zero, List.take_succ_cons, List.take_zero] at k4
  have l4 : 4 < xs.length := by rw [hx]; decide
  obtain ⟨a4, r4, w4⟩ := (sO Tryz.underlying25 (by kernel_rfl) (by decide) (of_decide_eq_true (by kernel_rfl)) pM) (k4.trans (List.getElem?_eq_getElem l4)) (fH Tryz.underlying32 hy hw (i := 4) rfl (List.getElem?_eq_getElem l4))
  have k5 : DataW.trod enc Tryz.prog w base spare held m 25 (List.take (Tryz.prog.cellsOf 25) (List.drop 5 [c0, c1, c2, c3, c4, c5])) = xs[5]? := hf 5 _ rfl
  have z5 : Tryz.prog.cellsOf 25 = 1 := by kernel_rfl
  simp only [z5, List.drop_succ_cons, List.drop_zero, List.take_succ_cons, List.take_zero] at k5
  have l5 : 5 < xs.length := by rw [hx]; decide
  obtain ⟨a5, r5, w5⟩ := (sO Tryz.underlying25 (by kernel_rfl) (by decide) (of_decide_eq_true (by kernel_rfl)) pM) (k5.trans (List.getElem?_eq_getElem l5)) (fH Tryz.underlying32 hy hw (i := 5) rfl (List.getElem?_eq_getElem l5))
  obtain ⟨rfl, -⟩ := List.cons.inj (show [c0] = [_] from r0)
  obtain ⟨rfl, -⟩ := List.cons.inj (show [c1] = [_] from r1)
  obtain ⟨rfl, -⟩ := List.cons.inj (show [c2] = [_] from r2)
  obtain ⟨rfl, -⟩ := List.cons.inj (show [c3] = [_] from r3)
  obtain ⟨v4, e4, b4⟩ := r4
  obtain ⟨rfl, -⟩ := List.cons.inj e4
  obtain ⟨A4, q4, rfl, d4⟩ := b4
  have b4 : SlR aw _ _ (.slice A4 a4.length q4) a4 := ⟨_, _, rfl, d4⟩
  obtain ⟨v5, e5, b5⟩ := r5
  obtain ⟨rfl, -⟩ := List.cons.inj e5
  obtain ⟨A5, q5, rfl, d5⟩ := b5
  have b5 : SlR aw _ _ (.slice A5 a5.length q5) a5 := ⟨_, _, rfl, d5⟩
  exact ⟨⟨a0, a1, a2, a3, a4, a5⟩, ⟨_, _, _, _, _, _, rfl, b4, b5⟩, ⟨w0, w1, w2, w3, w4, w5⟩⟩
def oI (x : DMemory) : Prop := (F3 (fun z22 => sC z22) x.Young) ∧ (F3 (fun z22 => sC z22) x.Old)
set_option maxRecDepth 100000 in
theorem zm : Es Tryz.prog 24 EL oI := fun {_ enc w base spare held _ cs y} h hw => by
 obtain ⟨xs, m, -, hy, hl, hx, hf⟩ := DataW.trod_struct Tryz.underlying24 h
 have hc : Tryz.prog.cellsOf 24 = 2 := by kernel_rfl
 rw [hc] at hl
 match cs, hl, hf with
 | [c0, c1], _, hf =>
  have k0 : DataW.trod enc Tryz.prog w base spare held m 22 (List.take (Tryz.prog.cellsOf 22) (List.drop 0 [c0, c1])) = xs[0]? := hf 0 _ rfl
  have z0 : Tryz.prog.cellsOf 22 = 1 := by kernel_rfl
  simp only [z0, List.drop_succ_cons, List.drop_zero, List.take_succ_cons, List.take_zero] at k0
  have l0 : 0 < xs.length := by rw [hx]; decide
  obtain ⟨a0, r0, w0⟩ := (sO Tryz.underlying22 (by kernel_rfl) (by decide) (of_decide_eq_true (by kernel_rfl)) wo) (k0.trans (List.getElem?_eq_getElem l0)) (fH Tryz.underlying24 hy hw (i := 0) rfl (List.getElem?_eq_getElem l0))
  have k1 : DataW.trod enc Tryz.prog w base spare held m 22 (List.take (Tryz.prog.cellsOf 22) (List.drop 1 [c0, c1])) = xs[1]? := hf 1 _ rfl
  have z1 : Tryz.prog.cellsOf 22 = 1 := by kernel_rfl
  simp only [z1, List.drop_succ_cons, List.drop_zero, List.take_succ_cons, List.take_zero] at k1
  have l1 : 1 < xs.length := by rw [hx]; decide
  obtain ⟨a1, r1, w1⟩ := (sO Tryz.underlying22 (by kernel_rfl) (by decide) (of_decide_eq_true (by kernel_rfl)) wo) (k1.trans (List.getElem?_eq_getElem l1)) (fH Tryz.underlying24 hy hw (i := 1) rfl (List.getElem?_eq_getElem l1))
  obtain ⟨v0, e0, b0⟩ := r0
  obtain ⟨rfl, -⟩ := List.cons.inj e0
  obtain ⟨A0, q0, rfl, d0⟩ := b0
  have b0 : SlR bO _ _ (.slice A0 a0.length q0) a0 := ⟨_, _, rfl, d0⟩
  obtain ⟨v1, e1, b1⟩ := r1
  obtain ⟨rfl, -⟩ := List.cons.inj e1
  obtain ⟨A1, q1, rfl, d1⟩ := b1
  have b1 : SlR bO _ _ (.slice A1 a1.length q1) a1 := ⟨_, _, rfl, d1⟩
  exact ⟨⟨a0, a1⟩, ⟨_, _, _, _, _, _, rfl, b0, b1⟩, ⟨w0, w1⟩⟩
def It (x : DS41) : Prop := (F3 (fun z25 => jr z25) x.e0) ∧ (F3 (fun z25 => jr z25) x.e1)
set_option maxRecDepth 100000 in
theorem H0 {H : Type} {enc : TypeId × Value → H} {W : World} {r : Reach} {b0 : Nat} {base : Nat} {spare : Nat → Bool} {held : Bool} {v : Value} {d : DataW H} {p : List MemPlace}
  (hv : Value.okWide Tryz.prog W r b0 24 v) (h : DataW.Trod enc Tryz.prog W base spare held 24 v d p) (hz : Light Tryz.prog 24 d) : ∃ (m : DMemory) (Aq_0 : Option Addr) (nq_0 cq_0 : Nat) (Aq_1 : Option Addr) (nq_1 cq_1 : Nat), v = .agg #[.slice Aq_0 nq_0 cq_0, .slice Aq_1 nq_1 cq_1] ∧ (oI m) ∧ (dq bO (.slice Aq_0 nq_0 cq_0) m.Young).ok (fun _ => False) (fun q => q < W.heap.size) W ∧ (dq bO (.slice Aq_1 nq_1 cq_1) m.Old).ok (fun _ => False) (fun q => q < W.heap.size) W := by
 obtain ⟨cs, rfl, -⟩ := okWide_struct Tryz.underlying24 hv
 obtain ⟨fuel, hf⟩ := h
 obtain ⟨m, ⟨Aq_0, nq_0, cq_0, Aq_1, nq_1, cq_1, e, hq_0, hq_1⟩, hw⟩ := zm hf hz
 obtain ⟨l⟩ := cs
 have hx : l = [.slice Aq_0 nq_0 cq_0, .slice Aq_1 nq_1 cq_1] := e
 exact ⟨m, Aq_0, nq_0, cq_0, Aq_1, nq_1, cq_1, by rw [hx], hw, hq_0, hq_1⟩
set_option maxRecDepth 100000 in
theorem HZ {H : Type} {enc : TypeId × Value → H} {W : World} {r : Reach} {b0 : Nat} {base : Nat} {spare : Nat → Bool} {held : Bool} {v : Value} {d : DataW H} {p : List MemPlace}
  (hv : Value.okWide Tryz.prog W r b0 25 v) (h : DataW.Trod enc Tryz.prog W base spare held 25 v d p) (hz : Light Tryz.prog 25 d) : ∃ (m : (List DValue)) (Aq_0 : Option Addr) (nq_0 cq_0 : Nat), v = .slice Aq_0 nq_0 cq_0 ∧ (F3 (fun z25 => jr z25) m) ∧ (dq aw (.slice Aq_0 nq_0 cq_0) m).ok (fun _ => False) (fun q => q < W.heap.size) W := by
 obtain ⟨A, n, c, rfl⟩ := okWide_slice Tryz.underlying25 hv
 obtain ⟨fuel, hf⟩ := h
 obtain ⟨m, ⟨u, e, h1⟩, hw⟩ := (sO Tryz.underlying25 (by kernel_rfl) (by decide) (of_decide_eq_true (by kernel_rfl)) pM) hf hz
 obtain ⟨rfl, -⟩ := List.cons.inj (show [_] = [_] from e)
 exact ⟨m, A, n, c, rfl, hw, h1⟩
end Go.Proofs.YtmbaennilhdieaaGreat