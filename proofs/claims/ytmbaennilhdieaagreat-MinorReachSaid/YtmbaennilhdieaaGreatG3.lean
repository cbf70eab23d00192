/- Merged texts: part 3. No conditions of their own. -/
import Derived.Test.YtmbaennilhdieaaGreatG2
import Derived.Test.YtmbaennilhdieaaGreatChecked
import Derived.ProofKit
import Derived.Test.YtmbaennilhdieaaGreatG1
/- Pure functions and contracts of Go functions (printed by all3.py). -/
namespace Go.Proofs.YtmbaennilhdieaaGreat
open Go.RowKit Asn
set_option maxRecDepth 20000
structure DValue where
 Kind : Int
 N : Int
 S : ByteArray
 deriving DecidableEq, Inhabited
def rDValue : Rep DValue := .flat 3 (fun x => [iV x.Kind, iV x.N, .string x.S]) (fun _ => rfl) (fun _ => rfl)
structure DCell where
 Kind : Int
 Shape : Int
 Flags : Int
 Age : Int
 Slots : (List DValue)
 More : (List DValue)
 deriving DecidableEq, Inhabited
def rDCell : Rep DCell where
 sz := 6
 rel S w vs x := ∃ A4 n4 c4 A5 n5 c5, vs = [iV x.Kind, iV x.Shape, iV x.Flags, iV x.Age, .slice A4 n4 c4, .slice A5 n5 c5] ∧ SlR rDValue S w (.slice A4 n4 c4) x.Slots ∧ SlR rDValue S w (.slice A5 n5 c5) x.More
 loc := fun h ⟨_, _, _, _, _, _, e, h4, h5⟩ => ⟨_, _, _, _, _, _, e, h4.loc h, h5.loc h⟩
 mono := fun h ⟨_, _, _, _, _, _, e, h4, h5⟩ => ⟨_, _, _, _, _, _, e, h4.mono h, h5.mono h⟩
 len := fun ⟨_, _, _, _, _, _, e, _⟩ => by rw [e]; rfl
 one := fun ⟨_, _, _, _, _, _, e, _⟩ => by rw [e]; rfl
theorem open_DCell (x : DCell) : Opens rDCell x fun vs cs => ∃ A4 n4 c4 A5 n5 c5, vs = [iV x.Kind, iV x.Shape, iV x.Flags, iV x.Age, .slice A4 n4 c4, .slice A5 n5 c5] ∧ cs = [slC rDValue (.slice A4 n4 c4) x.Slots, slC rDValue (.slice A5 n5 c5) x.More] := fun S w vs ⟨_, _, _, _, _, _, e, h4, h5⟩ => ⟨_, ⟨_, _, _, _, _, _, e, rfl⟩, mem_cons h4 (mem_cons h5 (mem_nil))⟩
structure DMemory where
 Young : (List DCell)
 Old : (List DCell)
 deriving DecidableEq, Inhabited
def rDMemory : Rep DMemory where
 sz := 2
 rel S w vs x := ∃ A0 n0 c0 A1 n1 c1, vs = [.slice A0 n0 c0, .slice A1 n1 c1] ∧ SlR rDCell S w (.slice A0 n0 c0) x.Young ∧ SlR rDCell S w (.slice A1 n1 c1) x.Old
 loc := fun h ⟨_, _, _, _, _, _, e, h0, h1⟩ => ⟨_, _, _, _, _, _, e, h0.loc h, h1.loc h⟩
 mono := fun h ⟨_, _, _, _, _, _, e, h0, h1⟩ => ⟨_, _, _, _, _, _, e, h0.mono h, h1.mono h⟩
 len := fun ⟨_, _, _, _, _, _, e, _⟩ => by rw [e]; rfl
 one := fun ⟨_, _, _, _, _, _, e, _⟩ => by rw [e]; rfl
structure DRow where
 m_ : DMemory
 all_ : (List Int)
 met_ : (List (Int × Unit))
 done_ : Int
 deriving DecidableEq, Inhabited
structure DTwins where
 a_ : DMemory
 b_ : DMemory
 x_ : (List Int)
 y_ : (List Int)
 from_ : (List (Int × Int))
 to_ : (List (Int × Int))
 deriving DecidableEq, Inhabited
structure DSide where
 M : DMemory
 Order : (List Int)
 deriving DecidableEq, Inhabited
def rDSide : Rep DSide where
 sz := 3
 rel S w vs x := ∃ A0 n0 c0 A1 n1 c1 A2 n2 c2, vs = [.slice A0 n0 c0, .slice A1 n1 c1, .slice A2 n2 c2] ∧ SlR rDCell S w (.slice A0 n0 c0) x.M.Young ∧ SlR rDCell S w (.slice A1 n1 c1) x.M.Old ∧ SlR (rInt .i64) S w (.slice A2 n2 c2) x.Order
 loc := fun h ⟨_, _, _, _, _, _, _, _, _, e, h0, h1, h2⟩ => ⟨_, _, _, _, _, _, _, _, _, e, h0.loc h, h1.loc h, h2.loc h⟩
 mono := fun h ⟨_, _, _, _, _, _, _, _, _, e, h0, h1, h2⟩ => ⟨_, _, _, _, _, _, _, _, _, e, h0.mono h, h1.mono h, h2.mono h⟩
 len := fun ⟨_, _, _, _, _, _, _, _, _, e, _⟩ => by rw [e]; rfl
 one := fun ⟨_, _, _, _, _, _, _, _, _, e, _⟩ => by rw [e]; rfl
structure DS41 where
 e0 : (List DValue)
 e1 : (List DValue)
 deriving DecidableEq, Inhabited
def rDS41 : Rep DS41 where
 sz := 2
 rel S w vs x := ∃ A0 n0 c0 A1 n1 c1, vs = [.slice A0 n0 c0, .slice A1 n1 c1] ∧ SlR rDValue S w (.slice A0 n0 c0) x.e0 ∧ SlR rDValue S w (.slice A1 n1 c1) x.e1
 loc := fun h ⟨_, _, _, _, _, _, e, h0, h1⟩ => ⟨_, _, _, _, _, _, e, h0.loc h, h1.loc h⟩
 mono := fun h ⟨_, _, _, _, _, _, e, h0, h1⟩ => ⟨_, _, _, _, _, _, e, h0.mono h, h1.mono h⟩
 len := fun ⟨_, _, _, _, _, _, e, _⟩ => by rw [e]; rfl
 one := fun ⟨_, _, _, _, _, _, e, _⟩ => by rw [e]; rfl
structure DMeeter where
 m_ : DMemory
 kept_ : (List Int)
 met_ : (List Int)
 seen_ : (List (Int × Bool))
 next_ : Int
 deriving DecidableEq, Inhabited
structure DSet where
 at_ : (List (Int × Bool))
 deriving DecidableEq, Inhabited
abbrev kS0 (A : Option Addr) (n c : Nat) := slC rDValue (.slice A n c)
abbrev kS1 (A : Option Addr) (n c : Nat) := slC rDCell (.slice A n c)
abbrev kO2 (A : Option Addr) (n c : Nat) := ownC (rInt .i64) 3 (.slice A n c)
abbrev kO3 (A : Option Addr) (n c : Nat) := ownC rDValue 38 (.slice A n c)
abbrev kO4 (A : Option Addr) (n c : Nat) := ownC rDCell 32 (.slice A n c)
abbrev kS5 (A : Option Addr) (n c : Nat) := slC (rInt .i64) (.slice A n c)
theorem call13 : Callable Tryz.prog 13 := ⟨Tryz.f13, Tryz.func13, rfl, rfl⟩
theorem call16 : Callable Tryz.prog 16 := ⟨Tryz.f16, Tryz.func16, rfl, rfl⟩
theorem call23 : Callable Tryz.prog 23 := ⟨Tryz.f23, Tryz.func23, rfl, rfl⟩
theorem call25 : Callable Tryz.prog 25 := ⟨Tryz.f25, Tryz.func25, rfl, rfl⟩
theorem call36 : Callable Tryz.prog 36 := ⟨Tryz.f36, Tryz.func36, rfl, rfl⟩
theorem call37 : Callable Tryz.prog 37 := ⟨Tryz.f37, Tryz.func37, rfl, rfl⟩
theorem call38 : Callable Tryz.prog 38 := ⟨Tryz.f38, Tryz.func38, rfl, rfl⟩
theorem call39 : Callable Tryz.prog 39 := ⟨Tryz.f39, Tryz.func39, rfl, rfl⟩
theorem call40 : Callable Tryz.prog 40 := ⟨Tryz.f40, Tryz.func40, rfl, rfl⟩
theorem call41 : Callable Tryz.prog 41 := ⟨Tryz.f41, Tryz.func41, rfl, rfl⟩
theorem call42 : Callable Tryz.prog 42 := ⟨Tryz.f42, Tryz.func42, rfl, rfl⟩
theorem call45 : Callable Tryz.prog 45 := ⟨Tryz.f45, Tryz.func45, rfl, rfl⟩
theorem call49 : Callable Tryz.prog 49 := ⟨Tryz.f49, Tryz.func49, rfl, rfl⟩
theorem call50 : Callable Tryz.prog 50 := ⟨Tryz.f50, Tryz.func50, rfl, rfl⟩
theorem call51 : Callable Tryz.prog 51 := ⟨Tryz.f51, Tryz.func51, rfl, rfl⟩
theorem call53 : Callable Tryz.prog 53 := ⟨Tryz.f53, Tryz.func53, rfl, rfl⟩
theorem call54 : Callable Tryz.prog 54 := ⟨Tryz.f54, Tryz.func54, rfl, rfl⟩
theorem call55 : Callable Tryz.prog 55 := ⟨Tryz.f55, Tryz.func55, rfl, rfl⟩
theorem call56 : Callable Tryz.prog 56 := ⟨Tryz.f56, Tryz.func56, rfl, rfl⟩
theorem call62 : Callable Tryz.prog 62 := ⟨Tryz.f62, Tryz.func62, rfl, rfl⟩
theorem call66 : Callable Tryz.prog 66 := ⟨Tryz.f66, Tryz.func66, rfl, rfl⟩
theorem call67 : Callable Tryz.prog 67 := ⟨Tryz.f67, Tryz.func67, rfl, rfl⟩
theorem call68 : Callable Tryz.prog 68 := ⟨Tryz.f68, Tryz.func68, rfl, rfl⟩
theorem call80 : Callable Tryz.prog 80 := ⟨Tryz.f80, Tryz.func80, rfl, rfl⟩
theorem call81 : Callable Tryz.prog 81 := ⟨Tryz.f81, Tryz.func81, rfl, rfl⟩
theorem call88 : Callable Tryz.prog 88 := ⟨Tryz.f88, Tryz.func88, rfl, rfl⟩
theorem call89 : Callable Tryz.prog 89 := ⟨Tryz.f89, Tryz.func89, rfl, rfl⟩
theorem call90 : Callable Tryz.prog 90 := ⟨Tryz.f90, Tryz.func90, rfl, rfl⟩
theorem call91 : Callable Tryz.prog 91 := ⟨Tryz.f91, Tryz.func91, rfl, rfl⟩
theorem call92 : Callable Tryz.prog 92 := ⟨Tryz.f92, Tryz.func92, rfl, rfl⟩
theorem call93 : Callable Tryz.prog 93 := ⟨Tryz.f93, Tryz.func93, rfl, rfl⟩
theorem call94 : Callable Tryz.prog 94 := ⟨Tryz.f94, Tryz.func94, rfl, rfl⟩
theorem call95 : Callable Tryz.prog 95 := ⟨Tryz.f95, Tryz.func95, rfl, rfl⟩
theorem call96 : Callable Tryz.prog 96 := ⟨Tryz.f96, Tryz.func96, rfl, rfl⟩
theorem call99 : Callable Tryz.prog 99 := ⟨Tryz.f99, Tryz.func99, rfl, rfl⟩
theorem call100 : Callable Tryz.prog 100 := ⟨Tryz.f100, Tryz.func100, rfl, rfl⟩
theorem call101 : Callable Tryz.prog 101 := ⟨Tryz.f101, Tryz.func101, rfl, rfl⟩
theorem call102 : Callable Tryz.prog 102 := ⟨Tryz.f102, Tryz.func102, rfl, rfl⟩
theorem call103 : Callable Tryz.prog 103 := ⟨Tryz.f103, Tryz.func103, rfl, rfl⟩
theorem call104 : Callable Tryz.prog 104 := ⟨Tryz.f104, Tryz.func104, rfl, rfl⟩
theorem call105 : Callable Tryz.prog 105 := ⟨Tryz.f105, Tryz.func105, rfl, rfl⟩
theorem call106 : Callable Tryz.prog 106 := ⟨Tryz.f106, Tryz.func106, rfl, rfl⟩
theorem call108 : Callable Tryz.prog 108 := ⟨Tryz.f108, Tryz.func108, rfl, rfl⟩
theorem call109 : Callable Tryz.prog 109 := ⟨Tryz.f109, Tryz.func109, rfl, rfl⟩
theorem call110 : Callable Tryz.prog 110 := ⟨Tryz.f110, Tryz.func110, rfl, rfl⟩
theorem call111 : Callable Tryz.prog 111 := ⟨Tryz.f111, Tryz.func111, rfl, rfl⟩
theorem call112 : Callable Tryz.prog 112 := ⟨Tryz.f112, Tryz.func112, rfl, rfl⟩
theorem call113 : Callable Tryz.prog 113 := ⟨Tryz.f113, Tryz.func113, rfl, rfl⟩
theorem call114 : Callable Tryz.prog 114 := ⟨Tryz.f114, Tryz.func114, rfl, rfl⟩
theorem call117 : Callable Tryz.prog 117 := ⟨Tryz.f117, Tryz.func117, rfl, rfl⟩
theorem call118 : Callable Tryz.prog 118 := ⟨Tryz.f118, Tryz.func118, rfl, rfl⟩
theorem call122 : Callable Tryz.prog 122 := ⟨Tryz.f122, Tryz.func122, rfl, rfl⟩
theorem call132 : Callable Tryz.prog 132 := ⟨Tryz.f132, Tryz.func132, rfl, rfl⟩
theorem call133 : Callable Tryz.prog 133 := ⟨Tryz.f133, Tryz.func133, rfl, rfl⟩
theorem call134 : Callable Tryz.prog 134 := ⟨Tryz.f134, Tryz.func134, rfl, rfl⟩
theorem call135 : Callable Tryz.prog 135 := ⟨Tryz.f135, Tryz.func135, rfl, rfl⟩
theorem call136 : Callable Tryz.prog 136 := ⟨Tryz.f136, Tryz.func136, rfl, rfl⟩
theorem call137 : Callable Tryz.prog 137 := ⟨Tryz.f137, Tryz.func137, rfl, rfl⟩
theorem call143 : Callable Tryz.prog 143 := ⟨Tryz.f143, Tryz.func143, rfl, rfl⟩
theorem call144 : Callable Tryz.prog 144 := ⟨Tryz.f144, Tryz.func144, rfl, rfl⟩
theorem call145 : Callable Tryz.prog 145 := ⟨Tryz.f145, Tryz.func145, rfl, rfl⟩
theorem call146 : Callable Tryz.prog 146 := ⟨Tryz.f146, Tryz.func146, rfl, rfl⟩
theorem call147 : Callable Tryz.prog 147 := ⟨Tryz.f147, Tryz.func147, rfl, rfl⟩
theorem call148 : Callable Tryz.prog 148 := ⟨Tryz.f148, Tryz.func148, rfl, rfl⟩
theorem call149 : Callable Tryz.prog 149 := ⟨Tryz.f149, Tryz.func149, rfl, rfl⟩
theorem call150 : Callable Tryz.prog 150 := ⟨Tryz.f150, Tryz.func150, rfl, rfl⟩
theorem call151 : Callable Tryz.prog 151 := ⟨Tryz.f151, Tryz.func151, rfl, rfl⟩
theorem call152 : Callable Tryz.prog 152 := ⟨Tryz.f152, Tryz.func152, rfl, rfl⟩
theorem call153 : Callable Tryz.prog 153 := ⟨Tryz.f153, Tryz.func153, rfl, rfl⟩
theorem call154 : Callable Tryz.prog 154 := ⟨Tryz.f154, Tryz.func154, rfl, rfl⟩
theorem call155 : Callable Tryz.prog 155 := ⟨Tryz.f155, Tryz.func155, rfl, rfl⟩
theorem call156 : Callable Tryz.prog 156 := ⟨Tryz.f156, Tryz.func156, rfl, rfl⟩
theorem call159 : Callable Tryz.prog 159 := ⟨Tryz.f159, Tryz.func159, rfl, rfl⟩
theorem call160 : Callable Tryz.prog 160 := ⟨Tryz.f160, Tryz.func160, rfl, rfl⟩
theorem call162 : Callable Tryz.prog 162 := ⟨Tryz.f162, Tryz.func162, rfl, rfl⟩
theorem call163 : Callable Tryz.prog 163 := ⟨Tryz.f163, Tryz.func163, rfl, rfl⟩
theorem call164 : Callable Tryz.prog 164 := ⟨Tryz.f164, Tryz.func164, rfl, rfl⟩
theorem call165 : Callable Tryz.prog 165 := ⟨Tryz.f165, Tryz.func165, rfl, rfl⟩
theorem call166 : Callable Tryz.prog 166 := ⟨Tryz.f166, Tryz.func166, rfl, rfl⟩
theorem call179 : Callable Tryz.prog 179 := ⟨Tryz.f179, Tryz.func179, rfl, rfl⟩
theorem call180 : Callable Tryz.prog 180 := ⟨Tryz.f180, Tryz.func180, rfl, rfl⟩
theorem call182 : Callable Tryz.prog 182 := ⟨Tryz.f182, Tryz.func182, rfl, rfl⟩
theorem call183 : Callable Tryz.prog 183 := ⟨Tryz.f183, Tryz.func183, rfl, rfl⟩
theorem call184 : Callable Tryz.prog 184 := ⟨Tryz.f184, Tryz.func184, rfl, rfl⟩
theorem call185 : Callable Tryz.prog 185 := ⟨Tryz.f185, Tryz.func185, rfl, rfl⟩
theorem call186 : Callable Tryz.prog 186 := ⟨Tryz.f186, Tryz.func186, rfl, rfl⟩
theorem call187 : Callable Tryz.prog 187 := ⟨Tryz.f187, Tryz.func187, rfl, rfl⟩
theorem call188 : Callable Tryz.prog 188 := ⟨Tryz.f188, Tryz.func188, rfl, rfl⟩
theorem call189 : Callable Tryz.prog 189 := ⟨Tryz.f189, Tryz.func189, rfl, rfl⟩
theorem call191 : Callable Tryz.prog 191 := ⟨Tryz.f191, Tryz.func191, rfl, rfl⟩
theorem call198 : Callable Tryz.prog 198 := ⟨Tryz.f198, Tryz.func198, rfl, rfl⟩
theorem call199 : Callable Tryz.prog 199 := ⟨Tryz.f199, Tryz.func199, rfl, rfl⟩
theorem call200 : Callable Tryz.prog 200 := ⟨Tryz.f200, Tryz.func200, rfl, rfl⟩
theorem call201 : Callable Tryz.prog 201 := ⟨Tryz.f201, Tryz.func201, rfl, rfl⟩
theorem fa_24_0 (b o : Nat) (w : World) : (Instr.fieldAt 24 (pV b o) 0).run Tryz.prog w = .ok (pV b o) w := by kernel_rfl
theorem fa_24_1 (b o : Nat) (w : World) : (Instr.fieldAt 24 (pV b o) 1).run Tryz.prog w = .ok (.pointer (some ⟨b, o + 1, none⟩)) w := by kernel_rfl
theorem fa_32_0 (b o : Nat) (w : World) : (Instr.fieldAt 32 (pV b o) 0).run Tryz.prog w = .ok (pV b o) w := by kernel_rfl
theorem fa_32_1 (b o : Nat) (w : World) : (Instr.fieldAt 32 (pV b o) 1).run Tryz.prog w = .ok (.pointer (some ⟨b, o + 1, none⟩)) w := by kernel_rfl
theorem fa_32_2 (b o : Nat) (w : World) : (Instr.fieldAt 32 (pV b o) 2).run Tryz.prog w = .ok (.pointer (some ⟨b, o + 2, none⟩)) w := by kernel_rfl
theorem fa_32_3 (b o : Nat) (w : World) : (Instr.fieldAt 32 (pV b o) 3).run Tryz.prog w = .ok (.pointer (some ⟨b, o + 3, none⟩)) w := by kernel_rfl
theorem fa_32_4 (b o : Nat) (w : World) : (Instr.fieldAt 32 (pV b o) 4).run Tryz.prog w = .ok (.pointer (some ⟨b, o + 4, none⟩)) w := by kernel_rfl
theorem fa_32_5 (b o : Nat) (w : World) : (Instr.fieldAt 32 (pV b o) 5).run Tryz.prog w = .ok (.pointer (some ⟨b, o + 5, none⟩)) w := by kernel_rfl
theorem fa_38_0 (b o : Nat) (w : World) : (Instr.fieldAt 38 (pV b o) 0).run Tryz.prog w = .ok (pV b o) w := by kernel_rfl
theorem fa_38_1 (b o : Nat) (w : World) : (Instr.fieldAt 38 (pV b o) 1).run Tryz.prog w = .ok (.pointer (some ⟨b, o + 1, none⟩)) w := by kernel_rfl
theorem fa_38_2 (b o : Nat) (w : World) : (Instr.fieldAt 38 (pV b o) 2).run Tryz.prog w = .ok (.pointer (some ⟨b, o + 2, none⟩)) w := by kernel_rfl
theorem fa_79_0 (b o : Nat) (w : World) : (Instr.fieldAt 79 (pV b o) 0).run Tryz.prog w = .ok (pV b o) w := by kernel_rfl
theorem fa_79_1 (b o : Nat) (w : World) : (Instr.fieldAt 79 (pV b o) 1).run Tryz.prog w = .ok (.pointer (some ⟨b, o + 2, none⟩)) w := by kernel_rfl
theorem fa_79_2 (b o : Nat) (w : World) : (Instr.fieldAt 79 (pV b o) 2).run Tryz.prog w = .ok (.pointer (some ⟨b, o + 3, none⟩)) w := by kernel_rfl
theorem fa_79_3 (b o : Nat) (w : World) : (Instr.fieldAt 79 (pV b o) 3).run Tryz.prog w = .ok (.pointer (some ⟨b, o + 4, none⟩)) w := by kernel_rfl
theorem fa_109_0 (b o : Nat) (w : World) : (Instr.fieldAt 109 (pV b o) 0).run Tryz.prog w = .ok (pV b o) w := by kernel_rfl
theorem fa_109_1 (b o : Nat) (w : World) : (Instr.fieldAt 109 (pV b o) 1).run Tryz.prog w = .ok (.pointer (some ⟨b, o + 2, none⟩)) w := by kernel_rfl
theorem fa_109_2 (b o : Nat) (w : World) : (Instr.fieldAt 109 (pV b o) 2).run Tryz.prog w = .ok (.pointer (some ⟨b, o + 3, none⟩)) w := by kernel_rfl
theorem fa_109_3 (b o : Nat) (w : World) : (Instr.fieldAt 109 (pV b o) 3).run Tryz.prog w = .ok (.pointer (some ⟨b, o + 4, none⟩)) w := by kernel_rfl
theorem fa_109_4 (b o : Nat) (w : World) : (Instr.fieldAt 109 (pV b o) 4).run Tryz.prog w = .ok (.pointer (some ⟨b, o + 5, none⟩)) w := by kernel_rfl
theorem one3 : oneB Tryz.prog 3 = true := by kernel_rfl
theorem one4 : oneB Tryz.prog 4 = true := by kernel_rfl
theorem one9 : oneB Tryz.prog 9 = true := by kernel_rfl
theorem one22 : oneB Tryz.prog 22 = true := by kernel_rfl
theorem one25 : oneB Tryz.prog 25 = true := by kernel_rfl
theorem one35 : oneB Tryz.prog 35 = true := by kernel_rfl
theorem one77 : oneB Tryz.prog 77 = true := by kernel_rfl
theorem one80 : oneB Tryz.prog 80 = true := by kernel_rfl
theorem one107 : oneB Tryz.prog 107 = true := by kernel_rfl
theorem one123 : oneB Tryz.prog 123 = true := by kernel_rfl
theorem agg24 : aggB Tryz.prog 24 2 = true := by kernel_rfl
theorem agg32 : aggB Tryz.prog 32 6 = true := by kernel_rfl
theorem agg38 : aggB Tryz.prog 38 3 = true := by kernel_rfl
theorem size3 : sizeB Tryz.prog 3 1 = true := by kernel_rfl
theorem size4 : sizeB Tryz.prog 4 1 = true := by kernel_rfl
theorem size22 : sizeB Tryz.prog 22 1 = true := by kernel_rfl
theorem size24 : sizeB Tryz.prog 24 2 = true := by kernel_rfl
theorem size25 : sizeB Tryz.prog 25 1 = true := by kernel_rfl
theorem size32 : sizeB Tryz.prog 32 6 = true := by kernel_rfl
theorem size35 : sizeB Tryz.prog 35 1 = true := by kernel_rfl
theorem size38 : sizeB Tryz.prog 38 3 = true := by kernel_rfl
theorem size80 : sizeB Tryz.prog 80 1 = true := by kernel_rfl
theorem size107 : sizeB Tryz.prog 107 1 = true := by kernel_rfl
theorem size152 : sizeB Tryz.prog 152 0 = true := by kernel_rfl
theorem zero3 (w : World) : (zeroValue 3).run Tryz.prog w = .ok (iV 0) w := by kernel_rfl
theorem zero4 (w : World) : (zeroValue 4).run Tryz.prog w = .ok (.bool false) w := by kernel_rfl
theorem zero24 (w : World) : (zeroValue 24).run Tryz.prog w = .ok (.agg #[.slice none 0 0, .slice none 0 0]) w := by kernel_rfl
theorem zero25 (w : World) : (zeroValue 25).run Tryz.prog w = .ok (.slice none 0 0) w := by kernel_rfl
theorem zero32 (w : World) : (zeroValue 32).run Tryz.prog w = .ok (.agg #[iV 0, iV 0, iV 0, iV 0, .slice none 0 0, .slice none 0 0]) w := by kernel_rfl
theorem zero35 (w : World) : (zeroValue 35).run Tryz.prog w = .ok (.slice none 0 0) w := by kernel_rfl
theorem zero38 (w : World) : (zeroValue 38).run Tryz.prog w = .ok (.agg #[iV 0, iV 0, .string ⟨#[]⟩]) w := by kernel_rfl
theorem zero80 (w : World) : (zeroValue 80).run Tryz.prog w = .ok (.pointer none) w := by kernel_rfl
theorem zero107 (w : World) : (zeroValue 107).run Tryz.prog w = .ok (.map none) w := by kernel_rfl
theorem zero152 (w : World) : (zeroValue 152).run Tryz.prog w = .ok (.agg #[]) w := by kernel_rfl
theorem fld_32_3 (x0_ : Int) (x1_ : Int) (x2_ : Int) (x3_ : Int) (x4_a : Option Addr) (x4_n x4_c : Nat) (x5_a : Option Addr) (x5_n x5_c : Nat) (w : World) : (Instr.field 32 (.agg #[iV x0_, iV x1_, iV x2_, iV x3_, .slice x4_a x4_n x4_c, .slice x5_a x5_n x5_c]) 3).run Tryz.prog w = .ok (iV x3_) w := by kernel_rfl
theorem fld_32_5 (x0_ : Int) (x1_ : Int) (x2_ : Int) (x3_ : Int) (x4_a : Option Addr) (x4_n x4_c : Nat) (x5_a : Option Addr) (x5_n x5_c : Nat) (w : World) : (Instr.field 32 (.agg #[iV x0_, iV x1_, iV x2_, iV x3_, .slice x4_a x4_n x4_c, .slice x5_a x5_n x5_c]) 5).run Tryz.prog w = .ok (.slice x5_a x5_n x5_c) w := by kernel_rfl
theorem bld_24_  (w : World) : (Instr.build 24 #[]).run Tryz.prog w = .ok (.agg #[.slice none 0 0, .slice none 0 0]) w := by kernel_rfl
theorem bld_24_0 (x0_a : Option Addr) (x0_n x0_c : Nat) (w : World) : (Instr.build 24 #[(0, .slice x0_a x0_n x0_c)]).run Tryz.prog w = .ok (.agg #[.slice x0_a x0_n x0_c, .slice none 0 0]) w := by kernel_rfl
theorem bld_24_0_1 (x0_a : Option Addr) (x0_n x0_c : Nat) (x1_a : Option Addr) (x1_n x1_c : Nat) (w : World) : (Instr.build 24 #[(0, .slice x0_a x0_n x0_c), (1, .slice x1_a x1_n x1_c)]).run Tryz.prog w = .ok (.agg #[.slice x0_a x0_n x0_c, .slice x1_a x1_n x1_c]) w := by kernel_rfl
theorem bld_32_  (w : World) : (Instr.build 32 #[]).run Tryz.prog w = .ok (.agg #[iV 0, iV 0, iV 0, iV 0, .slice none 0 0, .slice none 0 0]) w := by kernel_rfl
theorem bld_32_0_3_4 (x0_ : Int) (x3_ : Int) (x4_a : Option Addr) (x4_n x4_c : Nat) (w : World) : (Instr.build 32 #[(0, iV x0_), (3, iV x3_), (4, .slice x4_a x4_n x4_c)]).run Tryz.prog w = .ok (.agg #[iV x0_, iV 0, iV 0, iV x3_, .slice x4_a x4_n x4_c, .slice none 0 0]) w := by kernel_rfl
theorem bld_32_0_4 (x0_ : Int) (x4_a : Option Addr) (x4_n x4_c : Nat) (w : World) : (Instr.build 32 #[(0, iV x0_), (4, .slice x4_a x4_n x4_c)]).run Tryz.prog w = .ok (.agg #[iV x0_, iV 0, iV 0, iV 0, .slice x4_a x4_n x4_c, .slice none 0 0]) w := by kernel_rfl
theorem bld_32_5 (x5_a : Option Addr) (x5_n x5_c : Nat) (w : World) : (Instr.build 32 #[(5, .slice x5_a x5_n x5_c)]).run Tryz.prog w = .ok (.agg #[iV 0, iV 0, iV 0, iV 0, .slice none 0 0, .slice x5_a x5_n x5_c]) w := by kernel_rfl
theorem bld_38_  (w : World) : (Instr.build 38 #[]).run Tryz.prog w = .ok (.agg #[iV 0, iV 0, .string ⟨#[]⟩]) w := by kernel_rfl
theorem bld_38_0 (x0_ : Int) (w : World) : (Instr.build 38 #[(0, iV x0_)]).run Tryz.prog w = .ok (.agg #[iV x0_, iV 0, .string ⟨#[]⟩]) w := by kernel_rfl
theorem bld_38_0_1 (x0_ : Int) (x1_ : Int) (w : World) : (Instr.build 38 #[(0, iV x0_), (1, iV x1_)]).run Tryz.prog w = .ok (.agg #[iV x0_, iV x1_, .string ⟨#[]⟩]) w := by kernel_rfl
theorem bld_79_0_2 (x0_0_a : Option Addr) (x0_0_n x0_0_c : Nat) (x0_1_a : Option Addr) (x0_1_n x0_1_c : Nat) (x2_ : Option Nat) (w : World) : (Instr.build 79 #[(0, .agg #[.slice x0_0_a x0_0_n x0_0_c, .slice x0_1_a x0_1_n x0_1_c]), (2, .map x2_)]).run Tryz.prog w = .ok (.agg #[.slice x0_0_a x0_0_n x0_0_c, .slice x0_1_a x0_1_n x0_1_c, .slice none 0 0, .map x2_, iV 0]) w := by kernel_rfl
theorem bld_109_0_1_3 (x0_0_a : Option Addr) (x0_0_n x0_0_c : Nat) (x0_1_a : Option Addr) (x0_1_n x0_1_c : Nat) (x1_a : Option Addr) (x1_n x1_c : Nat) (x3_ : Option Nat) (w : World) : (Instr.build 109 #[(0, .agg #[.slice x0_0_a x0_0_n x0_0_c, .slice x0_1_a x0_1_n x0_1_c]), (1, .slice x1_a x1_n x1_c), (3, .map x3_)]).run Tryz.prog w = .ok (.agg #[.slice x0_0_a x0_0_n x0_0_c, .slice x0_1_a x0_1_n x0_1_c, .slice x1_a x1_n x1_c, .slice none 0 0, .map x3_, iV 0]) w := by kernel_rfl
theorem bld_152_  (w : World) : (Instr.build 152 #[]).run Tryz.prog w = .ok (.agg #[]) w := by kernel_rfl
theorem bsl_22_1 (x0_0_ : Int) (x0_1_ : Int) (x0_2_ : Int) (x0_3_ : Int) (x0_4_a : Option Addr) (x0_4_n x0_4_c : Nat) (x0_5_a : Option Addr) (x0_5_n x0_5_c : Nat) (w : World) : (Instr.buildSlice 22 1 #[(0, .agg #[iV x0_0_, iV x0_1_, iV x0_2_, iV x0_3_, .slice x0_4_a x0_4_n x0_4_c, .slice x0_5_a x0_5_n x0_5_c])]).run Tryz.prog w = .ok (.slice (some ⟨w.heap.size, 0, none⟩) 1 1) (w.alloc (.cells #[iV x0_0_, iV x0_1_, iV x0_2_, iV x0_3_, .slice x0_4_a x0_4_n x0_4_c, .slice x0_5_a x0_5_n x0_5_c] 32)) := by kernel_rfl
theorem bsl_22_3 (x0_0_ : Int) (x0_1_ : Int) (x0_2_ : Int) (x0_3_ : Int) (x0_4_a : Option Addr) (x0_4_n x0_4_c : Nat) (x0_5_a : Option Addr) (x0_5_n x0_5_c : Nat) (x1_0_ : Int) (x1_1_ : Int) (x1_2_ : Int) (x1_3_ : Int) (x1_4_a : Option Addr) (x1_4_n x1_4_c : Nat) (x1_5_a : Option Addr) (x1_5_n x1_5_c : Nat) (x2_0_ : Int) (x2_1_ : Int) (x2_2_ : Int) (x2_3_ : Int) (x2_4_a : Option Addr) (x2_4_n x2_4_c : Nat) (x2_5_a : Option Addr) (x2_5_n x2_5_c : Nat) (w : World) : (Instr.buildSlice 22 3 #[(0, .agg #[iV x0_0_, iV x0_1_, iV x0_2_, iV x0_3_, .slice x0_4_a x0_4_n x0_4_c, .slice x0_5_a x0_5_n x0_5_c]), (1, .agg #[iV x1_0_, iV x1_1_, iV x1_2_, iV x1_3_, .slice x1_4_a x1_4_n x1_4_c, .slice x1_5_a x1_5_n x1_5_c]), (2, .agg #[iV x2_0_, iV x2_1_, iV x2_2_, iV x2_3_, .slice x2_4_a x2_4_n x2_4_c, .slice x2_5_a x2_5_n x2_5_c])]).run Tryz.prog w = .ok (.slice (some ⟨w.heap.size, 0, none⟩) 3 3) (w.alloc (.cells #[iV x0_0_, iV x0_1_, iV x0_2_, iV x0_3_, .slice x0_4_a x0_4_n x0_4_c, .slice x0_5_a x0_5_n x0_5_c, iV x1_0_, iV x1_1_, iV x1_2_, iV x1_3_, .slice x1_4_a x1_4_n x1_4_c, .slice x1_5_a x1_5_n x1_5_c, iV x2_0_, iV x2_1_, iV x2_2_, iV x2_3_, .slice x2_4_a x2_4_n x2_4_c, .slice x2_5_a x2_5_n x2_5_c] 32)) := by kernel_rfl
theorem bsl_25_0  (w : World) : (Instr.buildSlice 25 0 #[]).run Tryz.prog w = .ok (.slice (some ⟨w.heap.size, 0, none⟩) 0 0) (w.alloc (.cells #[] 38)) := by kernel_rfl
theorem bsl_25_1 (x0_0_ : Int) (x0_1_ : Int) (x0_2_ : ByteArray) (w : World) : (Instr.buildSlice 25 1 #[(0, .agg #[iV x0_0_, iV x0_1_, .string x0_2_])]).run Tryz.prog w = .ok (.slice (some ⟨w.heap.size, 0, none⟩) 1 1) (w.alloc (.cells #[iV x0_0_, iV x0_1_, .string x0_2_] 38)) := by kernel_rfl
theorem bsl_25_2 (x0_0_ : Int) (x0_1_ : Int) (x0_2_ : ByteArray) (x1_0_ : Int) (x1_1_ : Int) (x1_2_ : ByteArray) (w : World) : (Instr.buildSlice 25 2 #[(0, .agg #[iV x0_0_, iV x0_1_, .string x0_2_]), (1, .agg #[iV x1_0_, iV x1_1_, .string x1_2_])]).run Tryz.prog w = .ok (.slice (some ⟨w.heap.size, 0, none⟩) 2 2) (w.alloc (.cells #[iV x0_0_, iV x0_1_, .string x0_2_, iV x1_0_, iV x1_1_, .string x1_2_] 38)) := by kernel_rfl
theorem bsl_25_3 (x0_0_ : Int) (x0_1_ : Int) (x0_2_ : ByteArray) (x1_0_ : Int) (x1_1_ : Int) (x1_2_ : ByteArray) (x2_0_ : Int) (x2_1_ : Int) (x2_2_ : ByteArray) (w : World) : (Instr.buildSlice 25 3 #[(0, .agg #[iV x0_0_, iV x0_1_, .string x0_2_]), (1, .agg #[iV x1_0_, iV x1_1_, .string x1_2_]), (2, .agg #[iV x2_0_, iV x2_1_, .string x2_2_])]).run Tryz.prog w = .ok (.slice (some ⟨w.heap.size, 0, none⟩) 3 3) (w.alloc (.cells #[iV x0_0_, iV x0_1_, .string x0_2_, iV x1_0_, iV x1_1_, .string x1_2_, iV x2_0_, iV x2_1_, .string x2_2_] 38)) := by kernel_rfl
theorem bsl_25_4 (x0_0_ : Int) (x0_1_ : Int) (x0_2_ : ByteArray) (x1_0_ : Int) (x1_1_ : Int) (x1_2_ : ByteArray) (x2_0_ : Int) (x2_1_ : Int) (x2_2_ : ByteArray) (x3_0_ : Int) (x3_1_ : Int) (x3_2_ : ByteArray) (w : World) : (Instr.buildSlice 25 4 #[(0, .agg #[iV x0_0_, iV x0_1_, .string x0_2_]), (1, .agg #[iV x1_0_, iV x1_1_, .string x1_2_]), (2, .agg #[iV x2_0_, iV x2_1_, .string x2_2_]), (3, .agg #[iV x3_0_, iV x3_1_, .string x3_2_])]).run Tryz.prog w = .ok (.slice (some ⟨w.heap.size, 0, none⟩) 4 4) (w.alloc (.cells #[iV x0_0_, iV x0_1_, .string x0_2_, iV x1_0_, iV x1_1_, .string x1_2_, iV x2_0_, iV x2_1_, .string x2_2_, iV x3_0_, iV x3_1_, .string x3_2_] 38)) := by kernel_rfl
theorem bsl_35_1 (x0_ : Int) (w : World) : (Instr.buildSlice 35 1 #[(0, iV x0_)]).run Tryz.prog w = .ok (.slice (some ⟨w.heap.size, 0, none⟩) 1 1) (w.alloc (.cells #[iV x0_] 3)) := by kernel_rfl
theorem bsl_66_2 (x0_a : Option Addr) (x0_n x0_c : Nat) (x1_a : Option Addr) (x1_n x1_c : Nat) (w : World) : (Instr.buildSlice 66 2 #[(0, .slice x0_a x0_n x0_c), (1, .slice x1_a x1_n x1_c)]).run Tryz.prog w = .ok (.slice (some ⟨w.heap.size, 0, none⟩) 2 2) (w.alloc (.cells #[.slice x0_a x0_n x0_c, .slice x1_a x1_n x1_c] 22)) := by kernel_rfl
theorem bsl_146_2 (x0_a : Option Addr) (x0_n x0_c : Nat) (x1_a : Option Addr) (x1_n x1_c : Nat) (w : World) : (Instr.buildSlice 146 2 #[(0, .slice x0_a x0_n x0_c), (1, .slice x1_a x1_n x1_c)]).run Tryz.prog w = .ok (.slice (some ⟨w.heap.size, 0, none⟩) 2 2) (w.alloc (.cells #[.slice x0_a x0_n x0_c, .slice x1_a x1_n x1_c] 25)) := by kernel_rfl
theorem bsl_181_2 (x0_a : Option Addr) (x0_n x0_c : Nat) (x1_a : Option Addr) (x1_n x1_c : Nat) (w : World) : (Instr.buildSlice 181 2 #[(0, .slice x0_a x0_n x0_c), (1, .slice x1_a x1_n x1_c)]).run Tryz.prog w = .ok (.slice (some ⟨w.heap.size, 0, none⟩) 2 2) (w.alloc (.cells #[.slice x0_a x0_n x0_c, .slice x1_a x1_n x1_c] 35)) := by kernel_rfl
theorem zb3 : zeroB Tryz.prog 3 1 8 = true := by kernel_rfl
theorem zb32 : zeroB Tryz.prog 32 6 80 = true := by kernel_rfl
theorem zb38 : zeroB Tryz.prog 38 3 32 = true := by kernel_rfl
instance : Fc (oneB Tryz.prog 3 = true) := ⟨one3⟩
instance : Fc (oneB Tryz.prog 4 = true) := ⟨one4⟩
instance : Fc (oneB Tryz.prog 9 = true) := ⟨one9⟩
instance : Fc (oneB Tryz.prog 22 = true) := ⟨one22⟩
instance : Fc (oneB Tryz.prog 25 = true) := ⟨one25⟩
instance : Fc (oneB Tryz.prog 35 = true) := ⟨one35⟩
instance : Fc (oneB Tryz.prog 77 = true) := ⟨one77⟩
instance : Fc (oneB Tryz.prog 80 = true) := ⟨one80⟩
instance : Fc (oneB Tryz.prog 107 = true) := ⟨one107⟩
instance : Fc (oneB Tryz.prog 123 = true) := ⟨one123⟩
instance : FcA0 Tryz.prog 24 0 := ⟨fa_24_0⟩
instance : FcA Tryz.prog 24 1 1 := ⟨fa_24_1⟩
instance : FcA0 Tryz.prog 32 0 := ⟨fa_32_0⟩
instance : FcA Tryz.prog 32 1 1 := ⟨fa_32_1⟩
instance : FcA Tryz.prog 32 2 2 := ⟨fa_32_2⟩
instance : FcA Tryz.prog 32 3 3 := ⟨fa_32_3⟩
instance : FcA Tryz.prog 32 4 4 := ⟨fa_32_4⟩
instance : FcA Tryz.prog 32 5 5 := ⟨fa_32_5⟩
instance : FcA0 Tryz.prog 38 0 := ⟨fa_38_0⟩
instance : FcA Tryz.prog 38 1 1 := ⟨fa_38_1⟩
instance : FcA Tryz.prog 38 2 2 := ⟨fa_38_2⟩
instance : FcA0 Tryz.prog 79 0 := ⟨fa_79_0⟩
instance : FcA Tryz.prog 79 1 2 := ⟨fa_79_1⟩
instance : FcA Tryz.prog 79 2 3 := ⟨fa_79_2⟩
instance : FcA Tryz.prog 79 3 4 := ⟨fa_79_3⟩
instance : FcA0 Tryz.prog 109 0 := ⟨fa_109_0⟩
instance : FcA Tryz.prog 109 1 2 := ⟨fa_109_1⟩
instance : FcA Tryz.prog 109 2 3 := ⟨fa_109_2⟩
instance : FcA Tryz.prog 109 3 4 := ⟨fa_109_3⟩
instance : FcA Tryz.prog 109 4 5 := ⟨fa_109_4⟩
theorem guardEq38 : Tryz.prog.eqGuardType Tryz.prog.depth 38 = false := by kernel_rfl
theorem equal38 (x y : DValue) (w : World) : (Op.equalIn 10000 38 (.agg #[iV x.Kind, iV x.N, .string x.S]) (.agg #[iV y.Kind, iV y.N, .string y.S])).run Tryz.prog w = .ok (decide (x = y)) w := by
 obtain ⟨xKind, xN, xS⟩ := x
 obtain ⟨yKind, yN, yS⟩ := y
 show (Op.equalIn 10000 38 (.agg #[iV xKind, iV xN, .string xS]) (.agg #[iV yKind, iV yN, .string yS])).run Tryz.prog w = _
 go_simp
 simp only [bytes_eq]
 by_cases h0 : xKind = yKind <;> by_cases h1 : xN = yN <;> by_cases h2 : xS = yS <;> simp [h0, h1, h2]
theorem ev_seq38 {s : Env} {C : World → Prop} {d : Option Nat} {ty u : TypeId} {pos : String} {af : Array Edge} {gd : Option (Nat × Bool)} {a b : Operand} {x y : DValue} (hx : evE s a = some (.agg #[iV x.Kind, iV x.N, .string x.S])) (hy : evE s b = some (.agg #[iV y.Kind, iV y.N, .string y.S])) : Ev Tryz.prog s C ⟨d, .binOp .eql 38 a b u, ty, pos, af, gd⟩ (.bool (decide (x = y))) :=
 ev_bin hx hy fun w => by
  rw [Sem.run_bind, run_eqGuard_agg w _ _ _ _ _ _ guardEq38]
  simp only [Result.andThen_ok]
  rw [run_eql_struct, equal38]
  rfl
def reach_address_O (N : Nat) (a0 : DValue) : Option (Int × Bool) :=
 (bif decide (a0.Kind = 7) then (some true) else (some (decide (a0.Kind = 9)))).bind fun b2 => some (a0.N, b2)
theorem reach_address_ok {N : Nat} {a0 : DValue} {r : (Int × Bool)} (h : reach_address_O N a0 = some r) : Okc Tryz.prog 51 [.agg #[iV a0.Kind, iV a0.N, .string a0.S]] ([]) (fun (u : Value) (post : List Chunk) => u = .tuple #[iV r.1, .bool r.2] ∧ post = []) := by
 refine ok_E Tryz.func51 rfl rfl ?_
 simp only [envOf]
 refine run ?_
 refine gD (op_box rfl rfl) ?_
 rintro _ _ ⟨B1, rfl, rfl⟩
 refine run ?_
 refine G_seq ?_
 refine G_drawn (by kernel_rfl) _ (cv_refl _) ?_
 refine T3_ev 0 rfl (by kernel_rfl) (ev_fa rfl fa_38_1) rfl rfl ?_
 refine T3_rd 1 rfl (by kernel_rfl) (rd_box1 0 rfl rfl one3 rfl) rfl rfl ?_
 refine T3_ev 2 rfl (by kernel_rfl) (ev_fa0 rfl fa_38_0) rfl rfl ?_
 refine T3_rd 3 rfl (by kernel_rfl) (rd_box1 0 rfl rfl one3 rfl) rfl rfl ?_
 refine T3_ev 4 rfl (by kernel_rfl) (ev_eq rfl rfl) rfl rfl ?_
 refine T3_ev 5 rfl (by kernel_rfl) (ev_move rfl) rfl rfl ?_
 refine T3_ev 10 rfl (by kernel_rfl) (ev_assign rfl) rfl rfl ?_
 obtain ⟨b2, hb2, h⟩ := bind_elim h
 refine T3_joinB (fun l => ((((l.setIfInBounds 6 true).setIfInBounds 7 true).setIfInBounds 8 true).setIfInBounds 9 true)) 1 13 b2 (fun rest => ?_) ?_
 ·clear h
  refine T3_case 9 rfl (fun g2 => ?_) (fun g2 => ?_)
  ·have h := cond_t g2 hb2
   refine T3_no 6 rfl (by kernel_rfl) (g_ft g2 rfl) rfl ?_
   refine T3_no 7 rfl (by kernel_rfl) (g_ft g2 rfl) rfl ?_
   refine T3_no 8 rfl (by kernel_rfl) (g_ft g2 rfl) rfl ?_
   refine T3_ev 9 rfl (by kernel_rfl) (ev_pick_t' g2 rfl rfl) rfl rfl ?_
   obtain rfl := Option.some.inj h
   exact T3_sub rest (sub_cons rfl (sub_skip (sub_skip (sub_skip (sub_skip sub_refl rfl) rfl) rfl) rfl)) (cv_refl _) (cv_refl _)
  ·have h := cond_f g2 hb2
   refine T3_ev 6 rfl (by kernel_rfl) (ev_fa0 rfl fa_38_0) (g_ff g2 rfl) rfl ?_
   refine T3_rd 7 rfl (by kernel_rfl) (rd_box1 0 rfl rfl one3 rfl) (g_ff g2 rfl) rfl ?_
   refine T3_ev 8 rfl (by kernel_rfl) (ev_eq rfl rfl) (g_ff g2 rfl) rfl ?_
   refine T3_ev 9 rfl (by kernel_rfl) (ev_pick_f' g2 rfl rfl) rfl rfl ?_
   obtain rfl := Option.some.inj h
   exact T3_sub rest (sub_cons rfl (sub_skip (sub_skip (sub_skip (sub_skip sub_refl rfl) rfl) rfl) rfl)) (cv_refl _) (cv_refl _)
 refine T3_ev 11 rfl (by kernel_rfl) (ev_assign rfl) rfl rfl ?_
 refine T3_done (by kernel_rfl) ?_
 refine run ?_
 obtain rfl := Option.some.inj h
 exact endG2 rfl rfl rfl (cv_sel [] 1 rfl rfl) ⟨rfl, rfl⟩
theorem reach_address_free {r : (Int × Bool)} : ∀ v post, ((fun (u : Value) (post : List Chunk) => u = .tuple #[iV r.1, .bool r.2] ∧ post = [])) v post → ∀ c ∈ post, Free c := by
 rintro _ _ ⟨rfl, rfl⟩; exact mem_nil
def reach_place_j5 (N : Nat) (a1 : Int) (p6 : (List DCell)) (p7 : Int) : Option ((List DCell) × Int × Bool) :=
 (bif decide (0 < a1) then (some (decide (p7 < (p6.length : Int)))) else (some false)).bind fun b11 => some (p6, p7, b11)
def reach_place_O (N : Nat) (a0 : DMemory) (a1 : Int) : Option ((List DCell) × Int × Bool) :=
 req (in64 (a1.tdiv 2)) (bif decide (a1.tmod 2 = 0) then (req (in64 (a1.tdiv 2)) (req (in64 ((a1.tdiv 2) - 1)) (reach_place_j5 N a1 a0.Old ((a1.tdiv 2) - 1)))) else (reach_place_j5 N a1 a0.Young (a1.tdiv 2)))
theorem reach_place_ok {N : Nat} {a0 : DMemory} {a1 : Int} {r : ((List DCell) × Int × Bool)} (h : reach_place_O N a0 a1 = some r) {A1 : Option Addr} {n1 c1 : Nat} {A2 : Option Addr} {n2 c2 : Nat} : Okc Tryz.prog 49 [.agg #[.slice A1 n1 c1, .slice A2 n2 c2], iV a1] ([kS1 A1 n1 c1 a0.Young, kS1 A2 n2 c2 a0.Old]) (fun (u : Value) (post : List Chunk) => ∃ A0 n0 c0, u = .tuple #[.slice A0 n0 c0, iV r.2.1, .bool r.2.2] ∧ post = [kS1 A0 n0 c0 r.1]) := by
 refine ok_E Tryz.func49 rfl rfl ?_
 simp only [envOf]
 refine run ?_
 refine gD (op_box rfl rfl) ?_
 rintro _ _ ⟨B3, rfl, rfl⟩
 refine run ?_
 obtain ⟨q4, h⟩ := req_elim h
 refine gE (ev_quo rfl rfl (by decide) q4.1 q4.2) ?_
 refine run ?_
 refine G_joinF (fun s L => ∃ (p6 : (List DCell)) (p7 : Int) (A6 : Option Addr) (n6 c6 : Nat), reach_place_j5 N a1 p6 p7 = some r ∧ s = [(1, iV a1), (4, .slice none 0 0), (5, iV 0), (6, .bool false), (7, .slice A6 n6 c6), (8, iV p7)] ∧ L = [kS1 A6 n6 c6 p6]) ?_ ?_
 ·refine run ?_
  refine gE (ev_rem rfl rfl (by decide)) ?_
  refine run ?_
  refine G_cond rfl (fun g8 => ?_) (fun g8 => ?_)
  ·replace h := cond_t g8 h
   refine run ?_
   obtain ⟨q9, h⟩ := req_elim h
   refine gE (ev_quo rfl rfl (by decide) q9.1 q9.2) ?_
   obtain ⟨q10, h⟩ := req_elim h
   refine gE (ev_sub rfl rfl q10.1 q10.2) ?_
   refine run ?_
   exact ⟨_, _, ⟨a0.Old, (a1.tdiv 2) - 1, A2, n2, c2, h, rfl, rfl⟩, sA, cv_sel [2] 3 rfl rfl⟩
  ·replace h := cond_f g8 h
   refine run ?_
   exact ⟨_, _, ⟨a0.Young, a1.tdiv 2, A1, n1, c1, h, rfl, rfl⟩, sA, cv_sel [1] 3 rfl rfl⟩
 ·rintro _ _ ⟨p6, p7, A6, n6, c6, h, rfl, rfl⟩
  refine run ?_
  obtain ⟨b11, hb11, h⟩ := bind_elim h
  refine G_segb 5 30 b11 ?_ ?_
  ·clear h
   refine G_case 25 rfl (fun g11 => ?_) (fun g11 => ?_)
   ·have h := cond_t g11 hb11
    refine run ?_
    refine G_rd (rd_len 0 rfl els_sl rfl Tryz.underlying22) rfl (g_tt g11 rfl) rfl ?_
    refine run ?_
    obtain rfl := Option.some.inj h
    exact G_joined sA (cv_sel [0] 1 rfl rfl)
   ·have h := cond_f g11 hb11
    refine run ?_
    obtain rfl := Option.some.inj h
    exact G_joined sA (cv_sel [0] 1 rfl rfl)
  refine run ?_
  obtain rfl := Option.some.inj h
  exact endG3 rfl rfl rfl rfl (cv_sel [0] 1 rfl rfl) ⟨_, _, _, rfl, rfl⟩
def reach_Has_O (N : Nat) (a0 : DMemory) (a1 : Int) : Option Bool :=
 (reach_place_O N a0 a1).bind fun y4 => some y4.2.2
theorem reach_Has_ok {N : Nat} {a0 : DMemory} {a1 : Int} {r : Bool} (h : reach_Has_O N a0 a1 = some r) {A1 : Option Addr} {n1 c1 : Nat} {A2 : Option Addr} {n2 c2 : Nat} : Okc Tryz.prog 13 [.agg #[.slice A1 n1 c1, .slice A2 n2 c2], iV a1] ([kS1 A1 n1 c1 a0.Young, kS1 A2 n2 c2 a0.Old]) (fun (u : Value) (post : List Chunk) => u = .bool r ∧ post = []) := by
 refine ok_E Tryz.func13 rfl rfl ?_
 simp only [envOf]
 refine run ?_
 refine gD (op_box rfl rfl) ?_
 rintro _ _ ⟨B3, rfl, rfl⟩
 refine run ?_
 refine gR (rd_boxS (us := [.slice A1 n1 c1, .slice A2 n2 c2]) 0 rfl rfl agg24 rfl) ?_
 refine run ?_
 obtain ⟨y4, hy4, h⟩ := bind_elim h
 refine gD (op_call (reach_place_ok hy4) call49 rfl (cv_take [1, 2] [] [0, 1, 2] 3 rfl)) ?_
 rintro _ _ ⟨_, ⟨A5, n5, c5, rfl, rfl⟩, rfl⟩
 refine run ?_
 obtain rfl := Option.some.inj h
 exact endG1 rfl rfl (cv_sel [] 4 rfl rfl) ⟨rfl, rfl⟩
theorem reach_Has_free {r : Bool} : ∀ v post, ((fun (u : Value) (post : List Chunk) => u = .bool r ∧ post = [])) v post → ∀ c ∈ post, Free c := by
 rintro _ _ ⟨rfl, rfl⟩; exact mem_nil
def reach_row_lay_j12 (N : Nat) (kb7 : Int → (List Int) → (List (Int × Unit)) → Option DRow) (a1 : (List Int)) (p8 : Int) (a0 : DRow) (p13 : (List Int)) (p14 : (List (Int × Unit))) : Option DRow :=
 req (in64 (p8 + 1)) (kb7 (p8 + 1) p13 p14)
def reach_row_lay_l7 (N : Nat) (a1 : (List Int)) (a0 : DRow) : Nat → Int → (List Int) → (List (Int × Unit)) → Option DRow
 | 0, _, _, _ => none
 | m7 + 1, p8, p9, p10 => bif decide (p8 < (a1.length : Int)) then ((getE a1 p8).bind fun x15 => (bif !((lk p10 x15).isSome) then ((reach_Has_O N a0.m_ x15).bind fun y18 => some y18) else (some false)).bind fun b17 => bif b17 then (req (fitsL (p9.length + ([x15] : List Int).length)) (reach_row_lay_j12 N (reach_row_lay_l7 N a1 a0 m7) a1 p8 a0 (p9 ++ ([x15] : List Int)) (upL p10 x15 ()))) else (reach_row_lay_j12 N (reach_row_lay_l7 N a1 a0 m7) a1 p8 a0 p9 p10)) else (some (⟨a0.m_, p9, p10, a0.done_⟩ : DRow))
theorem reach_row_lay_l7_s {N m7 : Nat} {a1 : (List Int)} {a0 : DRow} {p8 : Int} {p9 : (List Int)} {p10 : (List (Int × Unit))} : reach_row_lay_l7 N a1 a0 (m7 + 1) p8 p9 p10 = bif decide (p8 < (a1.length : Int)) then ((getE a1 p8).bind fun x15 => (bif !((lk p10 x15).isSome) then ((reach_Has_O N a0.m_ x15).bind fun y18 => some y18) else (some false)).bind fun b17 => bif b17 then (req (fitsL (p9.length + ([x15] : List Int).length)) (reach_row_lay_j12 N (reach_row_lay_l7 N a1 a0 m7) a1 p8 a0 (p9 ++ ([x15] : List Int)) (upL p10 x15 ()))) else (reach_row_lay_j12 N (reach_row_lay_l7 N a1 a0 m7) a1 p8 a0 p9 p10)) else (some (⟨a0.m_, p9, p10, a0.done_⟩ : DRow)) := rfl
def reach_row_lay_O (N : Nat) (a0 : DRow) (a1 : (List Int)) : Option DRow :=
 reach_row_lay_l7 N a1 a0 N 0 a0.all_ a0.met_
theorem reach_row_lay_ok {N : Nat} {a0 : DRow} {a1 : (List Int)} {r : DRow} (h : reach_row_lay_O N a0 a1 = some r) {A2 : Option Addr} {n2 c2 : Nat} {A3 : Option Addr} {n3 c3 : Nat} {A6 : Option Addr} {n6 c6 : Nat} {B1 : Nat} {A4 : Option Addr} {n4 c4 : Nat} {M5 : Nat} : Okc Tryz.prog 118 [pV B1 0, .slice A6 n6 c6] ([kS1 A2 n2 c2 a0.m_.Young, kS1 A3 n3 c3 a0.m_.Old, kS5 A6 n6 c6 a1, boxC B1 79 [.slice A2 n2 c2, .slice A3 n3 c3, .slice A4 n4 c4, .map (some M5), iV a0.done_], kO2 A4 n4 c4 a0.all_, mapC ekI evU M5 a0.met_]) (fun (u : Value) (post : List Chunk) => ∃ A0 n0 c0 A1 n1 c1 A2 n2 c2 M3, u = .tuple #[] ∧ post = [boxC B1 79 [.slice A0 n0 c0, .slice A1 n1 c1, .slice A2 n2 c2, .map (some M3), iV r.done_], kS1 A0 n0 c0 r.m_.Young, kS1 A1 n1 c1 r.m_.Old, kO2 A2 n2 c2 r.all_, mapC ekI evU M3 r.met_]) := by
 refine ok_E Tryz.func118 rfl rfl ?_
 simp only [envOf]
 refine run ?_
 refine gR (rd_len 2 rfl els_sl rfl Tryz.underlying35) ?_
 refine run ?_
 refine G_loopF (fun m s L => ∃ (p8 : Int) (p9 : (List Int)) (p10 : (List (Int × Unit))) (A9 : Option Addr) (n9 c9 : Nat), reach_row_lay_l7 N a1 a0 m p8 p9 p10 = some r ∧ s = [(0, pV B1 0), (8, .slice A6 n6 c6), (9, iV (a1.length : Int)), (10, iV p8)] ∧ L = [kS5 A6 n6 c6 a1, kS1 A2 n2 c2 a0.m_.Young, kS1 A3 n3 c3 a0.m_.Old, kO2 A9 n9 c9 p9, mapC ekI evU M5 p10, boxC B1 79 [.slice A2 n2 c2, .slice A3 n3 c3, .slice A9 n9 c9, .map (some M5), iV a0.done_]]) N _ _ ⟨0, a0.all_, a0.met_, A4, n4, c4, h, rfl, rfl⟩ sA (cv_sel [2, 0, 1, 4, 5, 3] 6 rfl rfl) ?_
 rintro (_ | m7) _ _ ⟨p8, p9, p10, A9, n9, c9, h, rfl, rfl⟩
 ·exact none_some h
 rw [reach_row_lay_l7_s] at h
 refine run ?_
 refine G_seq ?_
 refine G_cond rfl (fun g11 => ?_) (fun g11 => ?_)
 ·replace h := cond_t g11 h
  refine run ?_
  refine G_joinF (fun s L => ∃ (p13 : (List Int)) (p14 : (List (Int × Unit))) (A13 : Option Addr) (n13 c13 : Nat), reach_row_lay_j12 N (reach_row_lay_l7 N a1 a0 m7) a1 p8 a0 p13 p14 = some r ∧ s = [(0, pV B1 0), (8, .slice A6 n6 c6), (9, iV (a1.length : Int)), (10, iV p8)] ∧ L = [kS5 A6 n6 c6 a1, kS1 A2 n2 c2 a0.m_.Young, kS1 A3 n3 c3 a0.m_.Old, kO2 A13 n13 c13 p13, mapC ekI evU M5 p14, boxC B1 79 [.slice A2 n2 c2, .slice A3 n3 c3, .slice A13 n13 c13, .map (some M5), iV a0.done_]]) ?_ ?_
  ·refine run ?_
   obtain ⟨x15, hx15, h⟩ := bind_elim h
   obtain ⟨lx15, ux15, hx15⟩ := getE_elim hx15
   refine gR (rd_idx 0 rfl els_sl rfl rfl Tryz.underlying35 size3 lx15 ux15) ?_
   refine gR (rd_elem1 (u := iV x15) 0 rfl els_sl rfl hx15 one3 (fun _ _ _ h => by rw [show _ = _ from h]; rfl)) ?_
   refine run ?_
   refine gR (rd_look2 (a := x15) (z := ()) 4 rfl map_rw rfl rfl Tryz.underlying77 (keyOk_int Tryz.underlying3) zero152) ?_
   refine run ?_
   refine gD (op_alloc zero152 rfl) ?_
   rintro _ _ ⟨B16, rfl, rfl⟩
   refine gO (op_store (us := []) (cs' := []) 0 rfl rfl rfl rfl size152 rfl rfl rfl) ?_
   rintro _ _ rfl
   refine run ?_
   obtain ⟨b17, hb17, h⟩ := bind_elim h
   refine G_segb 7 32 b17 ?_ ?_
   ·clear h
    refine G_case 25 rfl (fun g17 => ?_) (fun g17 => ?_)
    ·have h := cond_t g17 hb17
     refine run ?_
     refine G_rd (rd_boxS (us := [.slice A2 n2 c2, .slice A3 n3 c3]) 6 rfl rfl agg24 rfl) rfl (g_tt g17 rfl) rfl ?_
     refine run ?_
     obtain ⟨y18, hy18, h⟩ := bind_elim h
     refine G_opd (op_callR (reach_Has_ok hy18) call13 rfl (mem_cons (lent_ro (i := 2) rfl rfl) (mem_cons (lent_ro (i := 3) rfl rfl) mem_nil)) reach_Has_free) rfl (g_tt g17 rfl) rfl ?_
     rintro _ _ ⟨_, ⟨rfl, rfl⟩, rfl⟩
     refine run ?_
     obtain rfl := Option.some.inj h
     exact G_joined sA (cv_sel [0, 1, 2, 3, 4, 5, 6] 7 rfl rfl)
    ·have h := cond_f g17 hb17
     refine run ?_
     obtain rfl := Option.some.inj h
     exact G_joined sA (cv_sel [0, 1, 2, 3, 4, 5, 6] 7 rfl rfl)
   refine run ?_
   refine G_cond rfl (fun g19 => ?_) (fun g19 => ?_)
   ·replace h := cond_t g19 h
    refine run ?_
    refine gE (ev_build rfl (bld_152_)) ?_
    refine gO (op_mapUpdate (a := x15) (b := ()) 5 rfl rfl rfl rfl Tryz.underlying77 (keyOk_int Tryz.underlying3)) ?_
    rintro _ _ rfl
    refine run ?_
    refine gD (op_bslice (R := (rInt .i64)) (vss := [[iV x15]]) (xs := [x15]) rfl (bsl_35_1 _) rfl rfl (fun _ _ hr => .cons rfl All2.nil)) ?_
    rintro _ _ ⟨A20, n20, c20, rfl, rfl⟩
    obtain ⟨q21, h⟩ := req_elim h
    refine gD (op_append 5 0 rfl rfl els_own rfl rfl Tryz.underlying35 zb3 rfl rfl q21) ?_
    rintro _ _ ⟨A22, n22, c22, rfl, rfl⟩
    refine G_norm ([kO2 A20 n20 c20 ([x15] : List Int), boxC B16 152 [], kS5 A6 n6 c6 a1, kS1 A2 n2 c2 a0.m_.Young, kS1 A3 n3 c3 a0.m_.Old, kO2 A22 n22 c22 (p9 ++ ([x15] : List Int)), mapC ekI evU M5 (upL p10 x15 ()), boxC B1 79 [.slice A2 n2 c2, .slice A3 n3 c3, .slice A9 n9 c9, .map (some M5), iV a0.done_]]) rfl ?_
    refine run ?_
    refine gO (op_store (us := [.slice A22 n22 c22]) (cs' := [.slice A2 n2 c2, .slice A3 n3 c3, .slice A22 n22 c22, .map (some M5), iV a0.done_]) 7 rfl rfl rfl rfl size35 rfl rfl rfl) ?_
    rintro _ _ rfl
    refine run ?_
    exact ⟨_, _, ⟨p9 ++ ([x15] : List Int), upL p10 x15 (), A22, n22, c22, h, rfl, rfl⟩, sA, cv_sel [2, 3, 4, 5, 6, 7] 8 rfl rfl⟩
   ·replace h := cond_f g19 h
    refine run ?_
    exact ⟨_, _, ⟨p9, p10, A9, n9, c9, h, rfl, rfl⟩, sA, cv_sel [1, 2, 3, 4, 5, 6] 7 rfl rfl⟩
  ·rintro _ _ ⟨p13, p14, A13, n13, c13, h, rfl, rfl⟩
   refine G_region ?_
   obtain ⟨q23, h⟩ := req_elim h
   refine gE (ev_add rfl rfl q23.1 q23.2) ?_
   refine run ?_
   exact ⟨m7, _, _, Nat.lt_succ_self _, ⟨p8 + 1, p13, p14, A13, n13, c13, h, rfl, rfl⟩, sA, cv_sel [0, 1, 2, 3, 4, 5] 6 rfl rfl⟩
 ·replace h := cond_f g11 h
  refine run ?_
  obtain rfl := Option.some.inj h
  exact endG0n rfl (cv_sel [5, 1, 2, 3, 4] 6 rfl rfl) ⟨_, _, _, _, _, _, _, _, _, _, rfl, rfl⟩
theorem reach_row_lay_v_ok {N : Nat} {V : Value} {K : Nat} {a0 : DRow} {a1 : (List Int)} {r : DRow} (h : reach_row_lay_O N a0 a1 = some r) {A2 : Option Addr} {n2 c2 : Nat} {A3 : Option Addr} {n3 c3 : Nat} {A6 : Option Addr} {n6 c6 : Nat} {B1 : Nat} {A4 : Option Addr} {n4 c4 : Nat} {M5 : Nat} : Okc Tryz.prog 118 [pV B1 0, .slice A6 n6 c6] ([kS1 A2 n2 c2 a0.m_.Young, kS1 A3 n3 c3 a0.m_.Old, kS5 A6 n6 c6 a1, boxC B1 79 [.slice A2 n2 c2, .slice A3 n3 c3, .slice A4 n4 c4, .map (some M5), iV a0.done_], growC (rInt .i64) 3 (.slice A4 n4 c4) a0.all_ V K, mapC ekI evU M5 a0.met_]) (fun (u : Value) (post : List Chunk) => ∃ A0 n0 c0 A1 n1 c1 A2 n2 c2 M3, u = .tuple #[] ∧ post = [boxC B1 79 [.slice A0 n0 c0, .slice A1 n1 c1, .slice A2 n2 c2, .map (some M3), iV r.done_], kS1 A0 n0 c0 r.m_.Young, kS1 A1 n1 c1 r.m_.Old, growC (rInt .i64) 3 (.slice A2 n2 c2) r.all_ V K, mapC ekI evU M3 r.met_]) := by
 refine ok_E Tryz.func118 rfl rfl ?_
 simp only [envOf]
 refine run ?_
 refine gR (rd_len 2 rfl els_sl rfl Tryz.underlying35) ?_
 refine run ?_
 refine G_loopF (fun m s L => ∃ (p8 : Int) (p9 : (List Int)) (p10 : (List (Int × Unit))) (A9 : Option Addr) (n9 c9 : Nat), reach_row_lay_l7 N a1 a0 m p8 p9 p10 = some r ∧ s = [(0, pV B1 0), (8, .slice A6 n6 c6), (9, iV (a1.length : Int)), (10, iV p8)] ∧ L = [kS5 A6 n6 c6 a1, kS1 A2 n2 c2 a0.m_.Young, kS1 A3 n3 c3 a0.m_.Old, growC (rInt .i64) 3 (.slice A9 n9 c9) p9 V K, mapC ekI evU M5 p10, boxC B1 79 [.slice A2 n2 c2, .slice A3 n3 c3, .slice A9 n9 c9, .map (some M5), iV a0.done_]]) N _ _ ⟨0, a0.all_, a0.met_, A4, n4, c4, h, rfl, rfl⟩ sA (cv_sel [2, 0, 1, 4, 5, 3] 6 rfl rfl) ?_
 rintro (_ | m7) _ _ ⟨p8, p9, p10, A9, n9, c9, h, rfl, rfl⟩
 ·exact none_some h
 rw [reach_row_lay_l7_s] at h
 refine run ?_
 refine G_seq ?_
 refine G_cond rfl (fun g11 => ?_) (fun g11 => ?_)
 ·replace h := cond_t g11 h
  refine run ?_
  refine G_joinF (fun s L => ∃ (p13 : (List Int)) (p14 : (List (Int × Unit))) (A13 : Option Addr) (n13 c13 : Nat), reach_row_lay_j12 N (reach_row_lay_l7 N a1 a0 m7) a1 p8 a0 p13 p14 = some r ∧ s = [(0, pV B1 0), (8, .slice A6 n6 c6), (9, iV (a1.length : Int)), (10, iV p8)] ∧ L = [kS5 A6 n6 c6 a1, kS1 A2 n2 c2 a0.m_.Young, kS1 A3 n3 c3 a0.m_.Old, growC (rInt .i64) 3 (.slice A13 n13 c13) p13 V K, mapC ekI evU M5 p14, boxC B1 79 [.slice A2 n2 c2, .slice A3 n3 c3, .slice A13 n13 c13, .map (some M5), iV a0.done_]]) ?_ ?_
  ·refine run ?_
   obtain ⟨x15, hx15, h⟩ := bind_elim h
   obtain ⟨lx15, ux15, hx15⟩ := getE_elim hx15
   refine gR (rd_idx 0 rfl els_sl rfl rfl Tryz.underlying35 size3 lx15 ux15) ?_
   refine gR (rd_elem1 (u := iV x15) 0 rfl els_sl rfl hx15 one3 (fun _ _ _ h => by rw [show _ = _ from h]; rfl)) ?_
   refine run ?_
   refine gR (rd_look2 (a := x15) (z := ()) 4 rfl map_rw rfl rfl Tryz.underlying77 (keyOk_int Tryz.underlying3) zero152) ?_
   refine run ?_
   refine gD (op_alloc zero152 rfl) ?_
   rintro _ _ ⟨B16, rfl, rfl⟩
   refine gO (op_store (us := []) (cs' := []) 0 rfl rfl rfl rfl size152 rfl rfl rfl) ?_
   rintro _ _ rfl
   refine run ?_
   obtain ⟨b17, hb17, h⟩ := bind_elim h
   refine G_segb 7 32 b17 ?_ ?_
   ·clear h
    refine G_case 25 rfl (fun g17 => ?_) (fun g17 => ?_)
    ·have h := cond_t g17 hb17
     refine run ?_
     refine G_rd (rd_boxS (us := [.slice A2 n2 c2, .slice A3 n3 c3]) 6 rfl rfl agg24 rfl) rfl (g_tt g17 rfl) rfl ?_
     refine run ?_
     obtain ⟨y18, hy18, h⟩ := bind_elim h
     refine G_opd (op_callR (reach_Has_ok hy18) call13 rfl (mem_cons (lent_ro (i := 2) rfl rfl) (mem_cons (lent_ro (i := 3) rfl rfl) mem_nil)) reach_Has_free) rfl (g_tt g17 rfl) rfl ?_
     rintro _ _ ⟨_, ⟨rfl, rfl⟩, rfl⟩
     refine run ?_
     obtain rfl := Option.some.inj h
     exact G_joined sA (cv_sel [0, 1, 2, 3, 4, 5, 6] 7 rfl rfl)
    ·have h := cond_f g17 hb17
     refine run ?_
     obtain rfl := Option.some.inj h
     exact G_joined sA (cv_sel [0, 1, 2, 3, 4, 5, 6] 7 rfl rfl)
   refine run ?_
   refine G_cond rfl (fun g19 => ?_) (fun g19 => ?_)
   ·replace h := cond_t g19 h
    refine run ?_
    refine gE (ev_build rfl (bld_152_)) ?_
    refine gO (op_mapUpdate (a := x15) (b := ()) 5 rfl rfl rfl rfl Tryz.underlying77 (keyOk_int Tryz.underlying3)) ?_
    rintro _ _ rfl
    refine run ?_
    refine gD (op_bslice (R := (rInt .i64)) (vss := [[iV x15]]) (xs := [x15]) rfl (bsl_35_1 _) rfl rfl (fun _ _ hr => .cons rfl All2.nil)) ?_
    rintro _ _ ⟨A20, n20, c20, rfl, rfl⟩
    obtain ⟨q21, h⟩ := req_elim h
    refine gD (op_appendV 5 0 rfl rfl els_own rfl rfl Tryz.underlying35 zb3 rfl rfl q21) ?_
    rintro _ _ ⟨A22, n22, c22, rfl, rfl⟩
    refine G_norm ([kO2 A20 n20 c20 ([x15] : List Int), boxC B16 152 [], kS5 A6 n6 c6 a1, kS1 A2 n2 c2 a0.m_.Young, kS1 A3 n3 c3 a0.m_.Old, growC (rInt .i64) 3 (.slice A22 n22 c22) (p9 ++ ([x15] : List Int)) V K, mapC ekI evU M5 (upL p10 x15 ()), boxC B1 79 [.slice A2 n2 c2, .slice A3 n3 c3, .slice A9 n9 c9, .map (some M5), iV a0.done_]]) rfl ?_
    refine run ?_
    refine gO (op_store (us := [.slice A22 n22 c22]) (cs' := [.slice A2 n2 c2, .slice A3 n3 c3, .slice A22 n22 c22, .map (some M5), iV a0.done_]) 7 rfl rfl rfl rfl size35 rfl rfl rfl) ?_
    rintro _ _ rfl
    refine run ?_
    exact ⟨_, _, ⟨p9 ++ ([x15] : List Int), upL p10 x15 (), A22, n22, c22, h, rfl, rfl⟩, sA, cv_sel [2, 3, 4, 5, 6, 7] 8 rfl rfl⟩
   ·replace h := cond_f g19 h
    refine run ?_
    exact ⟨_, _, ⟨p9, p10, A9, n9, c9, h, rfl, rfl⟩, sA, cv_sel [1, 2, 3, 4, 5, 6] 7 rfl rfl⟩
  ·rintro _ _ ⟨p13, p14, A13, n13, c13, h, rfl, rfl⟩
   refine G_region ?_
   obtain ⟨q23, h⟩ := req_elim h
   refine gE (ev_add rfl rfl q23.1 q23.2) ?_
   refine run ?_
   exact ⟨m7, _, _, Nat.lt_succ_self _, ⟨p8 + 1, p13, p14, A13, n13, c13, h, rfl, rfl⟩, sA, cv_sel [0, 1, 2, 3, 4, 5] 6 rfl rfl⟩
 ·replace h := cond_f g11 h
  refine run ?_
  obtain rfl := Option.some.inj h
  exact endG0n rfl (cv_sel [5, 1, 2, 3, 4] 6 rfl rfl) ⟨_, _, _, _, _, _, _, _, _, _, rfl, rfl⟩
def reach_begin_c1_O (N : Nat) (a0 : DValue) (a1 : DRow) : Option DRow :=
 (reach_address_O N a0).bind fun y8 => bif y8.2 then ((reach_row_lay_O N a1 ([y8.1] : List Int)).bind fun y11 => some y11) else (some a1)
theorem reach_begin_c1_ok {N : Nat} {a0 : DValue} {a1 : DRow} {r : DRow} (h : reach_begin_c1_O N a0 a1 = some r) {A3 : Option Addr} {n3 c3 : Nat} {A4 : Option Addr} {n4 c4 : Nat} {B1 : Nat} {B2 : Nat} {A5 : Option Addr} {n5 c5 : Nat} {M6 : Nat} : Okc Tryz.prog 117 [.agg #[iV a0.Kind, iV a0.N, .string a0.S], pV B1 0] ([kS1 A3 n3 c3 a1.m_.Young, kS1 A4 n4 c4 a1.m_.Old, boxC B1 80 [pV B2 0], boxC B2 79 [.slice A3 n3 c3, .slice A4 n4 c4, .slice A5 n5 c5, .map (some M6), iV a1.done_], kO2 A5 n5 c5 a1.all_, mapC ekI evU M6 a1.met_]) (fun (u : Value) (post : List Chunk) => ∃ A0 n0 c0 A1 n1 c1 A2 n2 c2 M3, u = .tuple #[] ∧ post = [boxC B2 79 [.slice A0 n0 c0, .slice A1 n1 c1, .slice A2 n2 c2, .map (some M3), iV r.done_], kS1 A0 n0 c0 r.m_.Young, kS1 A1 n1 c1 r.m_.Old, kO2 A2 n2 c2 r.all_, mapC ekI evU M3 r.met_, boxC B1 80 [pV B2 0]]) := by
 refine ok_E Tryz.func117 rfl rfl ?_
 simp only [envOf]
 refine run ?_
 refine gD (op_box rfl rfl) ?_
 rintro _ _ ⟨B7, rfl, rfl⟩
 refine run ?_
 refine gR (rd_boxS (us := [iV a0.Kind, iV a0.N, .string a0.S]) 0 rfl rfl agg38 rfl) ?_
 obtain ⟨y8, hy8, h⟩ := bind_elim h
 refine gD (op_callR (reach_address_ok hy8) call51 rfl (mem_nil) reach_address_free) ?_
 rintro _ _ ⟨_, ⟨rfl, rfl⟩, rfl⟩
 refine run ?_
 refine G_cond rfl (fun g9 => ?_) (fun g9 => ?_)
 ·replace h := cond_t g9 h
  refine run ?_
  refine gD (op_bslice (R := (rInt .i64)) (vss := [[iV y8.1]]) (xs := [y8.1]) rfl (bsl_35_1 _) rfl rfl (fun _ _ hr => .cons rfl All2.nil)) ?_
  rintro _ _ ⟨A10, n10, c10, rfl, rfl⟩
  refine G_cv (cv_frz 0 rfl) ?_
  obtain ⟨y11, hy11, h⟩ := bind_elim h
  refine gD (op_call (reach_row_lay_ok hy11) call118 rfl (cv_take [2, 3, 0] [5, 6, 7] [0, 1, 2, 3, 4] 8 rfl)) ?_
  rintro _ _ ⟨_, ⟨A12, n12, c12, A13, n13, c13, A14, n14, c14, M15, rfl, rfl⟩, rfl⟩
  refine G_nil ?_
  obtain rfl := Option.some.inj h
  exact endG0n rfl (cv_sel [0, 1, 2, 3, 4, 9] 10 rfl rfl) ⟨_, _, _, _, _, _, _, _, _, _, rfl, rfl⟩
 ·replace h := cond_f g9 h
  refine G_skip ?_
  obtain rfl := Option.some.inj h
  exact endG0n rfl (cv_sel [4, 1, 2, 5, 6, 3] 7 rfl rfl) ⟨_, _, _, _, _, _, _, _, _, _, rfl, rfl⟩
def slices_Clone_O (N : Nat) (a0 : (List DValue)) : Option (List DValue) :=
 req (fitsL (([] : List DValue).length + a0.length)) (some (([] : List DValue) ++ a0))
theorem slices_Clone_ok {N : Nat} {a0 : (List DValue)} {r : (List DValue)} (h : slices_Clone_O N a0 = some r) {A1 : Option Addr} {n1 c1 : Nat} : Okc Tryz.prog 108 [.slice A1 n1 c1] ([kS0 A1 n1 c1 a0]) (fun (u : Value) (post : List Chunk) => ∃ A0 n0 c0, u = .slice A0 n0 c0 ∧ post = [kO3 A0 n0 c0 r]) := by
 refine ok_E Tryz.func108 rfl rfl ?_
 simp only [envOf]
 refine run ?_
 refine G_seq ?_
 refine run ?_
 refine gE (ev_slnil_eq rfl Tryz.underlying25) ?_
 refine run ?_
 refine G_cond rfl (fun g2 => ?_) (fun g2 => ?_)
 ·replace g2 : (A1).isNone = true := by simpa using g2
  refine G_isnil 0 rfl els_sl g2 (fun hx => ?_)
  subst hx
  replace h : req (fitsL (([] : List DValue).length + ([] : List DValue).length)) (some (([] : List DValue) ++ ([] : List DValue))) = some r := h
  replace h : some [] = some r := by simpa [req] using h
  refine run ?_
  obtain rfl := Option.some.inj h
  exact endG1 rfl rfl ((cv_nil rDValue 38 _).trans (cv_sel [0] 2 rfl rfl)) ⟨_, _, _, rfl, rfl⟩
 ·refine run ?_
  refine gD (op_bslice (R := rDValue) (vss := []) (xs := []) rfl (bsl_25_0) rfl rfl (fun _ _ hr => All2.nil)) ?_
  rintro _ _ ⟨A4, n4, c4, rfl, rfl⟩
  refine run ?_
  obtain ⟨q5, h⟩ := req_elim h
  refine gD (op_append 0 1 rfl rfl els_sl rfl rfl Tryz.underlying25 zb38 rfl rfl q5) ?_
  rintro _ _ ⟨A6, n6, c6, rfl, rfl⟩
  refine run ?_
  obtain rfl := Option.some.inj h
  exact endG1 rfl rfl (cv_sel [0] 2 rfl rfl) ⟨_, _, _, rfl, rfl⟩
theorem slices_Clone_free {r : (List DValue)} : ∀ v post, ((fun (u : Value) (post : List Chunk) => ∃ A0 n0 c0, u = .slice A0 n0 c0 ∧ post = [kO3 A0 n0 c0 r])) v post → ∀ c ∈ post, Free c := by
 rintro _ _ ⟨_, _, _, rfl, rfl⟩; exact mem_cons free_own (mem_nil)
def cell_Copy_O (N : Nat) (a0 : DCell) : Option DCell :=
 (slices_Clone_O N a0.Slots).bind fun y5 => (slices_Clone_O N a0.More).bind fun y8 => some (⟨a0.Kind, a0.Shape, a0.Flags, a0.Age, y5, y8⟩ : DCell)
theorem cell_Copy_ok {N : Nat} {a0 : DCell} {r : DCell} (h : cell_Copy_O N a0 = some r) {A1 : Option Addr} {n1 c1 : Nat} {A2 : Option Addr} {n2 c2 : Nat} : Okc Tryz.prog 50 [.agg #[iV a0.Kind, iV a0.Shape, iV a0.Flags, iV a0.Age, .slice A1 n1 c1, .slice A2 n2 c2]] ([kS0 A1 n1 c1 a0.Slots, kS0 A2 n2 c2 a0.More]) (fun (u : Value) (post : List Chunk) => ∃ A0 n0 c0 A1 n1 c1, u = .agg #[iV r.Kind, iV r.Shape, iV r.Flags, iV r.Age, .slice A0 n0 c0, .slice A1 n1 c1] ∧ post = [kO3 A0 n0 c0 r.Slots, kO3 A1 n1 c1 r.More]) := by
 refine ok_E Tryz.func50 rfl rfl ?_
 simp only [envOf]
 refine run ?_
 refine gD (op_box rfl rfl) ?_
 rintro _ _ ⟨B3, rfl, rfl⟩
 refine gD (op_alloc zero32 rfl) ?_
 rintro _ _ ⟨B4, rfl, rfl⟩
 refine run ?_
 refine G_seq ?_
 obtain ⟨y5, hy5, h⟩ := bind_elim h
 obtain ⟨y8, hy8, h⟩ := bind_elim h
 refine G_sub (t := [(1, pV B3 0), (2, pV B4 0)]) ?_ subT (cv_refl _)
 refine G_monoX (by kernel_rfl) 7 [] [2, 5, 6] [3, 4, 5, 6, 7, 8, 9] [[], [0], [1], [], [3], [4], []] [aV (pV B3 4),
 aV (.slice A1 n1 c1),
 aX3 (fun (A7 : Option Addr) (n7 c7 : Nat) => .slice A7 n7 c7) (fun A7 n7 c7 => [kO3 A7 n7 c7 y5]),
 aV (pV B3 5),
 aV (.slice A2 n2 c2),
 aX3 (fun (A10 : Option Addr) (n10 c10 : Nat) => .slice A10 n10 c10) (fun A10 n10 c10 => [kO3 A10 n10 c10 y8]),
 aV (pV B3 4)] [] (cv_refl _) (qB_nil) (by kernel_rfl) rfl rfl ?_ ?_ ?_
 ·exact qs_nil
 ·refine steps_cons rfl ?_ ?_
  ·exact X_ev (ev_fa rfl fa_32_4) rfl (cvpV rfl (cv_refl _))
  refine steps_cons rfl ?_ ?_
  ·refine X_op (op_callR (slices_Clone_ok hy8) call108 rfl (mem_cons (lent_ro (i := 3) rfl rfl) mem_nil) slices_Clone_free) rfl ?_
   rintro _ _ ⟨_, ⟨A9, n9, c9, rfl, rfl⟩, rfl⟩
   exact cvp3 A9 n9 c9 (cv_refl _)
  refine steps_cons rfl ?_ ?_
  ·exact X_rd (rd_box1 1 rfl rfl one25 rfl) rfl (cvpV rfl (cv_refl _))
  refine steps_cons rfl ?_ ?_
  ·exact X_ev (ev_fa rfl fa_32_5) rfl (cvpV rfl (cv_refl _))
  refine steps_cons rfl ?_ ?_
  ·refine X_op (op_callR (slices_Clone_ok hy5) call108 rfl (mem_cons (lent_ro (i := 2) rfl rfl) mem_nil) slices_Clone_free) rfl ?_
   rintro _ _ ⟨_, ⟨A6, n6, c6, rfl, rfl⟩, rfl⟩
   exact cvp3 A6 n6 c6 (cv_refl _)
  refine steps_cons rfl ?_ ?_
  ·exact X_rd (rd_box1 1 rfl rfl one25 rfl) rfl (cvpV rfl (cv_refl _))
  refine steps_cons rfl ?_ ?_
  ·exact X_ev (ev_fa rfl fa_32_4) rfl (cvpV rfl (cv_refl _))
  exact steps_nil
 ·intro A7 n7 c7 A10 n10 c10
  refine N_sub (t := [(5, .slice A7 n7 c7), (8, .slice A10 n10 c10), (9, pV B3 4), (1, pV B3 0), (2, pV B4 0)]) (L' := [kO3 A7 n7 c7 y5, kO3 A10 n10 c10 y8, boxC B4 32 [iV 0, iV 0, iV 0, iV 0, .slice none 0 0, .slice none 0 0], boxC B3 32 [iV a0.Kind, iV a0.Shape, iV a0.Flags, iV a0.Age, .slice A1 n1 c1, .slice A2 n2 c2], kS0 A1 n1 c1 a0.Slots, kS0 A2 n2 c2 a0.More]) ?_ subT (cv_refl _)
  refine N_opn 7 rfl (by kernel_rfl) (op_store (us := [.slice A7 n7 c7]) (cs' := [iV a0.Kind, iV a0.Shape, iV a0.Flags, iV a0.Age, .slice A7 n7 c7, .slice A2 n2 c2]) 3 rfl rfl rfl rfl size25 rfl rfl rfl) rfl rfl ?_
  rintro _ _ rfl
  refine N_ev 8 rfl (by kernel_rfl) (ev_fa rfl fa_32_5) rfl rfl rfl ?_
  refine N_opn 9 rfl (by kernel_rfl) (op_store (us := [.slice A10 n10 c10]) (cs' := [iV a0.Kind, iV a0.Shape, iV a0.Flags, iV a0.Age, .slice A7 n7 c7, .slice A10 n10 c10]) 3 rfl rfl rfl rfl size25 rfl rfl rfl) rfl rfl ?_
  rintro _ _ rfl
  refine N_done (by kernel_rfl) ?_
  refine run ?_
  refine gR (rd_boxS (us := [iV a0.Kind, iV a0.Shape, iV a0.Flags, iV a0.Age, .slice A7 n7 c7, .slice A10 n10 c10]) 3 rfl rfl agg32 rfl) ?_
  refine gO (op_store (us := [iV a0.Kind, iV a0.Shape, iV a0.Flags, iV a0.Age, .slice A7 n7 c7, .slice A10 n10 c10]) (cs' := [iV a0.Kind, iV a0.Shape, iV a0.Flags, iV a0.Age, .slice A7 n7 c7, .slice A10 n10 c10]) 2 rfl rfl rfl rfl size32 rfl rfl rfl) ?_
  rintro _ _ rfl
  refine G_norm ([kO3 A7 n7 c7 y5, kO3 A10 n10 c10 y8, boxC B4 32 [iV a0.Kind, iV a0.Shape, iV a0.Flags, iV a0.Age, .slice A7 n7 c7, .slice A10 n10 c10], boxC B3 32 [iV a0.Kind, iV a0.Shape, iV a0.Flags, iV a0.Age, .slice A7 n7 c7, .slice A10 n10 c10], kS0 A1 n1 c1 a0.Slots, kS0 A2 n2 c2 a0.More]) rfl ?_
  refine run ?_
  obtain rfl := Option.some.inj h
  exact endGl (rs := [.cell 2 32]) (vs := [.agg #[iV a0.Kind, iV a0.Shape, iV a0.Flags, iV a0.Age, .slice A7 n7 c7, .slice A10 n10 c10]]) rfl (.cons (rv_boxS 2 rfl rfl agg32) .nil) rfl (cv_sel [0, 1] 6 rfl rfl) ⟨_, _, _, _, _, _, rfl, rfl⟩
theorem cell_Copy_free {r : DCell} : ∀ v post, ((fun (u : Value) (post : List Chunk) => ∃ A0 n0 c0 A1 n1 c1, u = .agg #[iV r.Kind, iV r.Shape, iV r.Flags, iV r.Age, .slice A0 n0 c0, .slice A1 n1 c1] ∧ post = [kO3 A0 n0 c0 r.Slots, kO3 A1 n1 c1 r.More])) v post → ∀ c ∈ post, Free c := by
 rintro _ _ ⟨_, _, _, _, _, _, rfl, rfl⟩; exact mem_cons free_own (mem_cons free_own (mem_nil))
def reach_At_O (N : Nat) (a0 : DMemory) (a1 : Int) : Option DCell :=
 (reach_place_O N a0 a1).bind fun y5 => bif !y5.2.2 then (some (⟨0, 0, 0, 0, [], []⟩ : DCell)) else ((getE y5.1 y5.2.1).bind fun x10 => (cell_Copy_O N x10).bind fun y14 => some y14)
theorem reach_At_ok {N : Nat} {a0 : DMemory} {a1 : Int} {r : DCell} (h : reach_At_O N a0 a1 = some r) {A1 : Option Addr} {n1 c1 : Nat} {A2 : Option Addr} {n2 c2 : Nat} : Okc Tryz.prog 16 [.agg #[.slice A1 n1 c1, .slice A2 n2 c2], iV a1] ([kS1 A1 n1 c1 a0.Young, kS1 A2 n2 c2 a0.Old]) (fun (u : Value) (post : List Chunk) => ∃ A0 n0 c0 A1 n1 c1, u = .agg #[iV r.Kind, iV r.Shape, iV r.Flags, iV r.Age, .slice A0 n0 c0, .slice A1 n1 c1] ∧ post = [kO3 A0 n0 c0 r.Slots, kO3 A1 n1 c1 r.More]) := by
 refine ok_E Tryz.func16 rfl rfl ?_
 simp only [envOf]
 refine run ?_
 refine gD (op_box rfl rfl) ?_
 rintro _ _ ⟨B3, rfl, rfl⟩
 refine gD (op_alloc zero32 rfl) ?_
 rintro _ _ ⟨B4, rfl, rfl⟩
 refine run ?_
 refine gR (rd_boxS (us := [.slice A1 n1 c1, .slice A2 n2 c2]) 1 rfl rfl agg24 rfl) ?_
 refine run ?_
 obtain ⟨y5, hy5, h⟩ := bind_elim h
 refine gD (op_call (reach_place_ok hy5) call49 rfl (cv_take [2, 3] [] [0, 1, 2, 3] 4 rfl)) ?_
 rintro _ _ ⟨_, ⟨A6, n6, c6, rfl, rfl⟩, rfl⟩
 refine run ?_
 refine G_seq ?_
 refine run ?_
 refine G_cond rfl (fun g7 => ?_) (fun g7 => ?_)
 ·replace h := cond_t g7 h
  refine run ?_
  refine gE (ev_build rfl (bld_32_)) ?_
  refine gO (op_store (us := [iV 0, iV 0, iV 0, iV 0, .slice none 0 0, .slice none 0 0]) (cs' := [iV 0, iV 0, iV 0, iV 0, .slice none 0 0, .slice none 0 0]) 1 rfl rfl rfl rfl size32 rfl rfl rfl) ?_
  rintro _ _ rfl
  refine run ?_
  obtain rfl := Option.some.inj h
  exact endGl (rs := [.cell 4 32]) (vs := [.agg #[iV 0, iV 0, iV 0, iV 0, .slice none 0 0, .slice none 0 0]]) rfl (.cons (rv_boxS 1 rfl rfl agg32) .nil) rfl ((cv_nil rDValue 38 _).trans ((cv_nil rDValue 38 _).trans (cv_sel [1, 0] 7 rfl rfl))) ⟨_, _, _, _, _, _, rfl, rfl⟩
 ·replace h := cond_f g7 h
  refine run ?_
  obtain ⟨x10, hx10, h⟩ := bind_elim h
  obtain ⟨lx10, ux10, hx10⟩ := getE_elim hx10
  refine gR (rd_idx 0 rfl els_sl rfl rfl Tryz.underlying22 size32 lx10 ux10) ?_
  refine G_row 0 rfl hx10 (open_DCell x10) ?_
  rintro _ _ ⟨A11, n11, c11, A12, n12, c12, rfl, rfl⟩
  refine gR (rd_rowS (us := [iV x10.Kind, iV x10.Shape, iV x10.Flags, iV x10.Age, .slice A11 n11 c11, .slice A12 n12 c12]) 0 rfl rfl agg32 rfl) ?_
  obtain ⟨y14, hy14, h⟩ := bind_elim h
  refine gD (op_callR (cell_Copy_ok hy14) call50 rfl (mem_cons (lent_ro (i := 1) rfl rfl) (mem_cons (lent_ro (i := 2) rfl rfl) mem_nil)) cell_Copy_free) ?_
  rintro _ _ ⟨_, ⟨A15, n15, c15, A16, n16, c16, rfl, rfl⟩, rfl⟩
  refine gO (op_store (us := [iV y14.Kind, iV y14.Shape, iV y14.Flags, iV y14.Age, .slice A15 n15 c15, .slice A16 n16 c16]) (cs' := [iV y14.Kind, iV y14.Shape, iV y14.Flags, iV y14.Age, .slice A15 n15 c15, .slice A16 n16 c16]) 6 rfl rfl rfl rfl size32 rfl rfl rfl) ?_
  rintro _ _ rfl
  refine G_norm ([kO3 A15 n15 c15 y14.Slots, kO3 A16 n16 c16 y14.More, rowC (elemQ (.slice A6 n6 c6) y5.2.1.toNat 6 0) [iV x10.Kind, iV x10.Shape, iV x10.Flags, iV x10.Age, .slice A11 n11 c11, .slice A12 n12 c12], kS0 A11 n11 c11 x10.Slots, kS0 A12 n12 c12 x10.More, kS1 A6 n6 c6 y5.1, boxC B4 32 [iV y14.Kind, iV y14.Shape, iV y14.Flags, iV y14.Age, .slice A15 n15 c15, .slice A16 n16 c16], boxC B3 24 [.slice A1 n1 c1, .slice A2 n2 c2], kS1 A1 n1 c1 a0.Young, kS1 A2 n2 c2 a0.Old]) rfl ?_
  refine run ?_
  obtain rfl := Option.some.inj h
  exact endGl (rs := [.cell 4 32]) (vs := [.agg #[iV y14.Kind, iV y14.Shape, iV y14.Flags, iV y14.Age, .slice A15 n15 c15, .slice A16 n16 c16]]) rfl (.cons (rv_boxS 6 rfl rfl agg32) .nil) rfl (cv_sel [0, 1] 10 rfl rfl) ⟨_, _, _, _, _, _, rfl, rfl⟩
theorem reach_At_free {r : DCell} : ∀ v post, ((fun (u : Value) (post : List Chunk) => ∃ A0 n0 c0 A1 n1 c1, u = .agg #[iV r.Kind, iV r.Shape, iV r.Flags, iV r.Age, .slice A0 n0 c0, .slice A1 n1 c1] ∧ post = [kO3 A0 n0 c0 r.Slots, kO3 A1 n1 c1 r.More])) v post → ∀ c ∈ post, Free c := by
 rintro _ _ ⟨_, _, _, _, _, _, rfl, rfl⟩; exact mem_cons free_own (mem_cons free_own (mem_nil))
def cell_all_c1_l15 (N : Nat) {σ : Type} (fy : (Bool × DValue) → σ → Option (Bool × σ)) (a1 : DCell) : Nat → Int → σ → Option σ
 | 0, _, _ => none
 | m15 + 1, p16, p17 => bif decide (p16 < (a1.More.length : Int)) then ((getE a1.More p16).bind fun x19 => (bif !decide (a1.Kind = 8) then ((bif !decide (a1.Kind = 10) then (some true) else (some (decide (p16.tmod 2 = 0)))).bind fun b22 => some b22) else (some false)).bind fun b21 => (fy (b21, x19) p17).bind fun y23 => bif !y23.1 then (some y23.2) else (req (in64 (p16 + 1)) ((cell_all_c1_l15 N fy a1 m15) (p16 + 1) y23.2))) else (some p17)
theorem cell_all_c1_l15_s {N m15 : Nat} {σ : Type} {fy : (Bool × DValue) → σ → Option (Bool × σ)} {a1 : DCell} {p16 : Int} {p17 : σ} : cell_all_c1_l15 N fy a1 (m15 + 1) p16 p17 = bif decide (p16 < (a1.More.length : Int)) then ((getE a1.More p16).bind fun x19 => (bif !decide (a1.Kind = 8) then ((bif !decide (a1.Kind = 10) then (some true) else (some (decide (p16.tmod 2 = 0)))).bind fun b22 => some b22) else (some false)).bind fun b21 => (fy (b21, x19) p17).bind fun y23 => bif !y23.1 then (some y23.2) else (req (in64 (p16 + 1)) ((cell_all_c1_l15 N fy a1 m15) (p16 + 1) y23.2))) else (some p17) := rfl
def cell_all_c1_j4 (N : Nat) {σ : Type} (fy : (Bool × DValue) → σ → Option (Bool × σ)) (a1 : DCell) (p5 : σ) : Option σ :=
 cell_all_c1_l15 N fy a1 N 0 p5
def cell_all_c1_l6 (N : Nat) {σ : Type} (fy : (Bool × DValue) → σ → Option (Bool × σ)) (a1 : DCell) : Nat → Int → σ → Option σ
 | 0, _, _ => none
 | m6 + 1, p7, p8 => bif decide (p7 < (a1.Slots.length : Int)) then ((getE a1.Slots p7).bind fun x10 => (fy (true, x10) p8).bind fun y12 => bif !y12.1 then (some y12.2) else (req (in64 (p7 + 1)) ((cell_all_c1_l6 N fy a1 m6) (p7 + 1) y12.2))) else (cell_all_c1_j4 N fy a1 p8)
theorem cell_all_c1_l6_s {N m6 : Nat} {σ : Type} {fy : (Bool × DValue) → σ → Option (Bool × σ)} {a1 : DCell} {p7 : Int} {p8 : σ} : cell_all_c1_l6 N fy a1 (m6 + 1) p7 p8 = bif decide (p7 < (a1.Slots.length : Int)) then ((getE a1.Slots p7).bind fun x10 => (fy (true, x10) p8).bind fun y12 => bif !y12.1 then (some y12.2) else (req (in64 (p7 + 1)) ((cell_all_c1_l6 N fy a1 m6) (p7 + 1) y12.2))) else (cell_all_c1_j4 N fy a1 p8) := rfl
def cell_all_c1_O (N : Nat) {σ : Type} (a1 : DCell) (fy : (Bool × DValue) → σ → Option (Bool × σ)) (s0 : σ) : Option σ :=
 cell_all_c1_l6 N fy a1 N 0 s0
theorem cell_all_c1_ok {N : Nat} {σ : Type} {a1 : DCell} {fy : (Bool × DValue) → σ → Option (Bool × σ)} {s0 : σ} {r : σ} (h : cell_all_c1_O N a1 fy s0 = some r) {B1 : Nat} {A2 : Option Addr} {n2 c2 : Nat} {A3 : Option Addr} {n3 c3 : Nat} {l : Nat} {G : σ → List Chunk} (hY : YieldOk Tryz.prog l G (fun x => [.bool x.1, .agg #[iV x.2.Kind, iV x.2.N, .string x.2.S]]) fy) : Okc Tryz.prog 162 [.func (.yield l) #[] #[], pV B1 0] (rboxC B1 32 [iV a1.Kind, iV a1.Shape, iV a1.Flags, iV a1.Age, .slice A2 n2 c2, .slice A3 n3 c3] :: kS0 A2 n2 c2 a1.Slots :: kS0 A3 n3 c3 a1.More :: (G s0)) (fun (u : Value) (post : List Chunk) => u = .tuple #[] ∧ post = G r) := by
 refine ok_E Tryz.func162 rfl rfl ?_
 simp only [envOf]
 refine G_joinF (fun s L => ∃ (p5 : σ), cell_all_c1_j4 N fy a1 p5 = some r ∧ s = [(0, .func (.yield l) #[] #[]), (1, pV B1 0)] ∧ L = kS0 A2 n2 c2 a1.Slots :: kS0 A3 n3 c3 a1.More :: rboxC B1 32 [iV a1.Kind, iV a1.Shape, iV a1.Flags, iV a1.Age, .slice A2 n2 c2, .slice A3 n3 c3] :: (G p5)) ?_ ?_
 ·refine run ?_
  refine gR (rd_rbox1 0 rfl rfl one25 rfl) ?_
  refine gR (rd_len 1 rfl els_sl rfl Tryz.underlying25) ?_
  refine run ?_
  refine G_loopF (fun m s L => ∃ (p7 : Int) (p8 : σ), cell_all_c1_l6 N fy a1 m p7 p8 = some r ∧ s = [(0, .func (.yield l) #[] #[]), (1, pV B1 0), (9, .slice A2 n2 c2), (10, iV (a1.Slots.length : Int)), (11, iV p7)] ∧ L = kS0 A2 n2 c2 a1.Slots :: kS0 A3 n3 c3 a1.More :: rboxC B1 32 [iV a1.Kind, iV a1.Shape, iV a1.Flags, iV a1.Age, .slice A2 n2 c2, .slice A3 n3 c3] :: (G p8)) N _ _ ⟨0, s0, h, rfl, rfl⟩ sA (cv_sel [1, 2, 0] 3 rfl rfl) ?_
  rintro (_ | m6) _ _ ⟨p7, p8, h, rfl, rfl⟩
  ·exact none_some h
  rw [cell_all_c1_l6_s] at h
  refine run ?_
  refine G_seq ?_
  refine G_cond rfl (fun g9 => ?_) (fun g9 => ?_)
  ·replace h := cond_t g9 h
   refine run ?_
   refine G_seq ?_
   refine run ?_
   obtain ⟨x10, hx10, h⟩ := bind_elim h
   obtain ⟨lx10, ux10, hx10⟩ := getE_elim hx10
   refine gR (rd_idx 0 rfl els_sl rfl rfl Tryz.underlying25 size38 lx10 ux10) ?_
   refine gR (rd_elemS (us := [iV x10.Kind, iV x10.N, .string x10.S]) 0 rfl els_sl rfl hx10 agg38 (fun _ _ _ h => by rw [show _ = _ from h]; rfl)) ?_
   refine gD (op_alloc zero38 rfl) ?_
   rintro _ _ ⟨B11, rfl, rfl⟩
   refine gO (op_store (us := [iV x10.Kind, iV x10.N, .string x10.S]) (cs' := [iV x10.Kind, iV x10.N, .string x10.S]) 0 rfl rfl rfl rfl size38 rfl rfl rfl) ?_
   rintro _ _ rfl
   refine run ?_
   refine gR (rd_boxS (us := [iV x10.Kind, iV x10.N, .string x10.S]) 0 rfl rfl agg38 rfl) ?_
   obtain ⟨y12, hy12, h⟩ := bind_elim h
   refine gD (op_yieldE (a := (true, x10)) [boxC B11 38 [iV x10.Kind, iV x10.N, .string x10.S], kS0 A2 n2 c2 a1.Slots, kS0 A3 n3 c3 a1.More, rboxC B1 32 [iV a1.Kind, iV a1.Shape, iV a1.Flags, iV a1.Age, .slice A2 n2 c2, .slice A3 n3 c3]] hY hy12 rfl rfl) ?_
   rintro _ _ ⟨rfl, rfl⟩
   refine run ?_
   refine G_cond rfl (fun g13 => ?_) (fun g13 => ?_)
   ·replace h := cond_t g13 h
    refine run ?_
    obtain rfl := Option.some.inj h
    exact endG0 rfl (cv_sel [] 4 rfl rfl) ⟨rfl, rfl⟩
   ·replace h := cond_f g13 h
    refine run ?_
    obtain ⟨q14, h⟩ := req_elim h
    refine gE (ev_add rfl rfl q14.1 q14.2) ?_
    refine run ?_
    exact ⟨m6, _, _, Nat.lt_succ_self _, ⟨p7 + 1, y12.2, h, rfl, rfl⟩, sA, cv_sel [1, 2, 3] 4 rfl rfl⟩
  ·replace h := cond_f g9 h
   refine run ?_
   exact ⟨_, _, ⟨p8, h, rfl, rfl⟩, sA, cv_sel [0, 1, 2] 3 rfl rfl⟩
 ·rintro _ _ ⟨p5, h, rfl, rfl⟩
  refine run ?_
  refine gR (rd_rbox1 2 rfl rfl one25 rfl) ?_
  refine gR (rd_len 1 rfl els_sl rfl Tryz.underlying25) ?_
  refine run ?_
  refine G_loopF (fun m s L => ∃ (p16 : Int) (p17 : σ), cell_all_c1_l15 N fy a1 m p16 p17 = some r ∧ s = [(0, .func (.yield l) #[] #[]), (1, pV B1 0), (21, .slice A3 n3 c3), (22, iV (a1.More.length : Int)), (23, iV p16)] ∧ L = kS0 A3 n3 c3 a1.More :: kS0 A2 n2 c2 a1.Slots :: rboxC B1 32 [iV a1.Kind, iV a1.Shape, iV a1.Flags, iV a1.Age, .slice A2 n2 c2, .slice A3 n3 c3] :: (G p17)) N _ _ ⟨0, p5, h, rfl, rfl⟩ sA (cv_sel [1, 0, 2] 3 rfl rfl) ?_
  rintro (_ | m15) _ _ ⟨p16, p17, h, rfl, rfl⟩
  ·exact none_some h
  rw [cell_all_c1_l15_s] at h
  refine run ?_
  refine G_seq ?_
  refine G_cond rfl (fun g18 => ?_) (fun g18 => ?_)
  ·replace h := cond_t g18 h
   refine run ?_
   refine G_seq ?_
   refine run ?_
   obtain ⟨x19, hx19, h⟩ := bind_elim h
   obtain ⟨lx19, ux19, hx19⟩ := getE_elim hx19
   refine gR (rd_idx 0 rfl els_sl rfl rfl Tryz.underlying25 size38 lx19 ux19) ?_
   refine gR (rd_elemS (us := [iV x19.Kind, iV x19.N, .string x19.S]) 0 rfl els_sl rfl hx19 agg38 (fun _ _ _ h => by rw [show _ = _ from h]; rfl)) ?_
   refine gD (op_alloc zero38 rfl) ?_
   rintro _ _ ⟨B20, rfl, rfl⟩
   refine run ?_
   refine gO (op_store (us := [iV x19.Kind, iV x19.N, .string x19.S]) (cs' := [iV x19.Kind, iV x19.N, .string x19.S]) 0 rfl rfl rfl rfl size38 rfl rfl rfl) ?_
   rintro _ _ rfl
   refine G_norm (boxC B20 38 [iV x19.Kind, iV x19.N, .string x19.S] :: kS0 A3 n3 c3 a1.More :: kS0 A2 n2 c2 a1.Slots :: rboxC B1 32 [iV a1.Kind, iV a1.Shape, iV a1.Flags, iV a1.Age, .slice A2 n2 c2, .slice A3 n3 c3] :: (G p17)) rfl ?_
   refine run ?_
   refine gR (rd_rbox1 3 rfl rfl one3 rfl) ?_
   refine run ?_
   obtain ⟨b21, hb21, h⟩ := bind_elim h
   refine G_segb 9 40 b21 ?_ ?_
   ·clear h
    refine G_case 31 rfl (fun g21 => ?_) (fun g21 => ?_)
    ·have h := cond_t g21 hb21
     refine run ?_
     refine G_rd (rd_rbox1 3 rfl rfl one3 rfl) rfl (g_tt g21 rfl) rfl ?_
     refine run ?_
     obtain ⟨b22, hb22, h⟩ := bind_elim h
     refine G_segb 4 39 b22 ?_ ?_
     ·clear h
      refine G_case 35 rfl (fun g22 => ?_) (fun g22 => ?_)
      ·have h := cond_t g22 hb22
       refine run ?_
       obtain rfl := Option.some.inj h
       exact G_joined sA (cv_sel [0, 1, 2, 3] 4 rfl rfl)
      ·have h := cond_f g22 hb22
       refine run ?_
       refine G_ev (ev_rem rfl rfl (by decide)) rfl (g_ff g22 rfl) rfl ?_
       refine run ?_
       obtain rfl := Option.some.inj h
       exact G_joined sA (cv_sel [0, 1, 2, 3] 4 rfl rfl)
     refine run ?_
     obtain rfl := Option.some.inj h
     exact G_joined sA (cv_sel [0, 1, 2, 3] 4 rfl rfl)
    ·have h := cond_f g21 hb21
     refine run ?_
     obtain rfl := Option.some.inj h
     exact G_joined sA (cv_sel [0, 1, 2, 3] 4 rfl rfl)
   refine run ?_
   refine gR (rd_boxS (us := [iV x19.Kind, iV x19.N, .string x19.S]) 0 rfl rfl agg38 rfl) ?_
   obtain ⟨y23, hy23, h⟩ := bind_elim h
   refine gD (op_yieldE (a := (b21, x19)) [boxC B20 38 [iV x19.Kind, iV x19.N, .string x19.S], kS0 A3 n3 c3 a1.More, kS0 A2 n2 c2 a1.Slots, rboxC B1 32 [iV a1.Kind, iV a1.Shape, iV a1.Flags, iV a1.Age, .slice A2 n2 c2, .slice A3 n3 c3]] hY hy23 rfl rfl) ?_
   rintro _ _ ⟨rfl, rfl⟩
   refine run ?_
   refine G_cond rfl (fun g24 => ?_) (fun g24 => ?_)
   ·replace h := cond_t g24 h
    refine run ?_
    obtain rfl := Option.some.inj h
    exact endG0 rfl (cv_sel [] 4 rfl rfl) ⟨rfl, rfl⟩
   ·replace h := cond_f g24 h
    refine run ?_
    obtain ⟨q25, h⟩ := req_elim h
    refine gE (ev_add rfl rfl q25.1 q25.2) ?_
    refine run ?_
    exact ⟨m15, _, _, Nat.lt_succ_self _, ⟨p16 + 1, y23.2, h, rfl, rfl⟩, sA, cv_sel [1, 2, 3] 4 rfl rfl⟩
  ·replace h := cond_f g18 h
   refine run ?_
   obtain rfl := Option.some.inj h
   exact endG0n rfl (cv_sel [] 3 rfl rfl) ⟨rfl, rfl⟩
def cell_all_O (N : Nat) (a0 : DCell) : Option Unit :=
 some ()
theorem cell_all_ok {N : Nat} {a0 : DCell} {r : Unit} (h : cell_all_O N a0 = some r) {A1 : Option Addr} {n1 c1 : Nat} {A2 : Option Addr} {n2 c2 : Nat} : Okc Tryz.prog 109 [.agg #[iV a0.Kind, iV a0.Shape, iV a0.Flags, iV a0.Age, .slice A1 n1 c1, .slice A2 n2 c2]] ([kS0 A1 n1 c1 a0.Slots, kS0 A2 n2 c2 a0.More]) (fun (u : Value) (post : List Chunk) => ∃ B900, u = .func (.func 162) #[] #[pV B900 0] ∧ post = [boxC B900 32 [iV a0.Kind, iV a0.Shape, iV a0.Flags, iV a0.Age, .slice A1 n1 c1, .slice A2 n2 c2]]) := by
 refine ok_E Tryz.func109 rfl rfl ?_
 simp only [envOf]
 refine run ?_
 refine gD (op_box rfl rfl) ?_
 rintro _ _ ⟨B3, rfl, rfl⟩
 refine run ?_
 refine gE (ev_makeFunc rfl) ?_
 refine run ?_
 obtain rfl := Option.some.inj h
 exact endG1 rfl rfl (cv_sel [0] 3 rfl rfl) ⟨_, rfl, rfl⟩
theorem cell_all_free {a0 : DCell} {A1 : Option Addr} {n1 : Nat} {c1 : Nat} {A2 : Option Addr} {n2 : Nat} {c2 : Nat} : ∀ v post, ((fun (u : Value) (post : List Chunk) => ∃ B900, u = .func (.func 162) #[] #[pV B900 0] ∧ post = [boxC B900 32 [iV a0.Kind, iV a0.Shape, iV a0.Flags, iV a0.Age, .slice A1 n1 c1, .slice A2 n2 c2]])) v post → ∀ c ∈ post, Free c := by
 rintro _ _ ⟨_, rfl, rfl⟩; exact mem_cons free_box (mem_nil)
def cell_leads_O (N : Nat) (a0 : DValue) : Option Bool :=
 (bif decide (a0.Kind = 7) then (some true) else (some (decide (a0.Kind = 9)))).bind fun b2 => some b2
theorem cell_leads_ok {N : Nat} {a0 : DValue} {r : Bool} (h : cell_leads_O N a0 = some r) : Okc Tryz.prog 160 [.agg #[iV a0.Kind, iV a0.N, .string a0.S]] ([]) (fun (u : Value) (post : List Chunk) => u = .bool r ∧ post = []) := by
 refine ok_E Tryz.func160 rfl rfl ?_
 simp only [envOf]
 refine run ?_
 refine gD (op_box rfl rfl) ?_
 rintro _ _ ⟨B1, rfl, rfl⟩
 refine run ?_
 obtain ⟨b2, hb2, h⟩ := bind_elim h
 refine G_segb 4 10 b2 ?_ ?_
 ·clear h
  refine G_case 6 rfl (fun g2 => ?_) (fun g2 => ?_)
  ·have h := cond_t g2 hb2
   refine run ?_
   obtain rfl := Option.some.inj h
   exact G_joined sA (cv_sel [0] 1 rfl rfl)
  ·have h := cond_f g2 hb2
   refine run ?_
   obtain rfl := Option.some.inj h
   exact G_joined sA (cv_sel [0] 1 rfl rfl)
 refine run ?_
 obtain rfl := Option.some.inj h
 exact endG1 rfl rfl (cv_sel [] 1 rfl rfl) ⟨rfl, rfl⟩
theorem cell_leads_free {r : Bool} : ∀ v post, ((fun (u : Value) (post : List Chunk) => u = .bool r ∧ post = [])) v post → ∀ c ∈ post, Free c := by
 rintro _ _ ⟨rfl, rfl⟩; exact mem_nil
def cell_addresses_b8 (N : Nat) (a1 : Bool) (x8 : Bool × DValue) : ((List Int)) → Option (Option Exit × (List Int))
 | p9 => (bif x8.1 == a1 then ((cell_leads_O N x8.2).bind fun y14 => some y14) else (some false)).bind fun b13 => bif b13 then (req (fitsL (p9.length + ([x8.2.N] : List Int).length)) (some (none, p9 ++ ([x8.2.N] : List Int)))) else (some (none, p9))
def cell_addresses_O (N : Nat) (a0 : DCell) (a1 : Bool) : Option (List Int) :=
 (cell_all_O N a0).bind fun y6 => (cell_all_c1_O N a0 (liftR (fun x st => cell_addresses_b8 N a1 x st)) (none, [])).bind fun y10 => caseX y10.1 (some y10.2) none (fun _ => none)
theorem cell_addresses_ok {N : Nat} {a0 : DCell} {a1 : Bool} {r : (List Int)} (h : cell_addresses_O N a0 a1 = some r) {A1 : Option Addr} {n1 c1 : Nat} {A2 : Option Addr} {n2 c2 : Nat} : Okc Tryz.prog 114 [.agg #[iV a0.Kind, iV a0.Shape, iV a0.Flags, iV a0.Age, .slice A1 n1 c1, .slice A2 n2 c2], .bool a1] ([kS0 A1 n1 c1 a0.Slots, kS0 A2 n2 c2 a0.More]) (fun (u : Value) (post : List Chunk) => ∃ A0 n0 c0, u = .slice A0 n0 c0 ∧ post = [kO2 A0 n0 c0 r]) := by
 refine ok_E Tryz.func114 rfl rfl ?_
 simp only [envOf]
 refine run ?_
 refine gD (op_box rfl rfl) ?_
 rintro _ _ ⟨B3, rfl, rfl⟩
 refine gD (op_box rfl rfl) ?_
 rintro _ _ ⟨B4, rfl, rfl⟩
 refine run ?_
 refine gD (op_alloc zero35 rfl) ?_
 rintro _ _ ⟨B5, rfl, rfl⟩
 refine run ?_
 refine G_seq ?_
 refine run ?_
 refine gR (rd_boxS (us := [iV a0.Kind, iV a0.Shape, iV a0.Flags, iV a0.Age, .slice A1 n1 c1, .slice A2 n2 c2]) 2 rfl rfl agg32 rfl) ?_
 obtain ⟨y6, hy6, h⟩ := bind_elim h
 refine gD (op_callR (cell_all_ok hy6) call109 rfl (mem_cons (lent_ro (i := 3) rfl rfl) (mem_cons (lent_ro (i := 4) rfl rfl) mem_nil)) cell_all_free) ?_
 rintro _ _ ⟨_, ⟨B7, rfl, rfl⟩, rfl⟩
 refine G_nil ?_
 refine nx_n ?_
 refine G_sub ?_ sub_refl (cv_frzbox 0 rfl)
 obtain ⟨y10, hy10, h⟩ := bind_elim h
 refine G_rangeX (en := (fun x => [.bool x.1, .agg #[iV x.2.Kind, iV x.2.N, .string x.2.S]])) (fun x st => cell_addresses_b8 N a1 x st) (fun (st : (List Int)) (mz : ((Option Addr × Nat × Nat))) => [boxC B4 4 [.bool a1], ownC (rInt .i64) 3 (.slice mz.1 mz.2.1 mz.2.2) st, boxC B5 35 [.slice mz.1 mz.2.1 mz.2.2]]) [rboxC B7 32 [iV a0.Kind, iV a0.Shape, iV a0.Flags, iV a0.Age, .slice A1 n1 c1, .slice A2 n2 c2], kS0 A1 n1 c1 a0.Slots, kS0 A2 n2 c2 a0.More] ([]) ((none, 0, 0)) rfl rfl call162 rfl (fun _ => rfl) (fun l G hY => (cell_all_c1_ok hy10 hY).mono fun _ _ hh => hh.2) ((cv_nil (rInt .i64) 3 _).trans (cv_take [1, 5, 6] [] [3, 0, 2] 7 rfl)) h ?_ ?_ ?_ ?_
 ·rintro l x8 p9 je sr8 ⟨A9, n9, c9⟩ h
  replace h : cell_addresses_b8 N a1 x8 p9 = some (je, sr8) := h
  simp only [envR, List.zip_cons_cons, List.zip_nil_left, List.zip_nil_right, List.reverse_cons, List.reverse_nil, List.nil_append, List.cons_append]
  refine run ?_
  refine gD (op_alloc zero38 rfl) ?_
  rintro _ _ ⟨B12, rfl, rfl⟩
  refine gO (op_store (us := [iV x8.2.Kind, iV x8.2.N, .string x8.2.S]) (cs' := [iV x8.2.Kind, iV x8.2.N, .string x8.2.S]) 0 rfl rfl rfl rfl size38 rfl rfl rfl) ?_
  rintro _ _ rfl
  refine run ?_
  refine gE (ev_beq rfl rfl Tryz.underlying4) ?_
  refine run ?_
  obtain ⟨b13, hb13, h⟩ := bind_elim h
  refine G_segb 3 18 b13 ?_ ?_
  ·clear h
   refine G_case 15 rfl (fun g13 => ?_) (fun g13 => ?_)
   ·have h := cond_t g13 hb13
    refine G_rd (rd_boxS (us := [iV x8.2.Kind, iV x8.2.N, .string x8.2.S]) 0 rfl rfl agg38 rfl) rfl (g_tt g13 rfl) rfl ?_
    obtain ⟨y14, hy14, h⟩ := bind_elim h
    refine G_opd (op_callR (cell_leads_ok hy14) call160 rfl (mem_nil) cell_leads_free) rfl (g_tt g13 rfl) rfl ?_
    rintro _ _ ⟨_, ⟨rfl, rfl⟩, rfl⟩
    refine run ?_
    obtain rfl := Option.some.inj h
    exact G_joined sA (cv_sel [0, 1, 2, 3] 4 rfl rfl)
   ·have h := cond_f g13 hb13
    refine run ?_
    obtain rfl := Option.some.inj h
    exact G_joined sA (cv_sel [0, 1, 2, 3] 4 rfl rfl)
  refine run ?_
  refine G_cond rfl (fun g15 => ?_) (fun g15 => ?_)
  ·replace h := cond_t g15 h
   refine run ?_
   refine gD (op_bslice (R := (rInt .i64)) (vss := [[iV x8.2.N]]) (xs := [x8.2.N]) rfl (bsl_35_1 _) rfl rfl (fun _ _ hr => .cons rfl All2.nil)) ?_
   rintro _ _ ⟨A16, n16, c16, rfl, rfl⟩
   obtain ⟨q17, h⟩ := req_elim h
   refine gD (op_append 3 0 rfl rfl els_own rfl rfl Tryz.underlying35 zb3 rfl rfl q17) ?_
   rintro _ _ ⟨A18, n18, c18, rfl, rfl⟩
   refine G_norm ([kO2 A16 n16 c16 ([x8.2.N] : List Int), boxC B12 38 [iV x8.2.Kind, iV x8.2.N, .string x8.2.S], boxC B4 4 [.bool a1], kO2 A18 n18 c18 (p9 ++ ([x8.2.N] : List Int)), boxC B5 35 [.slice A9 n9 c9]]) rfl ?_
   refine gO (op_store (us := [.slice A18 n18 c18]) (cs' := [.slice A18 n18 c18]) 4 rfl rfl rfl rfl size35 rfl rfl rfl) ?_
   rintro _ _ rfl
   refine run ?_
   obtain ⟨rfl, rfl⟩ := Prod.mk.inj (Option.some.inj h)
   exact RK_n ((cv_sel [2, 3, 4] 5 rfl rfl).trans (cv_pack1 (A18, n18, c18) rfl))
  ·replace h := cond_f g15 h
   refine run ?_
   obtain ⟨rfl, rfl⟩ := Prod.mk.inj (Option.some.inj h)
   exact RK_n ((cv_sel [1, 2, 3] 4 rfl rfl).trans (cv_pack1 (A9, n9, c9) rfl))
 ·rintro ⟨A9, n9, c9⟩ h
  refine K3_norm ([boxC B4 4 [.bool a1], kO2 A9 n9 c9 y10.2, boxC B5 35 [.slice A9 n9 c9]]) rfl ?_
  refine run ?_
  obtain rfl := Option.some.inj h
  exact endG1 rfl rfl (cv_sel [1] 3 rfl rfl) ⟨_, _, _, rfl, rfl⟩
 ·rintro ⟨A9, n9, c9⟩ h
  exact none_some h
 ·rintro i ⟨A9, n9, c9⟩ h
  exact none_some h
theorem cell_addresses_free {r : (List Int)} : ∀ v post, ((fun (u : Value) (post : List Chunk) => ∃ A0 n0 c0, u = .slice A0 n0 c0 ∧ post = [kO2 A0 n0 c0 r])) v post → ∀ c ∈ post, Free c := by
 rintro _ _ ⟨_, _, _, rfl, rfl⟩; exact mem_cons free_own (mem_nil)
def cell_Leads_O (N : Nat) (a0 : DCell) : Option (List Int) :=
 (cell_addresses_O N a0 true).bind fun y4 => some y4
theorem cell_Leads_ok {N : Nat} {a0 : DCell} {r : (List Int)} (h : cell_Leads_O N a0 = some r) {A1 : Option Addr} {n1 c1 : Nat} {A2 : Option Addr} {n2 c2 : Nat} : Okc Tryz.prog 55 [.agg #[iV a0.Kind, iV a0.Shape, iV a0.Flags, iV a0.Age, .slice A1 n1 c1, .slice A2 n2 c2]] ([kS0 A1 n1 c1 a0.Slots, kS0 A2 n2 c2 a0.More]) (fun (u : Value) (post : List Chunk) => ∃ A0 n0 c0, u = .slice A0 n0 c0 ∧ post = [kO2 A0 n0 c0 r]) := by
 refine ok_E Tryz.func55 rfl rfl ?_
 simp only [envOf]
 refine run ?_
 refine gD (op_box rfl rfl) ?_
 rintro _ _ ⟨B3, rfl, rfl⟩
 refine run ?_
 refine gR (rd_boxS (us := [iV a0.Kind, iV a0.Shape, iV a0.Flags, iV a0.Age, .slice A1 n1 c1, .slice A2 n2 c2]) 0 rfl rfl agg32 rfl) ?_
 obtain ⟨y4, hy4, h⟩ := bind_elim h
 refine gD (op_callR (cell_addresses_ok hy4) call114 rfl (mem_cons (lent_ro (i := 1) rfl rfl) (mem_cons (lent_ro (i := 2) rfl rfl) mem_nil)) cell_addresses_free) ?_
 rintro _ _ ⟨_, ⟨A5, n5, c5, rfl, rfl⟩, rfl⟩
 refine run ?_
 obtain rfl := Option.some.inj h
 exact endG1 rfl rfl (cv_sel [0] 4 rfl rfl) ⟨_, _, _, rfl, rfl⟩
theorem cell_Leads_free {r : (List Int)} : ∀ v post, ((fun (u : Value) (post : List Chunk) => ∃ A0 n0 c0, u = .slice A0 n0 c0 ∧ post = [kO2 A0 n0 c0 r])) v post → ∀ c ∈ post, Free c := by
 rintro _ _ ⟨_, _, _, rfl, rfl⟩; exact mem_cons free_own (mem_nil)
def reach_row_through_l6 (N : Nat) : Nat → (List DCell) → (List DCell) → (List Int) → (List (Int × Unit)) → Int → Option DRow
 | 0, _, _, _, _, _ => none
 | m6 + 1, p7, p8, p9, p10, p11 => bif decide (p11 < (p9.length : Int)) then ((getE p9 p11).bind fun x13 => (reach_At_O N (⟨p7, p8⟩ : DMemory) x13).bind fun y14 => (cell_Leads_O N y14).bind fun y17 => (reach_row_lay_O N (⟨(⟨p7, p8⟩ : DMemory), p9, p10, p11⟩ : DRow) y17).bind fun y19 => req (in64 (y19.done_ + 1)) ((reach_row_through_l6 N m6) y19.m_.Young y19.m_.Old y19.all_ y19.met_ (y19.done_ + 1))) else (some (⟨(⟨p7, p8⟩ : DMemory), p9, p10, p11⟩ : DRow))
theorem reach_row_through_l6_s {N m6 : Nat} {p7 : (List DCell)} {p8 : (List DCell)} {p9 : (List Int)} {p10 : (List (Int × Unit))} {p11 : Int} : reach_row_through_l6 N (m6 + 1) p7 p8 p9 p10 p11 = bif decide (p11 < (p9.length : Int)) then ((getE p9 p11).bind fun x13 => (reach_At_O N (⟨p7, p8⟩ : DMemory) x13).bind fun y14 => (cell_Leads_O N y14).bind fun y17 => (reach_row_lay_O N (⟨(⟨p7, p8⟩ : DMemory), p9, p10, p11⟩ : DRow) y17).bind fun y19 => req (in64 (y19.done_ + 1)) ((reach_row_through_l6 N m6) y19.m_.Young y19.m_.Old y19.all_ y19.met_ (y19.done_ + 1))) else (some (⟨(⟨p7, p8⟩ : DMemory), p9, p10, p11⟩ : DRow)) := rfl
def reach_row_through_O (N : Nat) (a0 : DRow) : Option DRow :=
 reach_row_through_l6 N N a0.m_.Young a0.m_.Old a0.all_ a0.met_ a0.done_
theorem reach_row_through_ok {N : Nat} {a0 : DRow} {r : DRow} (h : reach_row_through_O N a0 = some r) {A2 : Option Addr} {n2 c2 : Nat} {A3 : Option Addr} {n3 c3 : Nat} {B1 : Nat} {A4 : Option Addr} {n4 c4 : Nat} {M5 : Nat} : Okc Tryz.prog 68 [pV B1 0] ([kS1 A2 n2 c2 a0.m_.Young, kS1 A3 n3 c3 a0.m_.Old, boxC B1 79 [.slice A2 n2 c2, .slice A3 n3 c3, .slice A4 n4 c4, .map (some M5), iV a0.done_], kO2 A4 n4 c4 a0.all_, mapC ekI evU M5 a0.met_]) (fun (u : Value) (post : List Chunk) => ∃ A0 n0 c0 A1 n1 c1 A2 n2 c2 M3, u = .tuple #[] ∧ post = [boxC B1 79 [.slice A0 n0 c0, .slice A1 n1 c1, .slice A2 n2 c2, .map (some M3), iV r.done_], kS1 A0 n0 c0 r.m_.Young, kS1 A1 n1 c1 r.m_.Old, kO2 A2 n2 c2 r.all_, mapC ekI evU M3 r.met_]) := by
 refine ok_E Tryz.func68 rfl rfl ?_
 simp only [envOf]
 refine G_block ?_
 refine G_loopF (fun m s L => ∃ (p7 : (List DCell)) (p8 : (List DCell)) (p9 : (List Int)) (p10 : (List (Int × Unit))) (p11 : Int) (A7 : Option Addr) (n7 c7 : Nat) (A8 : Option Addr) (n8 c8 : Nat) (A9 : Option Addr) (n9 c9 : Nat) (M10 : Nat), reach_row_through_l6 N m p7 p8 p9 p10 p11 = some r ∧ s = [(0, pV B1 0)] ∧ L = [kS1 A7 n7 c7 p7, kS1 A8 n8 c8 p8, kO2 A9 n9 c9 p9, mapC ekI evU M10 p10, boxC B1 79 [.slice A7 n7 c7, .slice A8 n8 c8, .slice A9 n9 c9, .map (some M10), iV p11]]) N _ _ ⟨a0.m_.Young, a0.m_.Old, a0.all_, a0.met_, a0.done_, A2, n2, c2, A3, n3, c3, A4, n4, c4, M5, h, rfl, rfl⟩ sA (cv_sel [0, 1, 3, 4, 2] 5 rfl rfl) ?_
 rintro (_ | m6) _ _ ⟨p7, p8, p9, p10, p11, A7, n7, c7, A8, n8, c8, A9, n9, c9, M10, h, rfl, rfl⟩
 ·exact none_some h
 rw [reach_row_through_l6_s] at h
 refine G_seq ?_
 refine G_seq ?_
 refine G_drawn (by kernel_rfl) _ (cv_refl _) ?_
 refine T3_ev 0 rfl (by kernel_rfl) (ev_move rfl) rfl rfl ?_
 refine T3_ev 1 rfl (by kernel_rfl) (ev_nilCheck rfl) rfl rfl ?_
 refine T3_ev 2 rfl (by kernel_rfl) (ev_fa rfl fa_79_3) rfl rfl ?_
 refine T3_rd 3 rfl (by kernel_rfl) (rd_box1 4 rfl rfl one3 rfl) rfl rfl ?_
 refine T3_ev 4 rfl (by kernel_rfl) (ev_move rfl) rfl rfl ?_
 refine T3_ev 5 rfl (by kernel_rfl) (ev_nilCheck rfl) rfl rfl ?_
 refine T3_ev 6 rfl (by kernel_rfl) (ev_fa rfl fa_79_1) rfl rfl ?_
 refine T3_rd 7 rfl (by kernel_rfl) (rd_box1 4 rfl rfl one35 rfl) rfl rfl ?_
 refine T3_rd 8 rfl (by kernel_rfl) (rd_len 2 rfl els_own rfl Tryz.underlying35) rfl rfl ?_
 refine T3_ev 9 rfl (by kernel_rfl) (ev_lt rfl rfl) rfl rfl ?_
 refine T3_done (by kernel_rfl) ?_
 refine nx_n ?_
 refine G_cond rfl (fun g12 => ?_) (fun g12 => ?_)
 ·replace h := cond_t g12 h
  refine run ?_
  refine G_seq ?_
  refine G_block ?_
  obtain ⟨x13, hx13, h⟩ := bind_elim h
  obtain ⟨lx13, ux13, hx13⟩ := getE_elim hx13
  refine G_sub (t := [(0, pV B1 0)]) ?_ subT (cv_refl _)
  refine G_monoX (by kernel_rfl) 15 [0] [0, 4, 14] [19, 20, 21, 22, 23, 24, 25, 26, 27, 28, 29, 30, 31, 32, 33] [[], [], [1], [2], [3], [], [5], [6], [7], [], [9], [10], [11], [8, 12], [13]] [aV (pV B1 0),
 aV (pV B1 0),
 aV (pV B1 0),
 aV (pV B1 0),
 aV (.agg #[.slice A7 n7 c7, .slice A8 n8 c8]),
 aV (pV B1 0),
 aV (pV B1 0),
 aV (pV B1 2),
 aV (.slice A9 n9 c9),
 aV (pV B1 0),
 aV (pV B1 0),
 aV (pV B1 4),
 aV (iV p11),
 aV (elemQ (.slice A9 n9 c9) p11.toNat 1 0),
 aV (iV x13)] [] (cv_refl _) (qB_cons rfl qB_nil) (by kernel_rfl) rfl rfl ?_ ?_ ?_
  ·refine qs_cons rfl ?_ ?_
   ·exact QS_ev (ev_move rfl) rfl (cvpV rfl (cv_refl _))
   exact qs_nil
  ·refine steps_cons rfl ?_ ?_
   ·exact X_rd (rd_elem1 (u := iV x13) 2 rfl els_own rfl hx13 one3 (fun _ _ _ h => by rw [show _ = _ from h]; rfl)) rfl (cvpV rfl (cv_refl _))
   refine steps_cons rfl ?_ ?_
   ·exact X_rd (rd_idx 2 rfl els_own rfl rfl Tryz.underlying35 size3 lx13 ux13) rfl (cvpV rfl (cv_refl _))
   refine steps_cons rfl ?_ ?_
   ·exact X_rd (rd_box1 4 rfl rfl one3 rfl) rfl (cvpV rfl (cv_refl _))
   refine steps_cons rfl ?_ ?_
   ·exact X_ev (ev_fa rfl fa_79_3) rfl (cvpV rfl (cv_refl _))
   refine steps_cons rfl ?_ ?_
   ·exact X_ev (ev_nilCheck rfl) rfl (cvpV rfl (cv_refl _))
   refine steps_cons rfl ?_ ?_
   ·exact X_ev (ev_move rfl) rfl (cvpV rfl (cv_refl _))
   refine steps_cons rfl ?_ ?_
   ·exact X_rd (rd_box1 4 rfl rfl one35 rfl) rfl (cvpV rfl (cv_refl _))
   refine steps_cons rfl ?_ ?_
   ·exact X_ev (ev_fa rfl fa_79_1) rfl (cvpV rfl (cv_refl _))
   refine steps_cons rfl ?_ ?_
   ·exact X_ev (ev_nilCheck rfl) rfl (cvpV rfl (cv_refl _))
   refine steps_cons rfl ?_ ?_
   ·exact X_ev (ev_move rfl) rfl (cvpV rfl (cv_refl _))
   refine steps_cons rfl ?_ ?_
   ·exact X_rd (rd_boxS (us := [.slice A7 n7 c7, .slice A8 n8 c8]) 4 rfl rfl agg24 rfl) rfl (cvpV rfl (cv_refl _))
   refine steps_cons rfl ?_ ?_
   ·exact X_ev (ev_fa0 rfl fa_79_0) rfl (cvpV rfl (cv_refl _))
   refine steps_cons rfl ?_ ?_
   ·exact X_ev (ev_nilCheck rfl) rfl (cvpV rfl (cv_refl _))
   refine steps_cons rfl ?_ ?_
   ·exact X_ev (ev_move rfl) rfl (cvpV rfl (cv_refl _))
   refine steps_cons rfl ?_ ?_
   ·exact X_ev (ev_move rfl) rfl (cvpV rfl (cv_refl _))
   exact steps_nil
  ·refine N_sub (t := [(19, pV B1 0), (23, .agg #[.slice A7 n7 c7, .slice A8 n8 c8]), (33, iV x13), (0, pV B1 0)]) (L' := [kS1 A7 n7 c7 p7, kS1 A8 n8 c8 p8, kO2 A9 n9 c9 p9, mapC ekI evU M10 p10, boxC B1 79 [.slice A7 n7 c7, .slice A8 n8 c8, .slice A9 n9 c9, .map (some M10), iV p11]]) ?_ subT (cv_refl _)
   obtain ⟨y14, hy14, h⟩ := bind_elim h
   refine N_opd 15 rfl (by kernel_rfl) (op_callR (reach_At_ok hy14) call16 rfl (mem_cons (lent_ro (i := 0) rfl rfl) (mem_cons (lent_ro (i := 1) rfl rfl) mem_nil)) reach_At_free) rfl rfl rfl ?_
   rintro _ _ ⟨_, ⟨A15, n15, c15, A16, n16, c16, rfl, rfl⟩, rfl⟩
   obtain ⟨y17, hy17, h⟩ := bind_elim h
   refine N_opd 16 rfl (by kernel_rfl) (op_callR (cell_Leads_ok hy17) call55 rfl (mem_cons (lent_own (i := 0) rfl) (mem_cons (lent_own (i := 1) rfl) mem_nil)) cell_Leads_free) rfl rfl rfl ?_
   rintro _ _ ⟨_, ⟨A18, n18, c18, rfl, rfl⟩, rfl⟩
   refine N_sub ?_ sub_refl (cv_frz 0 rfl)
   obtain ⟨y19, hy19, h⟩ := bind_elim h
   refine N_opd 17 rfl (by kernel_rfl) (op_call (reach_row_lay_ok hy19) call118 rfl (cv_take [3, 4, 0] [7, 5, 6] [0, 1, 2, 3, 4] 8 rfl)) rfl rfl rfl ?_
   rintro _ _ ⟨_, ⟨A20, n20, c20, A21, n21, c21, A22, n22, c22, M23, rfl, rfl⟩, rfl⟩
   refine N_done (by kernel_rfl) ?_
   refine run ?_
   obtain ⟨q24, h⟩ := req_elim h
   refine gE (ev_add rfl rfl q24.1 q24.2) ?_
   refine run ?_
   refine gO (op_store (us := [iV (y19.done_ + 1)]) (cs' := [.slice A20 n20 c20, .slice A21 n21 c21, .slice A22 n22 c22, .map (some M23), iV (y19.done_ + 1)]) 0 rfl rfl rfl rfl size3 rfl rfl rfl) ?_
   rintro _ _ rfl
   refine G_norm ([boxC B1 79 [.slice A20 n20 c20, .slice A21 n21 c21, .slice A22 n22 c22, .map (some M23), iV (y19.done_ + 1)], kS1 A20 n20 c20 y19.m_.Young, kS1 A21 n21 c21 y19.m_.Old, kO2 A22 n22 c22 y19.all_, mapC ekI evU M23 y19.met_, kS5 A18 n18 c18 y17, kO3 A15 n15 c15 y14.Slots, kO3 A16 n16 c16 y14.More, kS1 A7 n7 c7 p7, kS1 A8 n8 c8 p8]) rfl ?_
   refine run ?_
   exact ⟨m6, _, _, Nat.lt_succ_self _, ⟨y19.m_.Young, y19.m_.Old, y19.all_, y19.met_, y19.done_ + 1, A20, n20, c20, A21, n21, c21, A22, n22, c22, M23, h, rfl, rfl⟩, sA, cv_sel [1, 2, 3, 4, 0] 10 rfl rfl⟩
 ·replace h := cond_f g12 h
  refine run ?_
  obtain rfl := Option.some.inj h
  exact endG0n rfl (cv_sel [4, 0, 1, 2, 3] 5 rfl rfl) ⟨_, _, _, _, _, _, _, _, _, _, rfl, rfl⟩
def reach_begin_j8 (N : Nat) (p9 : (List DCell)) (p10 : (List DCell)) (p11 : (List Int)) (p12 : (List (Int × Unit))) (p13 : Int) : Option DRow :=
 (reach_row_through_O N (⟨(⟨p9, p10⟩ : DMemory), p11, p12, p13⟩ : DRow)).bind fun y31 => some y31
def reach_begin_l14 (N : Nat) (a1 : (List DValue)) : Nat → Int → (List DCell) → (List DCell) → (List Int) → (List (Int × Unit)) → Int → Option DRow
 | 0, _, _, _, _, _, _ => none
 | m14 + 1, p15, p16, p17, p18, p19, p20 => bif decide (p15 < (a1.length : Int)) then ((getE a1 p15).bind fun x23 => (reach_begin_c1_O N x23 (⟨(⟨p16, p17⟩ : DMemory), p18, p19, p20⟩ : DRow)).bind fun y25 => req (in64 (p15 + 1)) ((reach_begin_l14 N a1 m14) (p15 + 1) y25.m_.Young y25.m_.Old y25.all_ y25.met_ y25.done_)) else (reach_begin_j8 N p16 p17 p18 p19 p20)
theorem reach_begin_l14_s {N m14 : Nat} {a1 : (List DValue)} {p15 : Int} {p16 : (List DCell)} {p17 : (List DCell)} {p18 : (List Int)} {p19 : (List (Int × Unit))} {p20 : Int} : reach_begin_l14 N a1 (m14 + 1) p15 p16 p17 p18 p19 p20 = bif decide (p15 < (a1.length : Int)) then ((getE a1 p15).bind fun x23 => (reach_begin_c1_O N x23 (⟨(⟨p16, p17⟩ : DMemory), p18, p19, p20⟩ : DRow)).bind fun y25 => req (in64 (p15 + 1)) ((reach_begin_l14 N a1 m14) (p15 + 1) y25.m_.Young y25.m_.Old y25.all_ y25.met_ y25.done_)) else (reach_begin_j8 N p16 p17 p18 p19 p20) := rfl
def reach_begin_O (N : Nat) (a0 : DMemory) (a1 : (List DValue)) : Option DRow :=
 reach_begin_l14 N a1 N 0 a0.Young a0.Old [] ([] : (List (Int × Unit))) 0
theorem reach_begin_ok {N : Nat} {a0 : DMemory} {a1 : (List DValue)} {r : DRow} (h : reach_begin_O N a0 a1 = some r) {A1 : Option Addr} {n1 c1 : Nat} {A2 : Option Addr} {n2 c2 : Nat} {A3 : Option Addr} {n3 c3 : Nat} : Okc Tryz.prog 62 [.agg #[.slice A1 n1 c1, .slice A2 n2 c2], .slice A3 n3 c3] ([kS1 A1 n1 c1 a0.Young, kS1 A2 n2 c2 a0.Old, kS0 A3 n3 c3 a1]) (fun (u : Value) (post : List Chunk) => ∃ B0 A1 n1 c1 A2 n2 c2 A3 n3 c3 M4, u = pV B0 0 ∧ post = [boxC B0 79 [.slice A1 n1 c1, .slice A2 n2 c2, .slice A3 n3 c3, .map (some M4), iV r.done_], kS1 A1 n1 c1 r.m_.Young, kS1 A2 n2 c2 r.m_.Old, kO2 A3 n3 c3 r.all_, mapC ekI evU M4 r.met_]) := by
 refine ok_E Tryz.func62 rfl rfl ?_
 simp only [envOf]
 refine run ?_
 refine gD (op_box rfl rfl) ?_
 rintro _ _ ⟨B4, rfl, rfl⟩
 refine run ?_
 refine gR (rd_boxS (us := [.slice A1 n1 c1, .slice A2 n2 c2]) 0 rfl rfl agg24 rfl) ?_
 refine gD (op_makeMap (ek := ekI) (ev := evU)) ?_
 rintro _ _ ⟨M5, rfl, rfl⟩
 refine gE (ev_build rfl (bld_79_0_2 _ _ _ _ _ _ _)) ?_
 refine gD (op_box rfl rfl) ?_
 rintro _ _ ⟨B6, rfl, rfl⟩
 refine gD (op_alloc zero80 rfl) ?_
 rintro _ _ ⟨B7, rfl, rfl⟩
 refine gO (op_store (us := [pV B6 0]) (cs' := [pV B6 0]) 0 rfl rfl rfl rfl size80 rfl rfl rfl) ?_
 rintro _ _ rfl
 refine run ?_
 refine gE (ev_makeFunc rfl) ?_
 refine run ?_
 refine G_joinF (fun s L => ∃ (p9 : (List DCell)) (p10 : (List DCell)) (p11 : (List Int)) (p12 : (List (Int × Unit))) (p13 : Int) (A9 : Option Addr) (n9 c9 : Nat) (A10 : Option Addr) (n10 c10 : Nat) (A11 : Option Addr) (n11 c11 : Nat) (M12 : Nat), reach_begin_j8 N p9 p10 p11 p12 p13 = some r ∧ s = [(4, .pointer none), (5, pV B7 0)] ∧ L = [boxC B7 80 [pV B6 0], kS1 A9 n9 c9 p9, kS1 A10 n10 c10 p10, kO2 A11 n11 c11 p11, mapC ekI evU M12 p12, boxC B6 79 [.slice A9 n9 c9, .slice A10 n10 c10, .slice A11 n11 c11, .map (some M12), iV p13]]) ?_ ?_
 ·refine run ?_
  refine gR (rd_len 6 rfl els_sl rfl Tryz.underlying25) ?_
  refine run ?_
  refine G_loopF (fun m s L => ∃ (p15 : Int) (p16 : (List DCell)) (p17 : (List DCell)) (p18 : (List Int)) (p19 : (List (Int × Unit))) (p20 : Int) (A16 : Option Addr) (n16 c16 : Nat) (A17 : Option Addr) (n17 c17 : Nat) (A18 : Option Addr) (n18 c18 : Nat) (M19 : Nat), reach_begin_l14 N a1 m p15 p16 p17 p18 p19 p20 = some r ∧ s = [(4, .pointer none), (5, pV B7 0), (6, .func (.func 117) #[] #[pV B7 0]), (14, .slice A3 n3 c3), (15, iV (a1.length : Int)), (16, iV p15)] ∧ L = [kS0 A3 n3 c3 a1, boxC B7 80 [pV B6 0], kS1 A16 n16 c16 p16, kS1 A17 n17 c17 p17, kO2 A18 n18 c18 p18, mapC ekI evU M19 p19, boxC B6 79 [.slice A16 n16 c16, .slice A17 n17 c17, .slice A18 n18 c18, .map (some M19), iV p20]]) N _ _ ⟨0, a0.Young, a0.Old, [], ([] : (List (Int × Unit))), 0, A1, n1, c1, A2, n2, c2, none, 0, 0, M5, h, rfl, rfl⟩ sA ((cv_nil (rInt .i64) 3 _).trans (cv_sel [7, 1, 5, 6, 0, 3, 2] 8 rfl rfl)) ?_
  rintro (_ | m14) _ _ ⟨p15, p16, p17, p18, p19, p20, A16, n16, c16, A17, n17, c17, A18, n18, c18, M19, h, rfl, rfl⟩
  ·exact none_some h
  rw [reach_begin_l14_s] at h
  refine run ?_
  refine G_seq ?_
  refine G_cond rfl (fun g22 => ?_) (fun g22 => ?_)
  ·replace h := cond_t g22 h
   refine run ?_
   refine G_seq ?_
   refine run ?_
   obtain ⟨x23, hx23, h⟩ := bind_elim h
   obtain ⟨lx23, ux23, hx23⟩ := getE_elim hx23
   refine gR (rd_idx 0 rfl els_sl rfl rfl Tryz.underlying25 size38 lx23 ux23) ?_
   refine gR (rd_elemS (us := [iV x23.Kind, iV x23.N, .string x23.S]) 0 rfl els_sl rfl hx23 agg38 (fun _ _ _ h => by rw [show _ = _ from h]; rfl)) ?_
   refine gD (op_alloc zero38 rfl) ?_
   rintro _ _ ⟨B24, rfl, rfl⟩
   refine gO (op_store (us := [iV x23.Kind, iV x23.N, .string x23.S]) (cs' := [iV x23.Kind, iV x23.N, .string x23.S]) 0 rfl rfl rfl rfl size38 rfl rfl rfl) ?_
   rintro _ _ rfl
   refine run ?_
   refine gR (rd_boxS (us := [iV x23.Kind, iV x23.N, .string x23.S]) 0 rfl rfl agg38 rfl) ?_
   obtain ⟨y25, hy25, h⟩ := bind_elim h
   refine gD (op_callc (reach_begin_c1_ok hy25) call117 rfl rfl rfl (cv_take [3, 4] [2, 7, 5, 6] [0, 1, 3, 4] 8 rfl)) ?_
   rintro _ _ ⟨_, ⟨A26, n26, c26, A27, n27, c27, A28, n28, c28, M29, rfl, rfl⟩, rfl⟩
   refine G_norm ([boxC B6 79 [.slice A26 n26 c26, .slice A27 n27 c27, .slice A28 n28 c28, .map (some M29), iV y25.done_], kS1 A26 n26 c26 y25.m_.Young, kS1 A27 n27 c27 y25.m_.Old, kO2 A28 n28 c28 y25.all_, mapC ekI evU M29 y25.met_, boxC B7 80 [pV B6 0], boxC B24 38 [iV x23.Kind, iV x23.N, .string x23.S], kS0 A3 n3 c3 a1, kS1 A16 n16 c16 p16, kS1 A17 n17 c17 p17]) rfl ?_
   refine run ?_
   obtain ⟨q30, h⟩ := req_elim h
   refine gE (ev_add rfl rfl q30.1 q30.2) ?_
   refine run ?_
   exact ⟨m14, _, _, Nat.lt_succ_self _, ⟨p15 + 1, y25.m_.Young, y25.m_.Old, y25.all_, y25.met_, y25.done_, A26, n26, c26, A27, n27, c27, A28, n28, c28, M29, h, rfl, rfl⟩, sA, cv_sel [7, 5, 1, 2, 3, 4, 0] 10 rfl rfl⟩
  ·replace h := cond_f g22 h
   refine run ?_
   exact ⟨_, _, ⟨p16, p17, p18, p19, p20, A16, n16, c16, A17, n17, c17, A18, n18, c18, M19, h, rfl, rfl⟩, sA, cv_sel [1, 2, 3, 4, 5, 6] 7 rfl rfl⟩
 ·rintro _ _ ⟨p9, p10, p11, p12, p13, A9, n9, c9, A10, n10, c10, A11, n11, c11, M12, h, rfl, rfl⟩
  refine run ?_
  obtain ⟨y31, hy31, h⟩ := bind_elim h
  refine gD (op_call (reach_row_through_ok hy31) call68 rfl (cv_take [1, 2] [5, 3, 4] [0, 1, 2] 6 rfl)) ?_
  rintro _ _ ⟨_, ⟨A32, n32, c32, A33, n33, c33, A34, n34, c34, M35, rfl, rfl⟩, rfl⟩
  refine run ?_
  obtain rfl := Option.some.inj h
  exact endG1 rfl rfl (cv_sel [0, 1, 2, 3, 4] 8 rfl rfl) ⟨_, _, _, _, _, _, _, _, _, _, _, rfl, rfl⟩
def cell_may_j9 (N : Nat) (a0 : DValue) (p10 : Bool) : Option Bool :=
 bif p10 then (some (decide (1 ≤ a0.N))) else ((bif decide (a0.N = 0) then (some (decide (0 ≤ a0.Kind))) else (some false)).bind fun b14 => (bif b14 then (some (decide (a0.Kind ≤ 9))) else (some false)).bind fun b15 => some b15)
def cell_may_O (N : Nat) (a0 : DValue) : Option Bool :=
 bif decide (a0.Kind = 5) then ((bif decide (a0.N = 0) then (some (decide ((a0.S.size : Int) ≤ 65536))) else (some false)).bind fun b3 => some b3) else (bif !(a0.S.toList == (⟨#[]⟩ : ByteArray).toList) then (some false) else (bif decide (a0.Kind = 2) then ((bif decide (a0.N = 0) then (some true) else (some (decide (a0.N = 1)))).bind fun b6 => some b6) else (bif decide (a0.Kind = 3) then ((bif decide ((-9007199254740992) ≤ a0.N) then (some (decide (a0.N ≤ 9007199254740992))) else (some false)).bind fun b8 => some b8) else (bif decide (a0.Kind = 6) then (cell_may_j9 N a0 (decide (a0.Kind = 6))) else (bif decide (a0.Kind = 7) then (cell_may_j9 N a0 (decide (a0.Kind = 7))) else (cell_may_j9 N a0 (decide (a0.Kind = 9))))))))
theorem cell_may_ok {N : Nat} {a0 : DValue} {r : Bool} (h : cell_may_O N a0 = some r) : Okc Tryz.prog 110 [.agg #[iV a0.Kind, iV a0.N, .string a0.S]] ([]) (fun (u : Value) (post : List Chunk) => u = .bool r ∧ post = []) := by
 refine ok_E Tryz.func110 rfl rfl ?_
 simp only [envOf]
 refine run ?_
 refine gD (op_box rfl rfl) ?_
 rintro _ _ ⟨B1, rfl, rfl⟩
 refine run ?_
 refine G_seq ?_
 refine run ?_
 refine G_cond rfl (fun g2 => ?_) (fun g2 => ?_)
 ·replace h := cond_t g2 h
  refine run ?_
  obtain ⟨b3, hb3, h⟩ := bind_elim h
  refine G_segb 5 14 b3 ?_ ?_
  ·clear h
   refine G_case 9 rfl (fun g3 => ?_) (fun g3 => ?_)
   ·have h := cond_t g3 hb3
    refine run ?_
    refine G_ev (ev_lenS rfl Tryz.underlying9) rfl (g_tt g3 rfl) rfl ?_
    refine run ?_
    obtain rfl := Option.some.inj h
    exact G_joined sA (cv_sel [0] 1 rfl rfl)
   ·have h := cond_f g3 hb3
    refine run ?_
    obtain rfl := Option.some.inj h
    exact G_joined sA (cv_sel [0] 1 rfl rfl)
  refine run ?_
  obtain rfl := Option.some.inj h
  exact endG1 rfl rfl (cv_sel [] 1 rfl rfl) ⟨rfl, rfl⟩
 ·replace h := cond_f g2 h
  refine run ?_
  refine G_seq ?_
  refine run ?_
  refine gE (ev_strne rfl rfl) ?_
  refine run ?_
  refine G_cond rfl (fun g4 => ?_) (fun g4 => ?_)
  ·replace h := cond_t g4 h
   refine run ?_
   obtain rfl := Option.some.inj h
   exact endG1 rfl rfl (cv_sel [] 1 rfl rfl) ⟨rfl, rfl⟩
  ·replace h := cond_f g4 h
   refine run ?_
   refine G_seq ?_
   refine run ?_
   refine G_cond rfl (fun g5 => ?_) (fun g5 => ?_)
   ·replace h := cond_t g5 h
    refine run ?_
    obtain ⟨b6, hb6, h⟩ := bind_elim h
    refine G_segb 4 29 b6 ?_ ?_
    ·clear h
     refine G_case 25 rfl (fun g6 => ?_) (fun g6 => ?_)
     ·have h := cond_t g6 hb6
      refine run ?_
      obtain rfl := Option.some.inj h
      exact G_joined sA (cv_sel [0] 1 rfl rfl)
     ·have h := cond_f g6 hb6
      refine run ?_
      obtain rfl := Option.some.inj h
      exact G_joined sA (cv_sel [0] 1 rfl rfl)
    refine run ?_
    obtain rfl := Option.some.inj h
    exact endG1 rfl rfl (cv_sel [] 1 rfl rfl) ⟨rfl, rfl⟩
   ·replace h := cond_f g5 h
    refine run ?_
    refine G_cond rfl (fun g7 => ?_) (fun g7 => ?_)
    ·replace h := cond_t g7 h
     refine run ?_
     obtain ⟨b8, hb8, h⟩ := bind_elim h
     refine G_segb 4 39 b8 ?_ ?_
     ·clear h
      refine G_case 35 rfl (fun g8 => ?_) (fun g8 => ?_)
      ·have h := cond_t g8 hb8
       refine run ?_
       obtain rfl := Option.some.inj h
       exact G_joined sA (cv_sel [0] 1 rfl rfl)
      ·have h := cond_f g8 hb8
       refine run ?_
       obtain rfl := Option.some.inj h
       exact G_joined sA (cv_sel [0] 1 rfl rfl)
     refine run ?_
     obtain rfl := Option.some.inj h
     exact endG1 rfl rfl (cv_sel [] 1 rfl rfl) ⟨rfl, rfl⟩
    ·replace h := cond_f g7 h
     refine G_joinF (fun s L => ∃ (p10 : Bool), cell_may_j9 N a0 p10 = some r ∧ s = [(1, pV B1 0), (2, .bool false), (40, .bool p10)] ∧ L = [boxC B1 38 [iV a0.Kind, iV a0.N, .string a0.S]]) ?_ ?_
     ·refine run ?_
      refine G_cond rfl (fun g11 => ?_) (fun g11 => ?_)
      ·replace h := cond_t g11 h
       refine run ?_
       exact ⟨_, _, ⟨decide (a0.Kind = 6), h, rfl, rfl⟩, sA, cv_sel [0] 1 rfl rfl⟩
      ·replace h := cond_f g11 h
       refine run ?_
       refine G_cond rfl (fun g12 => ?_) (fun g12 => ?_)
       ·replace h := cond_t g12 h
        refine run ?_
        exact ⟨_, _, ⟨decide (a0.Kind = 7), h, rfl, rfl⟩, sA, cv_sel [0] 1 rfl rfl⟩
       ·replace h := cond_f g12 h
        refine run ?_
        exact ⟨_, _, ⟨decide (a0.Kind = 9), h, rfl, rfl⟩, sA, cv_sel [0] 1 rfl rfl⟩
     ·rintro _ _ ⟨p10, h, rfl, rfl⟩
      refine G_cond rfl (fun g13 => ?_) (fun g13 => ?_)
      ·replace h := cond_t g13 h
       refine run ?_
       obtain rfl := Option.some.inj h
       exact endG1 rfl rfl (cv_sel [] 1 rfl rfl) ⟨rfl, rfl⟩
      ·replace h := cond_f g13 h
       refine run ?_
       obtain ⟨b14, hb14, h⟩ := bind_elim h
       refine G_segb 4 54 b14 ?_ ?_
       ·clear h
        refine G_case 50 rfl (fun g14 => ?_) (fun g14 => ?_)
        ·have h := cond_t g14 hb14
         refine run ?_
         obtain rfl := Option.some.inj h
         exact G_joined sA (cv_sel [0] 1 rfl rfl)
        ·have h := cond_f g14 hb14
         refine run ?_
         obtain rfl := Option.some.inj h
         exact G_joined sA (cv_sel [0] 1 rfl rfl)
       refine run ?_
       obtain ⟨b15, hb15, h⟩ := bind_elim h
       refine G_segb 4 59 b15 ?_ ?_
       ·clear h
        refine G_case 55 rfl (fun g15 => ?_) (fun g15 => ?_)
        ·have h := cond_t g15 hb15
         refine run ?_
         obtain rfl := Option.some.inj h
         exact G_joined sA (cv_sel [0] 1 rfl rfl)
        ·have h := cond_f g15 hb15
         refine run ?_
         obtain rfl := Option.some.inj h
         exact G_joined sA (cv_sel [0] 1 rfl rfl)
       refine run ?_
       obtain rfl := Option.some.inj h
       exact endG1 rfl rfl (cv_sel [] 1 rfl rfl) ⟨rfl, rfl⟩
theorem cell_may_free {r : Bool} : ∀ v post, ((fun (u : Value) (post : List Chunk) => u = .bool r ∧ post = [])) v post → ∀ c ∈ post, Free c := by
 rintro _ _ ⟨rfl, rfl⟩; exact mem_nil
def cell_has_j1 (N : Nat) (p2 : Bool) : Option Bool :=
 bif p2 then (some true) else (some false)
def cell_has_O (N : Nat) (a0 : Int) : Option Bool :=
 bif decide (a0 = 1) then (cell_has_j1 N (decide (a0 = 1))) else (bif decide (a0 = 2) then (cell_has_j1 N (decide (a0 = 2))) else (bif decide (a0 = 3) then (cell_has_j1 N (decide (a0 = 3))) else (bif decide (a0 = 6) then (cell_has_j1 N (decide (a0 = 6))) else (bif decide (a0 = 8) then (cell_has_j1 N (decide (a0 = 8))) else (bif decide (a0 = 9) then (cell_has_j1 N (decide (a0 = 9))) else (cell_has_j1 N (decide (a0 = 10))))))))
theorem cell_has_ok {N : Nat} {a0 : Int} {r : Bool} (h : cell_has_O N a0 = some r) : Okc Tryz.prog 163 [iV a0] ([]) (fun (u : Value) (post : List Chunk) => u = .bool r ∧ post = []) := by
 refine ok_E Tryz.func163 rfl rfl ?_
 simp only [envOf]
 refine run ?_
 refine G_seq ?_
 refine run ?_
 refine G_joinF (fun s L => ∃ (p2 : Bool), cell_has_j1 N p2 = some r ∧ s = [(2, .bool false), (4, .bool p2)] ∧ L = []) ?_ ?_
 ·refine run ?_
  refine G_cond rfl (fun g3 => ?_) (fun g3 => ?_)
  ·replace h := cond_t g3 h
   refine run ?_
   exact ⟨_, _, ⟨decide (a0 = 1), h, rfl, rfl⟩, sA, cv_sel [] 0 rfl rfl⟩
  ·replace h := cond_f g3 h
   refine run ?_
   refine G_cond rfl (fun g4 => ?_) (fun g4 => ?_)
   ·replace h := cond_t g4 h
    refine run ?_
    exact ⟨_, _, ⟨decide (a0 = 2), h, rfl, rfl⟩, sA, cv_sel [] 0 rfl rfl⟩
   ·replace h := cond_f g4 h
    refine run ?_
    refine G_cond rfl (fun g5 => ?_) (fun g5 => ?_)
    ·replace h := cond_t g5 h
     refine run ?_
     exact ⟨_, _, ⟨decide (a0 = 3), h, rfl, rfl⟩, sA, cv_sel [] 0 rfl rfl⟩
    ·replace h := cond_f g5 h
     refine run ?_
     refine G_cond rfl (fun g6 => ?_) (fun g6 => ?_)
     ·replace h := cond_t g6 h
      refine run ?_
      exact ⟨_, _, ⟨decide (a0 = 6), h, rfl, rfl⟩, sA, cv_sel [] 0 rfl rfl⟩
     ·replace h := cond_f g6 h
      refine run ?_
      refine G_cond rfl (fun g7 => ?_) (fun g7 => ?_)
      ·replace h := cond_t g7 h
       refine run ?_
       exact ⟨_, _, ⟨decide (a0 = 8), h, rfl, rfl⟩, sA, cv_sel [] 0 rfl rfl⟩
      ·replace h := cond_f g7 h
       refine run ?_
       refine G_cond rfl (fun g8 => ?_) (fun g8 => ?_)
       ·replace h := cond_t g8 h
        refine run ?_
        exact ⟨_, _, ⟨decide (a0 = 9), h, rfl, rfl⟩, sA, cv_sel [] 0 rfl rfl⟩
       ·replace h := cond_f g8 h
        refine run ?_
        exact ⟨_, _, ⟨decide (a0 = 10), h, rfl, rfl⟩, sA, cv_sel [] 0 rfl rfl⟩
 ·rintro _ _ ⟨p2, h, rfl, rfl⟩
  refine G_cond rfl (fun g9 => ?_) (fun g9 => ?_)
  ·replace h := cond_t g9 h
   refine run ?_
   obtain rfl := Option.some.inj h
   exact endG1 rfl rfl (cv_sel [] 0 rfl rfl) ⟨rfl, rfl⟩
  ·replace h := cond_f g9 h
   refine run ?_
   obtain rfl := Option.some.inj h
   exact endG1 rfl rfl (cv_sel [] 0 rfl rfl) ⟨rfl, rfl⟩
theorem cell_has_free {r : Bool} : ∀ v post, ((fun (u : Value) (post : List Chunk) => u = .bool r ∧ post = [])) v post → ∀ c ∈ post, Free c := by
 rintro _ _ ⟨rfl, rfl⟩; exact mem_nil
def cell_orNone_O (N : Nat) (a0 : DValue) (a1 : Int) : Option Bool :=
 (bif decide (a0.Kind = 0) then (some true) else (some (decide (a0.Kind = a1)))).bind fun b2 => some b2
theorem cell_orNone_ok {N : Nat} {a0 : DValue} {a1 : Int} {r : Bool} (h : cell_orNone_O N a0 a1 = some r) : Okc Tryz.prog 164 [.agg #[iV a0.Kind, iV a0.N, .string a0.S], iV a1] ([]) (fun (u : Value) (post : List Chunk) => u = .bool r ∧ post = []) := by
 refine ok_E Tryz.func164 rfl rfl ?_
 simp only [envOf]
 refine run ?_
 refine gD (op_box rfl rfl) ?_
 rintro _ _ ⟨B1, rfl, rfl⟩
 refine run ?_
 obtain ⟨b2, hb2, h⟩ := bind_elim h
 refine G_segb 5 13 b2 ?_ ?_
 ·clear h
  refine G_case 8 rfl (fun g2 => ?_) (fun g2 => ?_)
  ·have h := cond_t g2 hb2
   refine run ?_
   obtain rfl := Option.some.inj h
   exact G_joined sA (cv_sel [0] 1 rfl rfl)
  ·have h := cond_f g2 hb2
   refine run ?_
   obtain rfl := Option.some.inj h
   exact G_joined sA (cv_sel [0] 1 rfl rfl)
 refine run ?_
 obtain rfl := Option.some.inj h
 exact endG1 rfl rfl (cv_sel [] 1 rfl rfl) ⟨rfl, rfl⟩
theorem cell_orNone_free {r : Bool} : ∀ v post, ((fun (u : Value) (post : List Chunk) => u = .bool r ∧ post = [])) v post → ∀ c ∈ post, Free c := by
 rintro _ _ ⟨rfl, rfl⟩; exact mem_nil
end Go.Proofs.YtmbaennilhdieaaGreat
/- Readings of arguments (printed by top3.py). -/
namespace Go.Proofs.YtmbaennilhdieaaGreat
open Go.RowKit Go.ChangeShapes Go.WideShapes Go.Deep
def wfwDValue (x : DValue) : Prop := (in64 x.Kind) ∧ (in64 x.N) ∧ (True)
set_option maxRecDepth 100000 in
theorem rdrw_DValue : Rdrw Tryz.prog 38 rDValue wfwDValue := fun {_ enc w base spare held _ cs y} h hw => by
 obtain ⟨xs, m, -, hy, hl, hx, hf⟩ := DataW.trod_struct Tryz.underlying38 h
 have hc : Tryz.prog.cellsOf 38 = 3 := by kernel_rfl
 rw [hc] at hl
 match cs, hl, hf with
 | [c0, c1, c2], _, hf =>
  have k0 : DataW.trod enc Tryz.prog w base spare held m 3 (List.take (Tryz.prog.cellsOf 3) (List.drop 0 [c0, c1, c2])) = xs[0]? := hf 0 _ rfl
  have z0 : Tryz.prog.cellsOf 3 = 1 := by kernel_rfl
  simp only [z0, List.drop_succ_cons, List.drop_zero, List.take_succ_cons, List.take_zero] at k0
  have l0 : 0 < xs.length := by rw [hx]; decide
  obtain ⟨a0, r0, w0⟩ := (Rdr.w (rdr_int Tryz.underlying3)) (k0.trans (List.getElem?_eq_getElem l0)) (wt_struct Tryz.underlying38 hy hw (i := 0) rfl (List.getElem?_eq_getElem l0))
  have k1 : DataW.trod enc Tryz.prog w base spare held m 3 (List.take (Tryz.prog.cellsOf 3) (List.drop 1 [c0, c1, c2])) = xs[1]? := hf 1 _ rfl
  have z1 : Tryz.prog.cellsOf 3 = 1 := by kernel_rfl
  simp only [z1, List.drop_succ_cons, List.drop_zero, List.take_succ_cons, List.take_zero] at k1
  have l1 : 1 < xs.length := by rw [hx]; decide
  obtain ⟨a1, r1, w1⟩ := (Rdr.w (rdr_int Tryz.underlying3)) (k1.trans (List.getElem?_eq_getElem l1)) (wt_struct Tryz.underlying38 hy hw (i := 1) rfl (List.getElem?_eq_getElem l1))
  have k2 : DataW.trod enc Tryz.prog w base spare held m 9 (List.take (Tryz.prog.cellsOf 9) (List.drop 2 [c0, c1, c2])) = xs[2]? := hf 2 _ rfl
  have z2 : Tryz.prog.cellsOf 9 = 1 := by kernel_rfl
  simp only [z2, List.drop_succ_cons, List.drop_zero, List.take_succ_cons, List.take_zero] at k2
  have l2 : 2 < xs.length := by rw [hx]; decide
  obtain ⟨a2, r2, w2⟩ := (Rdr.w (rdr_str Tryz.underlying9)) (k2.trans (List.getElem?_eq_getElem l2)) (wt_struct Tryz.underlying38 hy hw (i := 2) rfl (List.getElem?_eq_getElem l2))
  obtain ⟨rfl, -⟩ := List.cons.inj (show [c0] = [_] from r0)
  obtain ⟨rfl, -⟩ := List.cons.inj (show [c1] = [_] from r1)
  obtain ⟨rfl, -⟩ := List.cons.inj (show [c2] = [_] from r2)
  exact ⟨⟨a0, a1, a2⟩, rfl, ⟨w0, w1, w2⟩⟩
def wfwDCell (x : DCell) : Prop := (in64 x.Kind) ∧ (in64 x.Shape) ∧ (in64 x.Flags) ∧ (in64 x.Age) ∧ (WfL (fun z25 => wfwDValue z25) x.Slots) ∧ (WfL (fun z25 => wfwDValue z25) x.More)
set_option maxRecDepth 100000 in
theorem rdrw_DCell : Rdrw Tryz.prog 32 rDCell wfwDCell := fun {_ enc w base spare held _ cs y} h hw => by
 obtain ⟨xs, m, -, hy, hl, hx, hf⟩ := DataW.trod_struct Tryz.underlying32 h
 have hc : Tryz.prog.cellsOf 32 = 6 := by kernel_rfl
 rw [hc] at hl
 match cs, hl, hf with
 | [c0, c1, c2, c3, c4, c5], _, hf =>
  have k0 : DataW.trod enc Tryz.prog w base spare held m 3 (List.take (Tryz.prog.cellsOf 3) (List.drop 0 [c0, c1, c2, c3, c4, c5])) = xs[0]? := hf 0 _ rfl
  have z0 : Tryz.prog.cellsOf 3 = 1 := by kernel_rfl
  simp only [z0, List.drop_succ_cons, List.drop_zero, List.take_succ_cons, List.take_zero] at k0
  have l0 : 0 < xs.length := by rw [hx]; decide
  obtain ⟨a0, r0, w0⟩ := (Rdr.w (rdr_int Tryz.underlying3)) (k0.trans (List.getElem?_eq_getElem l0)) (wt_struct Tryz.underlying32 hy hw (i := 0) rfl (List.getElem?_eq_getElem l0))
  have k1 : DataW.trod enc Tryz.prog w base spare held m 3 (List.take (Tryz.prog.cellsOf 3) (List.drop 1 [c0, c1, c2, c3, c4, c5])) = xs[1]? := hf 1 _ rfl
  have z1 : Tryz.prog.cellsOf 3 = 1 := by kernel_rfl
  simp only [z1, List.drop_succ_cons, List.drop_zero, List.take_succ_cons, List.take_zero] at k1
  have l1 : 1 < xs.length := by rw [hx]; decide
  obtain ⟨a1, r1, w1⟩ := (Rdr.w (rdr_int Tryz.underlying3)) (k1.trans (List.getElem?_eq_getElem l1)) (wt_struct Tryz.underlying32 hy hw (i := 1) rfl (List.getElem?_eq_getElem l1))
  have k2 : DataW.trod enc Tryz.prog w base spare held m 3 (List.take (Tryz.prog.cellsOf 3) (List.drop 2 [c0, c1, c2, c3, c4, c5])) = xs[2]? := hf 2 _ rfl
  have z2 : Tryz.prog.cellsOf 3 = 1 := by kernel_rfl
  simp only [z2, List.drop_succ_cons, List.drop_zero, List.take_succ_cons, List.take_zero] at k2
  have l2 : 2 < xs.length := by rw [hx]; decide
  obtain ⟨a2, r2, w2⟩ := (Rdr.w (rdr_int Tryz.underlying3)) (k2.trans (List.getElem?_eq_getElem l2)) (wt_struct Tryz.underlying32 hy hw (i := 2) rfl (List.getElem?_eq_getElem l2))
  have k3 : DataW.trod enc Tryz.prog w base spare held m 3 (List.take (Tryz.prog.cellsOf 3) (List.drop 3 [c0, c1, c2, c3, c4, c5])) = xs[3]? := hf 3 _ rfl
  have z3 : Tryz.prog.cellsOf 3 = 1 := by kernel_rfl
  simp only [z3, List.drop_succ_cons, List.drop_zero, List.take_succ_cons, List.take_zero] at k3
  have l3 : 3 < xs.length := by rw [hx]; decide
  obtain ⟨a3, r3, w3⟩ := (Rdr.w (rdr_int Tryz.underlying3)) (k3.trans (List.getElem?_eq_getElem l3)) (wt_struct Tryz.underlying32 hy hw (i := 3) rfl (List.getElem?_eq_getElem l3))
  have k4 : DataW.trod enc Tryz.prog w base spare held m 25 (List.take (Tryz.prog.cellsOf 25) (List.drop 4 [c0, c1, c2, c3, c4, c5])) = xs[4]? := hf 4 _ rfl
  have z4 : Tryz.prog.cellsOf 25 = 1 := by kernel_rfl
  simp only [z4, List.drop_succ_cons, List.drop_zero, List.take_succ_cons, List.take_zero] at k4
  have l4 : 4 < xs.length := by rw [hx]; decide
  obtain ⟨a4, r4, w4⟩ := (rdrw_sl Tryz.underlying25 (by kernel_rfl) (by decide) (of_decide_eq_true (by kernel_rfl)) rdrw_DValue) (k4.trans (List.getElem?_eq_getElem l4)) (wt_struct Tryz.underlying32 hy hw (i := 4) rfl (List.getElem?_eq_getElem l4))
  have k5 : DataW.trod enc Tryz.prog w base spare held m 25 (List.take (Tryz.prog.cellsOf 25) (List.drop 5 [c0, c1, c2, c3, c4, c5])) = xs[5]? := hf 5 _ rfl
  have z5 : Tryz.prog.cellsOf 25 = 1 := by kernel_rfl
  simp only [z5, List.drop_succ_cons, List.drop_zero, List.take_succ_cons, List.take_zero] at k5
  have l5 : 5 < xs.length := by rw [hx]; decide
  obtain ⟨a5, r5, w5⟩ := (rdrw_sl Tryz.underlying25 (by kernel_rfl) (by decide) (of_decide_eq_true (by kernel_rfl)) rdrw_DValue) (k5.trans (List.getElem?_eq_getElem l5)) (wt_struct Tryz.underlying32 hy hw (i := 5) rfl (List.getElem?_eq_getElem l5))
  obtain ⟨rfl, -⟩ := List.cons.inj (show [c0] = [_] from r0)
  obtain ⟨rfl, -⟩ := List.cons.inj (show [c1] = [_] from r1)
  obtain ⟨rfl, -⟩ := List.cons.inj (show [c2] = [_] from r2)
  obtain ⟨rfl, -⟩ := List.cons.inj (show [c3] = [_] from r3)
  obtain ⟨v4, e4, b4⟩ := r4
  obtain ⟨rfl, -⟩ := List.cons.inj e4
  obtain ⟨A4, q4, rfl, d4⟩ := b4
  have b4 : SlR rDValue _ _ (.slice A4 a4.length q4) a4 := ⟨_, _, rfl, d4⟩
  obtain ⟨v5, e5, b5⟩ := r5
  obtain ⟨rfl, -⟩ := List.cons.inj e5
  obtain ⟨A5, q5, rfl, d5⟩ := b5
  have b5 : SlR rDValue _ _ (.slice A5 a5.length q5) a5 := ⟨_, _, rfl, d5⟩
  exact ⟨⟨a0, a1, a2, a3, a4, a5⟩, ⟨_, _, _, _, _, _, rfl, b4, b5⟩, ⟨w0, w1, w2, w3, w4, w5⟩⟩
def wfwDMemory (x : DMemory) : Prop := (WfL (fun z22 => wfwDCell z22) x.Young) ∧ (WfL (fun z22 => wfwDCell z22) x.Old)
set_option maxRecDepth 100000 in
theorem rdrw_DMemory : Rdrw Tryz.prog 24 rDMemory wfwDMemory := fun {_ enc w base spare held _ cs y} h hw => by
 obtain ⟨xs, m, -, hy, hl, hx, hf⟩ := DataW.trod_struct Tryz.underlying24 h
 have hc : Tryz.prog.cellsOf 24 = 2 := by kernel_rfl
 rw [hc] at hl
 match cs, hl, hf with
 | [c0, c1], _, hf =>
  have k0 : DataW.trod enc Tryz.prog w base spare held m 22 (List.take (Tryz.prog.cellsOf 22) (List.drop 0 [c0, c1])) = xs[0]? := hf 0 _ rfl
  have z0 : Tryz.prog.cellsOf 22 = 1 := by kernel_rfl
  simp only [z0, List.drop_succ_cons, List.drop_zero, List.take_succ_cons, List.take_zero] at k0
  have l0 : 0 < xs.length := by rw [hx]; decide
  obtain ⟨a0, r0, w0⟩ := (rdrw_sl Tryz.underlying22 (by kernel_rfl) (by decide) (of_decide_eq_true (by kernel_rfl)) rdrw_DCell) (k0.trans (List.getElem?_eq_getElem l0)) (wt_struct Tryz.underlying24 hy hw (i := 0) rfl (List.getElem?_eq_getElem l0))
  have k1 : DataW.trod enc Tryz.prog w base spare held m 22 (List.take (Tryz.prog.cellsOf 22) (List.drop 1 [c0, c1])) = xs[1]? := hf 1 _ rfl
  have z1 : Tryz.prog.cellsOf 22 = 1 := by kernel_rfl
  simp only [z1, List.drop_succ_cons, List.drop_zero, List.take_succ_cons, List.take_zero] at k1
  have l1 : 1 < xs.length := by rw [hx]; decide
  obtain ⟨a1, r1, w1⟩ := (rdrw_sl Tryz.underlying22 (by kernel_rfl) (by decide) (of_decide_eq_true (by kernel_rfl)) rdrw_DCell) (k1.trans (List.getElem?_eq_getElem l1)) (wt_struct Tryz.underlying24 hy hw (i := 1) rfl (List.getElem?_eq_getElem l1))
  obtain ⟨v0, e0, b0⟩ := r0
  obtain ⟨rfl, -⟩ := List.cons.inj e0
  obtain ⟨A0, q0, rfl, d0⟩ := b0
  have b0 : SlR rDCell _ _ (.slice A0 a0.length q0) a0 := ⟨_, _, rfl, d0⟩
  obtain ⟨v1, e1, b1⟩ := r1
  obtain ⟨rfl, -⟩ := List.cons.inj e1
  obtain ⟨A1, q1, rfl, d1⟩ := b1
  have b1 : SlR rDCell _ _ (.slice A1 a1.length q1) a1 := ⟨_, _, rfl, d1⟩
  exact ⟨⟨a0, a1⟩, ⟨_, _, _, _, _, _, rfl, b0, b1⟩, ⟨w0, w1⟩⟩
def wfwDS41 (x : DS41) : Prop := (WfL (fun z25 => wfwDValue z25) x.e0) ∧ (WfL (fun z25 => wfwDValue z25) x.e1)
set_option maxRecDepth 100000 in
theorem arg_24 {H : Type} {enc : TypeId × Value → H} {W : World} {r : Reach} {b0 : Nat} {base : Nat} {spare : Nat → Bool} {held : Bool} {v : Value} {d : DataW H} {p : List MemPlace}
  (hv : Value.okWide Tryz.prog W r b0 24 v) (h : DataW.Trod enc Tryz.prog W base spare held 24 v d p) (hz : Light Tryz.prog 24 d) : ∃ (m : DMemory) (Aq_0 : Option Addr) (nq_0 cq_0 : Nat) (Aq_1 : Option Addr) (nq_1 cq_1 : Nat), v = .agg #[.slice Aq_0 nq_0 cq_0, .slice Aq_1 nq_1 cq_1] ∧ (wfwDMemory m) ∧ (slC rDCell (.slice Aq_0 nq_0 cq_0) m.Young).ok (fun _ => False) (fun q => q < W.heap.size) W ∧ (slC rDCell (.slice Aq_1 nq_1 cq_1) m.Old).ok (fun _ => False) (fun q => q < W.heap.size) W := by
 obtain ⟨cs, rfl, -⟩ := okWide_struct Tryz.underlying24 hv
 obtain ⟨fuel, hf⟩ := h
 obtain ⟨m, ⟨Aq_0, nq_0, cq_0, Aq_1, nq_1, cq_1, e, hq_0, hq_1⟩, hw⟩ := rdrw_DMemory hf hz
 obtain ⟨l⟩ := cs
 have hx : l = [.slice Aq_0 nq_0 cq_0, .slice Aq_1 nq_1 cq_1] := e
 exact ⟨m, Aq_0, nq_0, cq_0, Aq_1, nq_1, cq_1, by rw [hx], hw, hq_0, hq_1⟩
set_option maxRecDepth 100000 in
theorem arg_25 {H : Type} {enc : TypeId × Value → H} {W : World} {r : Reach} {b0 : Nat} {base : Nat} {spare : Nat → Bool} {held : Bool} {v : Value} {d : DataW H} {p : List MemPlace}
  (hv : Value.okWide Tryz.prog W r b0 25 v) (h : DataW.Trod enc Tryz.prog W base spare held 25 v d p) (hz : Light Tryz.prog 25 d) : ∃ (m : (List DValue)) (Aq_0 : Option Addr) (nq_0 cq_0 : Nat), v = .slice Aq_0 nq_0 cq_0 ∧ (WfL (fun z25 => wfwDValue z25) m) ∧ (slC rDValue (.slice Aq_0 nq_0 cq_0) m).ok (fun _ => False) (fun q => q < W.heap.size) W := by
 obtain ⟨A, n, c, rfl⟩ := okWide_slice Tryz.underlying25 hv
 obtain ⟨fuel, hf⟩ := h
 obtain ⟨m, ⟨u, e, h1⟩, hw⟩ := (rdrw_sl Tryz.underlying25 (by kernel_rfl) (by decide) (of_decide_eq_true (by kernel_rfl)) rdrw_DValue) hf hz
 obtain ⟨rfl, -⟩ := List.cons.inj (show [_] = [_] from e)
 exact ⟨m, A, n, c, rfl, hw, h1⟩
end Go.Proofs.YtmbaennilhdieaaGreat
/- Pure functions and contracts of Go functions (printed by all3.py). -/
namespace Go.Proofs.YtmbaennilhdieaaGreat
open Go.RowKit Asn
set_option maxRecDepth 20000
def cell_slotsRight_O (N : Nat) (a0 : DCell) : Option Bool :=
 (cell_has_O N a0.Kind).bind fun y4 => (bif y4 then (some true) else ((bif decide (a0.Kind = 7) then (some (decide (0 < (a0.Slots.length : Int)))) else (some false)).bind fun b6 => some b6)).bind fun b5 => bif b5 then ((bif decide (1 ≤ (a0.Slots.length : Int)) then (some (decide ((a0.Slots.length : Int) ≤ 1025))) else (some false)).bind fun b8 => (bif b8 then ((getE a0.Slots 0).bind fun x10 => (bif decide (x10.Kind = 1) then (some true) else ((getE a0.Slots 0).bind fun x12 => some (decide (x12.Kind = 7)))).bind fun b11 => some b11) else (some false)).bind fun b9 => some b9) else (bif decide (a0.Kind = 7) then (some (decide (a0.Shape = 0))) else ((bif !decide (a0.Shape = 0) then (some true) else (some (!decide (a0.Flags = 0)))).bind fun b14 => bif b14 then (some false) else (bif decide (a0.Kind = 5) then ((bif decide ((a0.Slots.length : Int) = 2) then ((getE a0.Slots 0).bind fun x18 => (cell_orNone_O N x18 7).bind fun y19 => some y19) else (some false)).bind fun b17 => (bif b17 then ((getE a0.Slots 1).bind fun x21 => (cell_orNone_O N x21 7).bind fun y22 => some y22) else (some false)).bind fun b20 => some b20) else (some (decide ((a0.Slots.length : Int) = 0))))))
theorem cell_slotsRight_ok {N : Nat} {a0 : DCell} {r : Bool} (h : cell_slotsRight_O N a0 = some r) {A1 : Option Addr} {n1 c1 : Nat} {A2 : Option Addr} {n2 c2 : Nat} : Okc Tryz.prog 111 [.agg #[iV a0.Kind, iV a0.Shape, iV a0.Flags, iV a0.Age, .slice A1 n1 c1, .slice A2 n2 c2]] ([kS0 A1 n1 c1 a0.Slots, kS0 A2 n2 c2 a0.More]) (fun (u : Value) (post : List Chunk) => u = .bool r ∧ post = []) := by
 refine ok_E Tryz.func111 rfl rfl ?_
 simp only [envOf]
 refine run ?_
 refine gD (op_box rfl rfl) ?_
 rintro _ _ ⟨B3, rfl, rfl⟩
 refine run ?_
 refine G_seq ?_
 refine run ?_
 obtain ⟨y4, hy4, h⟩ := bind_elim h
 refine gD (op_callR (cell_has_ok hy4) call163 rfl (mem_nil) cell_has_free) ?_
 rintro _ _ ⟨_, ⟨rfl, rfl⟩, rfl⟩
 refine run ?_
 obtain ⟨b5, hb5, h⟩ := bind_elim h
 refine G_segb 10 16 b5 ?_ ?_
 ·clear h
  refine G_case 6 rfl (fun g5 => ?_) (fun g5 => ?_)
  ·have h := cond_t g5 hb5
   refine run ?_
   obtain rfl := Option.some.inj h
   exact G_joined sA (cv_sel [0, 1, 2] 3 rfl rfl)
  ·have h := cond_f g5 hb5
   refine run ?_
   obtain ⟨b6, hb6, h⟩ := bind_elim h
   refine G_segb 5 15 b6 ?_ ?_
   ·clear h
    refine G_case 10 rfl (fun g6 => ?_) (fun g6 => ?_)
    ·have h := cond_t g6 hb6
     refine run ?_
     refine G_rd (rd_len 1 rfl els_sl rfl Tryz.underlying25) rfl (g_tt g6 rfl) rfl ?_
     refine run ?_
     obtain rfl := Option.some.inj h
     exact G_joined sA (cv_sel [0, 1, 2] 3 rfl rfl)
    ·have h := cond_f g6 hb6
     refine run ?_
     obtain rfl := Option.some.inj h
     exact G_joined sA (cv_sel [0, 1, 2] 3 rfl rfl)
   refine run ?_
   obtain rfl := Option.some.inj h
   exact G_joined sA (cv_sel [0, 1, 2] 3 rfl rfl)
 refine run ?_
 refine G_cond rfl (fun g7 => ?_) (fun g7 => ?_)
 ·replace h := cond_t g7 h
  refine run ?_
  refine gR (rd_len 1 rfl els_sl rfl Tryz.underlying25) ?_
  refine run ?_
  obtain ⟨b8, hb8, h⟩ := bind_elim h
  refine G_segb 5 26 b8 ?_ ?_
  ·clear h
   refine G_case 21 rfl (fun g8 => ?_) (fun g8 => ?_)
   ·have h := cond_t g8 hb8
    refine run ?_
    refine G_rd (rd_len 1 rfl els_sl rfl Tryz.underlying25) rfl (g_tt g8 rfl) rfl ?_
    refine run ?_
    obtain rfl := Option.some.inj h
    exact G_joined sA (cv_sel [0, 1, 2] 3 rfl rfl)
   ·have h := cond_f g8 hb8
    refine run ?_
    obtain rfl := Option.some.inj h
    exact G_joined sA (cv_sel [0, 1, 2] 3 rfl rfl)
  refine run ?_
  obtain ⟨b9, hb9, h⟩ := bind_elim h
  refine G_segb 15 42 b9 ?_ ?_
  ·clear h
   refine G_case 27 rfl (fun g9 => ?_) (fun g9 => ?_)
   ·have h := cond_t g9 hb9
    refine run ?_
    obtain ⟨x10, hx10, h⟩ := bind_elim h
    obtain ⟨lx10, ux10, hx10⟩ := getE_elim hx10
    refine G_rd (rd_idx 1 rfl els_sl rfl rfl Tryz.underlying25 size38 lx10 ux10) rfl (g_tt g9 rfl) rfl ?_
    refine G_rd (rd_fa0 1 rfl els_sl rfl (toNat_lt lx10 ux10) fa_38_0) rfl (g_tt g9 rfl) rfl ?_
    refine G_rd (rd_elem1 (u := iV x10.Kind) 1 rfl els_sl rfl hx10 one3 (fun _ _ _ h => by rw [show _ = _ from h]; rfl)) rfl (g_tt g9 rfl) rfl ?_
    refine run ?_
    obtain ⟨b11, hb11, h⟩ := bind_elim h
    refine G_segb 7 41 b11 ?_ ?_
    ·clear h
     refine G_case 34 rfl (fun g11 => ?_) (fun g11 => ?_)
     ·have h := cond_t g11 hb11
      refine run ?_
      obtain rfl := Option.some.inj h
      exact G_joined sA (cv_sel [0, 1, 2] 3 rfl rfl)
     ·have h := cond_f g11 hb11
      refine run ?_
      obtain ⟨x12, hx12, h⟩ := bind_elim h
      obtain ⟨lx12, ux12, hx12⟩ := getE_elim hx12
      refine G_rd (rd_idx 1 rfl els_sl rfl rfl Tryz.underlying25 size38 lx12 ux12) rfl (g_ff g11 rfl) rfl ?_
      refine G_rd (rd_fa0 1 rfl els_sl rfl (toNat_lt lx12 ux12) fa_38_0) rfl (g_ff g11 rfl) rfl ?_
      refine G_rd (rd_elem1 (u := iV x12.Kind) 1 rfl els_sl rfl hx12 one3 (fun _ _ _ h => by rw [show _ = _ from h]; rfl)) rfl (g_ff g11 rfl) rfl ?_
      refine run ?_
      obtain rfl := Option.some.inj h
      exact G_joined sA (cv_sel [0, 1, 2] 3 rfl rfl)
    refine run ?_
    obtain rfl := Option.some.inj h
    exact G_joined sA (cv_sel [0, 1, 2] 3 rfl rfl)
   ·have h := cond_f g9 hb9
    refine run ?_
    obtain rfl := Option.some.inj h
    exact G_joined sA (cv_sel [0, 1, 2] 3 rfl rfl)
  refine run ?_
  obtain rfl := Option.some.inj h
  exact endG1 rfl rfl (cv_sel [] 3 rfl rfl) ⟨rfl, rfl⟩
 ·replace h := cond_f g7 h
  refine run ?_
  refine G_seq ?_
  refine run ?_
  refine G_cond rfl (fun g13 => ?_) (fun g13 => ?_)
  ·replace h := cond_t g13 h
   refine run ?_
   obtain rfl := Option.some.inj h
   exact endG1 rfl rfl (cv_sel [] 3 rfl rfl) ⟨rfl, rfl⟩
  ·replace h := cond_f g13 h
   refine run ?_
   refine G_seq ?_
   refine run ?_
   obtain ⟨b14, hb14, h⟩ := bind_elim h
   refine G_segb 4 56 b14 ?_ ?_
   ·clear h
    refine G_case 52 rfl (fun g14 => ?_) (fun g14 => ?_)
    ·have h := cond_t g14 hb14
     refine run ?_
     obtain rfl := Option.some.inj h
     exact G_joined sA (cv_sel [0, 1, 2] 3 rfl rfl)
    ·have h := cond_f g14 hb14
     refine run ?_
     obtain rfl := Option.some.inj h
     exact G_joined sA (cv_sel [0, 1, 2] 3 rfl rfl)
   refine run ?_
   refine G_cond rfl (fun g15 => ?_) (fun g15 => ?_)
   ·replace h := cond_t g15 h
    refine run ?_
    obtain rfl := Option.some.inj h
    exact endG1 rfl rfl (cv_sel [] 3 rfl rfl) ⟨rfl, rfl⟩
   ·replace h := cond_f g15 h
    refine run ?_
    refine G_seq ?_
    refine run ?_
    refine G_cond rfl (fun g16 => ?_) (fun g16 => ?_)
    ·replace h := cond_t g16 h
     refine run ?_
     refine gR (rd_len 1 rfl els_sl rfl Tryz.underlying25) ?_
     refine run ?_
     obtain ⟨b17, hb17, h⟩ := bind_elim h
     refine G_segb 6 70 b17 ?_ ?_
     ·clear h
      refine G_case 64 rfl (fun g17 => ?_) (fun g17 => ?_)
      ·have h := cond_t g17 hb17
       refine run ?_
       obtain ⟨x18, hx18, h⟩ := bind_elim h
       obtain ⟨lx18, ux18, hx18⟩ := getE_elim hx18
       refine G_rd (rd_idx 1 rfl els_sl rfl rfl Tryz.underlying25 size38 lx18 ux18) rfl (g_tt g17 rfl) rfl ?_
       refine G_rd (rd_elemS (us := [iV x18.Kind, iV x18.N, .string x18.S]) 1 rfl els_sl rfl hx18 agg38 (fun _ _ _ h => by rw [show _ = _ from h]; rfl)) rfl (g_tt g17 rfl) rfl ?_
       obtain ⟨y19, hy19, h⟩ := bind_elim h
       refine G_opd (op_callR (cell_orNone_ok hy19) call164 rfl (mem_nil) cell_orNone_free) rfl (g_tt g17 rfl) rfl ?_
       rintro _ _ ⟨_, ⟨rfl, rfl⟩, rfl⟩
       refine run ?_
       obtain rfl := Option.some.inj h
       exact G_joined sA (cv_sel [0, 1, 2] 3 rfl rfl)
      ·have h := cond_f g17 hb17
       refine run ?_
       obtain rfl := Option.some.inj h
       exact G_joined sA (cv_sel [0, 1, 2] 3 rfl rfl)
     refine run ?_
     obtain ⟨b20, hb20, h⟩ := bind_elim h
     refine G_segb 6 77 b20 ?_ ?_
     ·clear h
      refine G_case 71 rfl (fun g20 => ?_) (fun g20 => ?_)
      ·have h := cond_t g20 hb20
       refine run ?_
       obtain ⟨x21, hx21, h⟩ := bind_elim h
       obtain ⟨lx21, ux21, hx21⟩ := getE_elim hx21
       refine G_rd (rd_idx 1 rfl els_sl rfl rfl Tryz.underlying25 size38 lx21 ux21) rfl (g_tt g20 rfl) rfl ?_
       refine G_rd (rd_elemS (us := [iV x21.Kind, iV x21.N, .string x21.S]) 1 rfl els_sl rfl hx21 agg38 (fun _ _ _ h => by rw [show _ = _ from h]; rfl)) rfl (g_tt g20 rfl) rfl ?_
       obtain ⟨y22, hy22, h⟩ := bind_elim h
       refine G_opd (op_callR (cell_orNone_ok hy22) call164 rfl (mem_nil) cell_orNone_free) rfl (g_tt g20 rfl) rfl ?_
       rintro _ _ ⟨_, ⟨rfl, rfl⟩, rfl⟩
       refine run ?_
       obtain rfl := Option.some.inj h
       exact G_joined sA (cv_sel [0, 1, 2] 3 rfl rfl)
      ·have h := cond_f g20 hb20
       refine run ?_
       obtain rfl := Option.some.inj h
       exact G_joined sA (cv_sel [0, 1, 2] 3 rfl rfl)
     refine run ?_
     obtain rfl := Option.some.inj h
     exact endG1 rfl rfl (cv_sel [] 3 rfl rfl) ⟨rfl, rfl⟩
    ·replace h := cond_f g16 h
     refine run ?_
     refine gR (rd_len 1 rfl els_sl rfl Tryz.underlying25) ?_
     refine run ?_
     obtain rfl := Option.some.inj h
     exact endG1 rfl rfl (cv_sel [] 3 rfl rfl) ⟨rfl, rfl⟩
theorem cell_slotsRight_free {r : Bool} : ∀ v post, ((fun (u : Value) (post : List Chunk) => u = .bool r ∧ post = [])) v post → ∀ c ∈ post, Free c := by
 rintro _ _ ⟨rfl, rfl⟩; exact mem_nil
def cell_number_O (N : Nat) (a0 : DValue) (a1 : Int) (a2 : Int) : Option Bool :=
 (bif decide (a0.Kind = 3) then (some (decide (a1 ≤ a0.N))) else (some false)).bind fun b2 => (bif b2 then (some (decide (a0.N ≤ a2))) else (some false)).bind fun b3 => some b3
theorem cell_number_ok {N : Nat} {a0 : DValue} {a1 : Int} {a2 : Int} {r : Bool} (h : cell_number_O N a0 a1 a2 = some r) : Okc Tryz.prog 165 [.agg #[iV a0.Kind, iV a0.N, .string a0.S], iV a1, iV a2] ([]) (fun (u : Value) (post : List Chunk) => u = .bool r ∧ post = []) := by
 refine ok_E Tryz.func165 rfl rfl ?_
 simp only [envOf]
 refine run ?_
 refine gD (op_box rfl rfl) ?_
 rintro _ _ ⟨B1, rfl, rfl⟩
 refine run ?_
 obtain ⟨b2, hb2, h⟩ := bind_elim h
 refine G_segb 5 15 b2 ?_ ?_
 ·clear h
  refine G_case 10 rfl (fun g2 => ?_) (fun g2 => ?_)
  ·have h := cond_t g2 hb2
   refine run ?_
   obtain rfl := Option.some.inj h
   exact G_joined sA (cv_sel [0] 1 rfl rfl)
  ·have h := cond_f g2 hb2
   refine run ?_
   obtain rfl := Option.some.inj h
   exact G_joined sA (cv_sel [0] 1 rfl rfl)
 refine run ?_
 obtain ⟨b3, hb3, h⟩ := bind_elim h
 refine G_segb 5 21 b3 ?_ ?_
 ·clear h
  refine G_case 16 rfl (fun g3 => ?_) (fun g3 => ?_)
  ·have h := cond_t g3 hb3
   refine run ?_
   obtain rfl := Option.some.inj h
   exact G_joined sA (cv_sel [0] 1 rfl rfl)
  ·have h := cond_f g3 hb3
   refine run ?_
   obtain rfl := Option.some.inj h
   exact G_joined sA (cv_sel [0] 1 rfl rfl)
 refine run ?_
 obtain rfl := Option.some.inj h
 exact endG1 rfl rfl (cv_sel [] 1 rfl rfl) ⟨rfl, rfl⟩
theorem cell_number_free {r : Bool} : ∀ v post, ((fun (u : Value) (post : List Chunk) => u = .bool r ∧ post = [])) v post → ∀ c ∈ post, Free c := by
 rintro _ _ ⟨rfl, rfl⟩; exact mem_nil
def slices_Chunk_l4 (N : Nat) {σ : Type} (fy : (List DValue) → σ → Option (Bool × σ)) (a1 : (List DValue)) (a2 : Int) : Nat → Int → σ → Option σ
 | 0, _, _ => none
 | m4 + 1, p5, p6 => bif decide (p5 < (a1.length : Int)) then (req ((0 : Int) ≤ p5 ∧ p5.toNat ≤ a1.length ∧ a1.length ≤ a1.length) (req (in64 (p5 + (min a2 (((a1.drop p5.toNat).take (a1.length - p5.toNat)).length : Int)))) (req (in64 (p5 + (min a2 (((a1.drop p5.toNat).take (a1.length - p5.toNat)).length : Int)))) (req ((0 : Int) ≤ p5 ∧ (0 : Int) ≤ p5 + (min a2 (((a1.drop p5.toNat).take (a1.length - p5.toNat)).length : Int)) ∧ p5.toNat ≤ (p5 + (min a2 (((a1.drop p5.toNat).take (a1.length - p5.toNat)).length : Int))).toNat ∧ (p5 + (min a2 (((a1.drop p5.toNat).take (a1.length - p5.toNat)).length : Int))).toNat ≤ a1.length) ((fy ((a1.drop p5.toNat).take ((p5 + (min a2 (((a1.drop p5.toNat).take (a1.length - p5.toNat)).length : Int))).toNat - p5.toNat)) p6).bind fun y14 => bif !y14.1 then (some y14.2) else (req (in64 (p5 + a2)) ((slices_Chunk_l4 N fy a1 a2 m4) (p5 + a2) y14.2))))))) else (some p6)
theorem slices_Chunk_l4_s {N m4 : Nat} {σ : Type} {fy : (List DValue) → σ → Option (Bool × σ)} {a1 : (List DValue)} {a2 : Int} {p5 : Int} {p6 : σ} : slices_Chunk_l4 N fy a1 a2 (m4 + 1) p5 p6 = bif decide (p5 < (a1.length : Int)) then (req ((0 : Int) ≤ p5 ∧ p5.toNat ≤ a1.length ∧ a1.length ≤ a1.length) (req (in64 (p5 + (min a2 (((a1.drop p5.toNat).take (a1.length - p5.toNat)).length : Int)))) (req (in64 (p5 + (min a2 (((a1.drop p5.toNat).take (a1.length - p5.toNat)).length : Int)))) (req ((0 : Int) ≤ p5 ∧ (0 : Int) ≤ p5 + (min a2 (((a1.drop p5.toNat).take (a1.length - p5.toNat)).length : Int)) ∧ p5.toNat ≤ (p5 + (min a2 (((a1.drop p5.toNat).take (a1.length - p5.toNat)).length : Int))).toNat ∧ (p5 + (min a2 (((a1.drop p5.toNat).take (a1.length - p5.toNat)).length : Int))).toNat ≤ a1.length) ((fy ((a1.drop p5.toNat).take ((p5 + (min a2 (((a1.drop p5.toNat).take (a1.length - p5.toNat)).length : Int))).toNat - p5.toNat)) p6).bind fun y14 => bif !y14.1 then (some y14.2) else (req (in64 (p5 + a2)) ((slices_Chunk_l4 N fy a1 a2 m4) (p5 + a2) y14.2))))))) else (some p6) := rfl
def slices_Chunk_O (N : Nat) {σ : Type} (a1 : (List DValue)) (a2 : Int) (fy : (List DValue) → σ → Option (Bool × σ)) (s0 : σ) : Option σ :=
 slices_Chunk_l4 N fy a1 a2 N 0 s0
theorem slices_Chunk_ok {N : Nat} {σ : Type} {a1 : (List DValue)} {a2 : Int} {fy : (List DValue) → σ → Option (Bool × σ)} {s0 : σ} {r : σ} (h : slices_Chunk_O N a1 a2 fy s0 = some r) {B1 : Nat} {A2 : Option Addr} {n2 c2 : Nat} {B3 : Nat} {l : Nat} {G : σ → List Chunk} (hY : YieldOkR Tryz.prog l G (fun (x : (List DValue)) vs cs => ∃ A0 n0 c0, vs = [.slice A0 n0 c0] ∧ cs = [kS0 A0 n0 c0 x]) fy) : Okc Tryz.prog 201 [.func (.yield l) #[] #[], pV B1 0, pV B3 0] (rboxC B1 25 [.slice A2 n2 c2] :: kS0 A2 n2 c2 a1 :: rboxC B3 3 [iV a2] :: (G s0)) (fun (u : Value) (post : List Chunk) => u = .tuple #[] ∧ post = G r) := by
 refine ok_E Tryz.func201 rfl rfl ?_
 simp only [envOf]
 refine run ?_
 refine G_loopF (fun m s L => ∃ (p5 : Int) (p6 : σ), slices_Chunk_l4 N fy a1 a2 m p5 p6 = some r ∧ s = [(0, .func (.yield l) #[] #[]), (1, pV B1 0), (2, pV B3 0), (4, iV p5)] ∧ L = kS0 A2 n2 c2 a1 :: rboxC B1 25 [.slice A2 n2 c2] :: rboxC B3 3 [iV a2] :: (G p6)) N _ _ ⟨0, s0, h, rfl, rfl⟩ sA (cv_sel [1, 0, 2] 3 rfl rfl) ?_
 rintro (_ | m4) _ _ ⟨p5, p6, h, rfl, rfl⟩
 ·exact none_some h
 rw [slices_Chunk_l4_s] at h
 refine G_seq ?_
 refine run ?_
 refine gR (rd_rbox1 1 rfl rfl one25 rfl) ?_
 refine gR (rd_len 0 rfl els_sl rfl Tryz.underlying25) ?_
 refine run ?_
 refine G_cond rfl (fun g7 => ?_) (fun g7 => ?_)
 ·replace h := cond_t g7 h
  refine run ?_
  refine G_seq ?_
  refine G_block ?_
  refine G_seq ?_
  refine G_drawn (by kernel_rfl) _ (cv_refl _) ?_
  refine T3_rd 0 rfl (by kernel_rfl) (rd_rbox1 2 rfl rfl one3 rfl) rfl rfl ?_
  refine T3_rd 1 rfl (by kernel_rfl) (rd_rbox1 1 rfl rfl one25 rfl) rfl rfl ?_
  refine T3_ev 2 rfl (by kernel_rfl) (ev_move rfl) rfl rfl ?_
  obtain ⟨q8, h⟩ := req_elim h
  refine T3_cut 0 rfl (l := p5.toNat) (h := a1.length) q8.2.1 q8.2.2 ?_
  rintro A9 n9 c9 e9
  refine T3_rd 3 rfl (by kernel_rfl) (rd_cutN 1 rfl e9 rfl Tryz.underlying25 size38 rfl (by rw [Int.toNat_of_nonneg q8.1]; rfl) q8.2.1) rfl rfl ?_
  refine T3_rd 4 rfl (by kernel_rfl) (rd_len 0 rfl els_sl rfl Tryz.underlying25) rfl rfl ?_
  refine T3_ev 5 rfl (by kernel_rfl) (ev_min rfl rfl Tryz.underlying3 Tryz.underlying3) rfl rfl ?_
  refine T3_ev 6 rfl (by kernel_rfl) (ev_assign rfl) rfl rfl ?_
  refine T3_done (by kernel_rfl) ?_
  refine run ?_
  refine gR (rd_rbox1 2 rfl rfl one25 rfl) ?_
  refine run ?_
  obtain ⟨q10, h⟩ := req_elim h
  refine gE (ev_add rfl rfl q10.1 q10.2) ?_
  refine run ?_
  obtain ⟨q11, h⟩ := req_elim h
  refine gE (ev_add rfl rfl q11.1 q11.2) ?_
  obtain ⟨q12, h⟩ := req_elim h
  refine G_cut3 1 rfl (l := p5.toNat) (h := (p5 + (min a2 (((a1.drop p5.toNat).take (a1.length - p5.toNat)).length : Int))).toNat) q12.2.2.1 q12.2.2.2 ?_
  rintro A13 n13 c13 e13
  refine gR (rd_cut3 2 rfl e13 rfl Tryz.underlying25 size38 rfl (by rw [Int.toNat_of_nonneg q12.1]; rfl) (by rw [Int.toNat_of_nonneg q12.2.1]; rfl) (by rw [Int.toNat_of_nonneg q12.2.1]; rfl) q12.2.2.1 q12.2.2.2) ?_
  obtain ⟨y14, hy14, h⟩ := bind_elim h
  refine gD (op_yieldR (a := (a1.drop p5.toNat).take ((p5 + (min a2 (((a1.drop p5.toNat).take (a1.length - p5.toNat)).length : Int))).toNat - p5.toNat)) [kS0 A13 n13 c13 ((a1.drop p5.toNat).take ((p5 + (min a2 (((a1.drop p5.toNat).take (a1.length - p5.toNat)).length : Int))).toNat - p5.toNat)), kS0 A9 n9 c9 ((a1.drop p5.toNat).take (a1.length - p5.toNat)), kS0 A2 n2 c2 a1, rboxC B1 25 [.slice A2 n2 c2], rboxC B3 3 [iV a2]] hY hy14 rfl rfl ⟨_, _, _, rfl, rfl⟩ (cv_dup 0 rfl rfl)) ?_
  rintro _ _ ⟨rfl, rfl⟩
  refine run ?_
  refine G_cond rfl (fun g15 => ?_) (fun g15 => ?_)
  ·replace h := cond_t g15 h
   refine run ?_
   obtain rfl := Option.some.inj h
   exact endG0 rfl (cv_sel [] 5 rfl rfl) ⟨rfl, rfl⟩
  ·replace h := cond_f g15 h
   refine run ?_
   refine gR (rd_rbox1 4 rfl rfl one3 rfl) ?_
   obtain ⟨q16, h⟩ := req_elim h
   refine gE (ev_add rfl rfl q16.1 q16.2) ?_
   refine run ?_
   exact ⟨m4, _, _, Nat.lt_succ_self _, ⟨p5 + a2, y14.2, h, rfl, rfl⟩, sA, cv_sel [2, 3, 4] 5 rfl rfl⟩
 ·replace h := cond_f g7 h
  refine run ?_
  obtain rfl := Option.some.inj h
  exact endG0n rfl (cv_sel [] 3 rfl rfl) ⟨rfl, rfl⟩
def slices_Chunk_191_O (N : Nat) (a0 : (List DValue)) (a1 : Int) : Option Unit :=
 bif decide (a1 < 1) then none else (some ())
theorem slices_Chunk_191_ok {N : Nat} {a0 : (List DValue)} {a1 : Int} {r : Unit} (h : slices_Chunk_191_O N a0 a1 = some r) {A1 : Option Addr} {n1 c1 : Nat} : Okc Tryz.prog 191 [.slice A1 n1 c1, iV a1] ([kS0 A1 n1 c1 a0]) (fun (u : Value) (post : List Chunk) => ∃ B900 B901, u = .func (.func 201) #[] #[pV B900 0, pV B901 0] ∧ post = [boxC B900 25 [.slice A1 n1 c1], boxC B901 3 [iV a1]]) := by
 refine ok_E Tryz.func191 rfl rfl ?_
 simp only [envOf]
 refine run ?_
 refine gD (op_box rfl rfl) ?_
 rintro _ _ ⟨B2, rfl, rfl⟩
 refine gD (op_box rfl rfl) ?_
 rintro _ _ ⟨B3, rfl, rfl⟩
 refine run ?_
 refine G_seq ?_
 refine run ?_
 refine G_cond rfl (fun g4 => ?_) (fun g4 => ?_)
 ·replace h := cond_t g4 h
  exact none_some h
 ·replace h := cond_f g4 h
  refine run ?_
  refine gE (ev_makeFunc rfl) ?_
  refine run ?_
  obtain rfl := Option.some.inj h
  exact endG1 rfl rfl (cv_sel [1, 0] 3 rfl rfl) ⟨_, _, rfl, rfl⟩
theorem slices_Chunk_191_free {a1 : Int} {A1 : Option Addr} {n1 : Nat} {c1 : Nat} : ∀ v post, ((fun (u : Value) (post : List Chunk) => ∃ B900 B901, u = .func (.func 201) #[] #[pV B900 0, pV B901 0] ∧ post = [boxC B900 25 [.slice A1 n1 c1], boxC B901 3 [iV a1]])) v post → ∀ c ∈ post, Free c := by
 rintro _ _ ⟨_, _, rfl, rfl⟩; exact mem_cons free_box (mem_cons free_box (mem_nil))
def cell_entriesRight_b9 (N : Nat) (a1 : Int) (x9 : (List DValue)) : (Unit) → Option (Option Exit × Unit)
 |() => (getE x9 0).bind fun x12 => (bif !decide (x12.Kind = 7) then (some true) else ((getE x9 1).bind fun x14 => some (decide (x14.Kind = 8)))).bind fun b13 => bif b13 then (some (some .ret, ())) else ((bif decide (a1 = 4) then ((getE x9 2).bind fun x17 => (cell_orNone_O N x17 7).bind fun y18 => (bif !y18 then (some true) else ((getE x9 3).bind fun x20 => (cell_number_O N x20 0 9007199254740992).bind fun y21 => some (!y21))).bind fun b19 => some b19) else (some false)).bind fun b16 => bif b16 then (some (some .ret, ())) else (some (none, ())))
def cell_entriesRight_O (N : Nat) (a0 : (List DValue)) (a1 : Int) : Option Bool :=
 req (a1 ≠ 0) (bif !decide ((a0.length : Int).tmod a1 = 0) then (some false) else ((slices_Chunk_191_O N a0 a1).bind fun y6 => (slices_Chunk_O N a0 a1 (liftR (fun x st => cell_entriesRight_b9 N a1 x st)) (none, ())).bind fun y11 => caseX y11.1 (some true) (some false) (fun _ => none)))
theorem cell_entriesRight_ok {N : Nat} {a0 : (List DValue)} {a1 : Int} {r : Bool} (h : cell_entriesRight_O N a0 a1 = some r) {A1 : Option Addr} {n1 c1 : Nat} : Okc Tryz.prog 166 [.slice A1 n1 c1, iV a1] ([kS0 A1 n1 c1 a0]) (fun (u : Value) (post : List Chunk) => u = .bool r ∧ post = []) := by
 refine ok_E Tryz.func166 rfl rfl ?_
 simp only [envOf]
 refine run ?_
 refine gD (op_box rfl rfl) ?_
 rintro _ _ ⟨B2, rfl, rfl⟩
 refine gD (op_alloc zero4 rfl) ?_
 rintro _ _ ⟨B3, rfl, rfl⟩
 refine run ?_
 refine G_seq ?_
 refine run ?_
 refine gR (rd_len 2 rfl els_sl rfl Tryz.underlying25) ?_
 refine run ?_
 obtain ⟨q4, h⟩ := req_elim h
 refine gE (ev_rem rfl rfl q4) ?_
 refine run ?_
 refine G_cond rfl (fun g5 => ?_) (fun g5 => ?_)
 ·replace h := cond_t g5 h
  refine run ?_
  refine gO (op_store (us := [.bool false]) (cs' := [.bool false]) 0 rfl rfl rfl rfl size4 rfl rfl rfl) ?_
  rintro _ _ rfl
  refine run ?_
  obtain rfl := Option.some.inj h
  exact endGl (rs := [.cell 4 4]) (vs := [.bool false]) rfl (.cons (rv_box1 0 rfl rfl one4) .nil) rfl (cv_sel [] 3 rfl rfl) ⟨rfl, rfl⟩
 ·replace h := cond_f g5 h
  refine run ?_
  refine G_seq ?_
  refine run ?_
  obtain ⟨y6, hy6, h⟩ := bind_elim h
  refine gD (op_callR (slices_Chunk_191_ok hy6) call191 rfl (mem_cons (lent_ro (i := 2) rfl rfl) mem_nil) slices_Chunk_191_free) ?_
  rintro _ _ ⟨_, ⟨B7, B8, rfl, rfl⟩, rfl⟩
  refine G_nil ?_
  refine nx_n ?_
  refine G_sub ?_ sub_refl (cv_frzbox 0 rfl)
  refine G_sub ?_ sub_refl (cv_frzbox 1 rfl)
  refine Wq_norm ([rboxC B7 25 [.slice A1 n1 c1], rboxC B8 3 [iV a1], boxC B3 4 [.bool false], boxC B2 3 [iV a1], kS0 A1 n1 c1 a0]) rfl ?_
  obtain ⟨y11, hy11, h⟩ := bind_elim h
  refine G_rangeXR (R := (fun (x : (List DValue)) vs cs => ∃ A0 n0 c0, vs = [.slice A0 n0 c0] ∧ cs = [kS0 A0 n0 c0 x])) (fun x st => cell_entriesRight_b9 N a1 x st) (fun (st : Unit) (mz : Unit) => [boxC B2 3 [iV a1], boxC B3 4 [.bool false]]) [rboxC B7 25 [.slice A1 n1 c1], kS0 A1 n1 c1 a0, rboxC B8 3 [iV a1]] (()) (()) rfl rfl call201 rfl (by rintro _ _ _ ⟨_, _, _, rfl, rfl⟩; rfl) (fun l G hY => (slices_Chunk_ok hy11 hY).mono fun _ _ hh => hh.2) (cv_take [0, 4, 1] [] [3, 2] 5 rfl) h ?_ ?_ ?_ ?_
  ·rintro l x9 _ je sr9 _ h _ _ ⟨A10, n10, c10, rfl, rfl⟩
   replace h : cell_entriesRight_b9 N a1 x9 () = some (je, sr9) := h
   simp only [envR, List.zip_cons_cons, List.zip_nil_left, List.zip_nil_right, List.reverse_cons, List.reverse_nil, List.nil_append, List.cons_append]
   refine run ?_
   refine G_seq ?_
   refine run ?_
   obtain ⟨x12, hx12, h⟩ := bind_elim h
   obtain ⟨lx12, ux12, hx12⟩ := getE_elim hx12
   refine gR (rd_idx 0 rfl els_sl rfl rfl Tryz.underlying25 size38 lx12 ux12) ?_
   refine gR (rd_fa0 0 rfl els_sl rfl (toNat_lt lx12 ux12) fa_38_0) ?_
   refine gR (rd_elem1 (u := iV x12.Kind) 0 rfl els_sl rfl hx12 one3 (fun _ _ _ h => by rw [show _ = _ from h]; rfl)) ?_
   refine run ?_
   obtain ⟨b13, hb13, h⟩ := bind_elim h
   refine G_segb 6 26 b13 ?_ ?_
   ·clear h
    refine G_case 20 rfl (fun g13 => ?_) (fun g13 => ?_)
    ·have h := cond_t g13 hb13
     refine run ?_
     obtain rfl := Option.some.inj h
     exact G_joined sA (cv_sel [0, 1, 2] 3 rfl rfl)
    ·have h := cond_f g13 hb13
     refine run ?_
     obtain ⟨x14, hx14, h⟩ := bind_elim h
     obtain ⟨lx14, ux14, hx14⟩ := getE_elim hx14
     refine G_rd (rd_idx 0 rfl els_sl rfl rfl Tryz.underlying25 size38 lx14 ux14) rfl (g_ff g13 rfl) rfl ?_
     refine G_rd (rd_fa0 0 rfl els_sl rfl (toNat_lt lx14 ux14) fa_38_0) rfl (g_ff g13 rfl) rfl ?_
     refine G_rd (rd_elem1 (u := iV x14.Kind) 0 rfl els_sl rfl hx14 one3 (fun _ _ _ h => by rw [show _ = _ from h]; rfl)) rfl (g_ff g13 rfl) rfl ?_
     refine run ?_
     obtain rfl := Option.some.inj h
     exact G_joined sA (cv_sel [0, 1, 2] 3 rfl rfl)
   refine run ?_
   refine G_cond rfl (fun g15 => ?_) (fun g15 => ?_)
   ·replace h := cond_t g15 h
    refine run ?_
    refine gO (op_store (us := [.bool false]) (cs' := [.bool false]) 2 rfl rfl rfl rfl size4 rfl rfl rfl) ?_
    rintro _ _ rfl
    refine run ?_
    obtain ⟨rfl, rfl⟩ := Prod.mk.inj (Option.some.inj h)
    exact RK_ret ((cv_sel [1, 2] 3 rfl rfl).trans (cv_pack1 () rfl))
   ·replace h := cond_f g15 h
    refine run ?_
    obtain ⟨b16, hb16, h⟩ := bind_elim h
    refine G_segb 13 42 b16 ?_ ?_
    ·clear h
     refine G_case 29 rfl (fun g16 => ?_) (fun g16 => ?_)
     ·have h := cond_t g16 hb16
      refine run ?_
      obtain ⟨x17, hx17, h⟩ := bind_elim h
      obtain ⟨lx17, ux17, hx17⟩ := getE_elim hx17
      refine G_rd (rd_idx 0 rfl els_sl rfl rfl Tryz.underlying25 size38 lx17 ux17) rfl (g_tt g16 rfl) rfl ?_
      refine G_rd (rd_elemS (us := [iV x17.Kind, iV x17.N, .string x17.S]) 0 rfl els_sl rfl hx17 agg38 (fun _ _ _ h => by rw [show _ = _ from h]; rfl)) rfl (g_tt g16 rfl) rfl ?_
      obtain ⟨y18, hy18, h⟩ := bind_elim h
      refine G_opd (op_callR (cell_orNone_ok hy18) call164 rfl (mem_nil) cell_orNone_free) rfl (g_tt g16 rfl) rfl ?_
      rintro _ _ ⟨_, ⟨rfl, rfl⟩, rfl⟩
      refine run ?_
      obtain ⟨b19, hb19, h⟩ := bind_elim h
      refine G_segb 6 41 b19 ?_ ?_
      ·clear h
       refine G_case 35 rfl (fun g19 => ?_) (fun g19 => ?_)
       ·have h := cond_t g19 hb19
        refine run ?_
        obtain rfl := Option.some.inj h
        exact G_joined sA (cv_sel [0, 1, 2] 3 rfl rfl)
       ·have h := cond_f g19 hb19
        refine run ?_
        obtain ⟨x20, hx20, h⟩ := bind_elim h
        obtain ⟨lx20, ux20, hx20⟩ := getE_elim hx20
        refine G_rd (rd_idx 0 rfl els_sl rfl rfl Tryz.underlying25 size38 lx20 ux20) rfl (g_ff g19 rfl) rfl ?_
        refine G_rd (rd_elemS (us := [iV x20.Kind, iV x20.N, .string x20.S]) 0 rfl els_sl rfl hx20 agg38 (fun _ _ _ h => by rw [show _ = _ from h]; rfl)) rfl (g_ff g19 rfl) rfl ?_
        obtain ⟨y21, hy21, h⟩ := bind_elim h
        refine G_opd (op_callR (cell_number_ok hy21) call165 rfl (mem_nil) cell_number_free) rfl (g_ff g19 rfl) rfl ?_
        rintro _ _ ⟨_, ⟨rfl, rfl⟩, rfl⟩
        refine run ?_
        obtain rfl := Option.some.inj h
        exact G_joined sA (cv_sel [0, 1, 2] 3 rfl rfl)
      refine run ?_
      obtain rfl := Option.some.inj h
      exact G_joined sA (cv_sel [0, 1, 2] 3 rfl rfl)
     ·have h := cond_f g16 hb16
      refine run ?_
      obtain rfl := Option.some.inj h
      exact G_joined sA (cv_sel [0, 1, 2] 3 rfl rfl)
    refine run ?_
    refine G_cond rfl (fun g22 => ?_) (fun g22 => ?_)
    ·replace h := cond_t g22 h
     refine run ?_
     refine gO (op_store (us := [.bool false]) (cs' := [.bool false]) 2 rfl rfl rfl rfl size4 rfl rfl rfl) ?_
     rintro _ _ rfl
     refine run ?_
     obtain ⟨rfl, rfl⟩ := Prod.mk.inj (Option.some.inj h)
     exact RK_ret ((cv_sel [1, 2] 3 rfl rfl).trans (cv_pack1 () rfl))
    ·replace h := cond_f g22 h
     refine run ?_
     obtain ⟨rfl, rfl⟩ := Prod.mk.inj (Option.some.inj h)
     exact RK_n ((cv_sel [1, 2] 3 rfl rfl).trans (cv_pack1 () rfl))
  ·rintro _ h
   refine K3_norm ([boxC B2 3 [iV a1], boxC B3 4 [.bool false]]) rfl ?_
   refine run ?_
   refine gO (op_store (us := [.bool true]) (cs' := [.bool true]) 1 rfl rfl rfl rfl size4 rfl rfl rfl) ?_
   rintro _ _ rfl
   refine G_norm ([boxC B2 3 [iV a1], boxC B3 4 [.bool true]]) rfl ?_
   refine run ?_
   obtain rfl := Option.some.inj h
   exact endGl (rs := [.cell 4 4]) (vs := [.bool true]) rfl (.cons (rv_box1 1 rfl rfl one4) .nil) rfl (cv_sel [] 2 rfl rfl) ⟨rfl, rfl⟩
  ·rintro _ h
   refine K3_norm ([boxC B2 3 [iV a1], boxC B3 4 [.bool false]]) rfl ?_
   refine run ?_
   obtain rfl := Option.some.inj h
   exact endGl (rs := [.cell 4 4]) (vs := [.bool false]) rfl (.cons (rv_box1 1 rfl rfl one4) .nil) rfl (cv_sel [] 2 rfl rfl) ⟨rfl, rfl⟩
  ·rintro i _ h
   exact none_some h
theorem cell_entriesRight_free {r : Bool} : ∀ v post, ((fun (u : Value) (post : List Chunk) => u = .bool r ∧ post = [])) v post → ∀ c ∈ post, Free c := by
 rintro _ _ ⟨rfl, rfl⟩; exact mem_nil
def cell_moreRight_j4 (N : Nat) (a0 : Int) (a1 : (List DValue)) (p5 : Bool) : Option Bool :=
 bif p5 then (some (decide ((a1.length : Int) = 0))) else (bif decide (a0 = 3) then ((bif decide ((a1.length : Int) = 3) then ((getE a1 0).bind fun x10 => (cell_number_O N x10 0 9007199254740992).bind fun y11 => some y11) else (some false)).bind fun b9 => (bif b9 then ((getE a1 1).bind fun x13 => (cell_orNone_O N x13 9).bind fun y14 => some y14) else (some false)).bind fun b12 => some b12) else (bif decide (a0 = 4) then ((bif decide (1 ≤ (a1.length : Int)) then (some (decide ((a1.length : Int) ≤ 4097))) else (some false)).bind fun b16 => (bif b16 then ((getE a1 0).bind fun x18 => (cell_orNone_O N x18 9).bind fun y19 => some y19) else (some false)).bind fun b17 => some b17) else (bif decide (a0 = 6) then ((bif decide ((a1.length : Int) = 2) then ((getE a1 0).bind fun x22 => (cell_number_O N x22 0 3).bind fun y23 => some y23) else (some false)).bind fun b21 => (bif b21 then ((getE a1 1).bind fun x25 => (cell_orNone_O N x25 9).bind fun y26 => some y26) else (some false)).bind fun b24 => some b24) else (bif decide (a0 = 7) then ((bif decide (4 ≤ (a1.length : Int)) then ((getE a1 2).bind fun x29 => (cell_number_O N x29 0 1).bind fun y30 => some y30) else (some false)).bind fun b28 => (bif b28 then ((getE a1 3).bind fun x32 => (cell_number_O N x32 0 9007199254740992).bind fun y33 => some y33) else (some false)).bind fun b31 => some b31) else (bif decide (a0 = 8) then ((cell_entriesRight_O N a1 2).bind fun y35 => some y35) else (bif decide (a0 = 10) then ((bif decide (1 ≤ (a1.length : Int)) then ((getE a1 0).bind fun x38 => some (decide (x38.Kind = 7))) else (some false)).bind fun b37 => (bif b37 then (req ((0 : Int) ≤ 1 ∧ (1 : Int).toNat ≤ a1.length ∧ a1.length ≤ a1.length) ((cell_entriesRight_O N ((a1.drop ((1 : Int).toNat)).take (a1.length - (1 : Int).toNat)) 4).bind fun y42 => some y42)) else (some false)).bind fun b39 => some b39) else (bif decide (a0 = 9) then ((bif decide (2 ≤ (a1.length : Int)) then ((getE a1 0).bind fun x45 => (cell_number_O N x45 0 2).bind fun y46 => some y46) else (some false)).bind fun b44 => some b44) else (some true))))))))
def cell_moreRight_O (N : Nat) (a0 : Int) (a1 : (List DValue)) : Option Bool :=
 bif decide (1048576 < (a1.length : Int)) then (some false) else (bif decide (a0 = 2) then (some (decide ((a1.length : Int) ≤ 4096))) else (bif decide (a0 = 1) then (cell_moreRight_j4 N a0 a1 (decide (a0 = 1))) else (cell_moreRight_j4 N a0 a1 (decide (a0 = 5)))))
set_option maxHeartbeats 4000000 in
theorem cell_moreRight_ok {N : Nat} {a0 : Int} {a1 : (List DValue)} {r : Bool} (h : cell_moreRight_O N a0 a1 = some r) {A1 : Option Addr} {n1 c1 : Nat} : Okc Tryz.prog 112 [iV a0, .slice A1 n1 c1] ([kS0 A1 n1 c1 a1]) (fun (u : Value) (post : List Chunk) => u = .bool r ∧ post = []) := by
 refine ok_E Tryz.func112 rfl rfl ?_
 simp only [envOf]
 refine run ?_
 refine G_seq ?_
 refine run ?_
 refine gR (rd_len 0 rfl els_sl rfl Tryz.underlying25) ?_
 refine run ?_
 refine G_cond rfl (fun g2 => ?_) (fun g2 => ?_)
 ·replace h := cond_t g2 h
  refine run ?_
  obtain rfl := Option.some.inj h
  exact endG1 rfl rfl (cv_sel [] 1 rfl rfl) ⟨rfl, rfl⟩
 ·replace h := cond_f g2 h
  refine run ?_
  refine G_seq ?_
  refine run ?_
  refine G_cond rfl (fun g3 => ?_) (fun g3 => ?_)
  ·replace h := cond_t g3 h
   refine run ?_
   refine gR (rd_len 0 rfl els_sl rfl Tryz.underlying25) ?_
   refine run ?_
   obtain rfl := Option.some.inj h
   exact endG1 rfl rfl (cv_sel [] 1 rfl rfl) ⟨rfl, rfl⟩
  ·replace h := cond_f g3 h
   refine G_joinF (fun s L => ∃ (p5 : Bool), cell_moreRight_j4 N a0 a1 p5 = some r ∧ s = [(1, .slice A1 n1 c1), (4, .bool false), (8, iV a0), (14, .bool p5)] ∧ L = [kS0 A1 n1 c1 a1]) ?_ ?_
   ·refine run ?_
    refine G_cond rfl (fun g6 => ?_) (fun g6 => ?_)
    ·replace h := cond_t g6 h
     refine run ?_
     exact ⟨_, _, ⟨decide (a0 = 1), h, rfl, rfl⟩, sA, cv_sel [0] 1 rfl rfl⟩
    ·replace h := cond_f g6 h
     refine run ?_
     exact ⟨_, _, ⟨decide (a0 = 5), h, rfl, rfl⟩, sA, cv_sel [0] 1 rfl rfl⟩
   ·rintro _ _ ⟨p5, h, rfl, rfl⟩
    refine G_cond rfl (fun g7 => ?_) (fun g7 => ?_)
    ·replace h := cond_t g7 h
     refine run ?_
     refine gR (rd_len 0 rfl els_sl rfl Tryz.underlying25) ?_
     refine run ?_
     obtain rfl := Option.some.inj h
     exact endG1 rfl rfl (cv_sel [] 1 rfl rfl) ⟨rfl, rfl⟩
    ·replace h := cond_f g7 h
     refine run ?_
     refine G_cond rfl (fun g8 => ?_) (fun g8 => ?_)
     ·replace h := cond_t g8 h
      refine run ?_
      refine gR (rd_len 0 rfl els_sl rfl Tryz.underlying25) ?_
      refine run ?_
      obtain ⟨b9, hb9, h⟩ := bind_elim h
      refine G_segb 5 30 b9 ?_ ?_
      ·clear h
       refine G_case 25 rfl (fun g9 => ?_) (fun g9 => ?_)
       ·have h := cond_t g9 hb9
        refine run ?_
        obtain ⟨x10, hx10, h⟩ := bind_elim h
        obtain ⟨lx10, ux10, hx10⟩ := getE_elim hx10
        refine G_rd (rd_idx 0 rfl els_sl rfl rfl Tryz.underlying25 size38 lx10 ux10) rfl (g_tt g9 rfl) rfl ?_
        refine G_rd (rd_elemS (us := [iV x10.Kind, iV x10.N, .string x10.S]) 0 rfl els_sl rfl hx10 agg38 (fun _ _ _ h => by rw [show _ = _ from h]; rfl)) rfl (g_tt g9 rfl) rfl ?_
        obtain ⟨y11, hy11, h⟩ := bind_elim h
        refine G_opd (op_callR (cell_number_ok hy11) call165 rfl (mem_nil) cell_number_free) rfl (g_tt g9 rfl) rfl ?_
        rintro _ _ ⟨_, ⟨rfl, rfl⟩, rfl⟩
        refine run ?_
        obtain rfl := Option.some.inj h
        exact G_joined sA (cv_sel [0] 1 rfl rfl)
       ·have h := cond_f g9 hb9
        refine run ?_
        obtain rfl := Option.some.inj h
        exact G_joined sA (cv_sel [0] 1 rfl rfl)
      refine run ?_
      obtain ⟨b12, hb12, h⟩ := bind_elim h
      refine G_segb 5 36 b12 ?_ ?_
      ·clear h
       refine G_case 31 rfl (fun g12 => ?_) (fun g12 => ?_)
       ·have h := cond_t g12 hb12
        refine run ?_
        obtain ⟨x13, hx13, h⟩ := bind_elim h
        obtain ⟨lx13, ux13, hx13⟩ := getE_elim hx13
        refine G_rd (rd_idx 0 rfl els_sl rfl rfl Tryz.underlying25 size38 lx13 ux13) rfl (g_tt g12 rfl) rfl ?_
        refine G_rd (rd_elemS (us := [iV x13.Kind, iV x13.N, .string x13.S]) 0 rfl els_sl rfl hx13 agg38 (fun _ _ _ h => by rw [show _ = _ from h]; rfl)) rfl (g_tt g12 rfl) rfl ?_
        obtain ⟨y14, hy14, h⟩ := bind_elim h
        refine G_opd (op_callR (cell_orNone_ok hy14) call164 rfl (mem_nil) cell_orNone_free) rfl (g_tt g12 rfl) rfl ?_
        rintro _ _ ⟨_, ⟨rfl, rfl⟩, rfl⟩
        refine run ?_
        obtain rfl := Option.some.inj h
        exact G_joined sA (cv_sel [0] 1 rfl rfl)
       ·have h := cond_f g12 hb12
        refine run ?_
        obtain rfl := Option.some.inj h
        exact G_joined sA (cv_sel [0] 1 rfl rfl)
      refine run ?_
      obtain rfl := Option.some.inj h
      exact endG1 rfl rfl (cv_sel [] 1 rfl rfl) ⟨rfl, rfl⟩
     ·replace h := cond_f g8 h
      refine run ?_
      refine G_cond rfl (fun g15 => ?_) (fun g15 => ?_)
      ·replace h := cond_t g15 h
       refine run ?_
       refine gR (rd_len 0 rfl els_sl rfl Tryz.underlying25) ?_
       refine run ?_
       obtain ⟨b16, hb16, h⟩ := bind_elim h
       refine G_segb 4 46 b16 ?_ ?_
       ·clear h
        refine G_case 42 rfl (fun g16 => ?_) (fun g16 => ?_)
        ·have h := cond_t g16 hb16
         refine run ?_
         refine G_rd (rd_len 0 rfl els_sl rfl Tryz.underlying25) rfl (g_tt g16 rfl) rfl ?_
         refine run ?_
         obtain rfl := Option.some.inj h
         exact G_joined sA (cv_sel [0] 1 rfl rfl)
        ·have h := cond_f g16 hb16
         refine run ?_
         obtain rfl := Option.some.inj h
         exact G_joined sA (cv_sel [0] 1 rfl rfl)
       refine run ?_
       obtain ⟨b17, hb17, h⟩ := bind_elim h
       refine G_segb 5 52 b17 ?_ ?_
       ·clear h
        refine G_case 47 rfl (fun g17 => ?_) (fun g17 => ?_)
        ·have h := cond_t g17 hb17
         refine run ?_
         obtain ⟨x18, hx18, h⟩ := bind_elim h
         obtain ⟨lx18, ux18, hx18⟩ := getE_elim hx18
         refine G_rd (rd_idx 0 rfl els_sl rfl rfl Tryz.underlying25 size38 lx18 ux18) rfl (g_tt g17 rfl) rfl ?_
         refine G_rd (rd_elemS (us := [iV x18.Kind, iV x18.N, .string x18.S]) 0 rfl els_sl rfl hx18 agg38 (fun _ _ _ h => by rw [show _ = _ from h]; rfl)) rfl (g_tt g17 rfl) rfl ?_
         obtain ⟨y19, hy19, h⟩ := bind_elim h
         refine G_opd (op_callR (cell_orNone_ok hy19) call164 rfl (mem_nil) cell_orNone_free) rfl (g_tt g17 rfl) rfl ?_
         rintro _ _ ⟨_, ⟨rfl, rfl⟩, rfl⟩
         refine run ?_
         obtain rfl := Option.some.inj h
         exact G_joined sA (cv_sel [0] 1 rfl rfl)
        ·have h := cond_f g17 hb17
         refine run ?_
         obtain rfl := Option.some.inj h
         exact G_joined sA (cv_sel [0] 1 rfl rfl)
       refine run ?_
       obtain rfl := Option.some.inj h
       exact endG1 rfl rfl (cv_sel [] 1 rfl rfl) ⟨rfl, rfl⟩
      ·replace h := cond_f g15 h
       refine run ?_
       refine G_cond rfl (fun g20 => ?_) (fun g20 => ?_)
       ·replace h := cond_t g20 h
        refine run ?_
        refine gR (rd_len 0 rfl els_sl rfl Tryz.underlying25) ?_
        refine run ?_
        obtain ⟨b21, hb21, h⟩ := bind_elim h
        refine G_segb 5 63 b21 ?_ ?_
        ·clear h
         refine G_case 58 rfl (fun g21 => ?_) (fun g21 => ?_)
         ·have h := cond_t g21 hb21
          refine run ?_
          obtain ⟨x22, hx22, h⟩ := bind_elim h
          obtain ⟨lx22, ux22, hx22⟩ := getE_elim hx22
          refine G_rd (rd_idx 0 rfl els_sl rfl rfl Tryz.underlying25 size38 lx22 ux22) rfl (g_tt g21 rfl) rfl ?_
          refine G_rd (rd_elemS (us := [iV x22.Kind, iV x22.N, .string x22.S]) 0 rfl els_sl rfl hx22 agg38 (fun _ _ _ h => by rw [show _ = _ from h]; rfl)) rfl (g_tt g21 rfl) rfl ?_
          obtain ⟨y23, hy23, h⟩ := bind_elim h
          refine G_opd (op_callR (cell_number_ok hy23) call165 rfl (mem_nil) cell_number_free) rfl (g_tt g21 rfl) rfl ?_
          rintro _ _ ⟨_, ⟨rfl, rfl⟩, rfl⟩
          refine run ?_
          obtain rfl := Option.some.inj h
          exact G_joined sA (cv_sel [0] 1 rfl rfl)
         ·have h := cond_f g21 hb21
          refine run ?_
          obtain rfl := Option.some.inj h
          exact G_joined sA (cv_sel [0] 1 rfl rfl)
        refine run ?_
        obtain ⟨b24, hb24, h⟩ := bind_elim h
        refine G_segb 5 69 b24 ?_ ?_
        ·clear h
         refine G_case 64 rfl (fun g24 => ?_) (fun g24 => ?_)
         ·have h := cond_t g24 hb24
          refine run ?_
          obtain ⟨x25, hx25, h⟩ := bind_elim h
          obtain ⟨lx25, ux25, hx25⟩ := getE_elim hx25
          refine G_rd (rd_idx 0 rfl els_sl rfl rfl Tryz.underlying25 size38 lx25 ux25) rfl (g_tt g24 rfl) rfl ?_
          refine G_rd (rd_elemS (us := [iV x25.Kind, iV x25.N, .string x25.S]) 0 rfl els_sl rfl hx25 agg38 (fun _ _ _ h => by rw [show _ = _ from h]; rfl)) rfl (g_tt g24 rfl) rfl ?_
          obtain ⟨y26, hy26, h⟩ := bind_elim h
          refine G_opd (op_callR (cell_orNone_ok hy26) call164 rfl (mem_nil) cell_orNone_free) rfl (g_tt g24 rfl) rfl ?_
          rintro _ _ ⟨_, ⟨rfl, rfl⟩, rfl⟩
          refine run ?_
          obtain rfl := Option.some.inj h
          exact G_joined sA (cv_sel [0] 1 rfl rfl)
         ·have h := cond_f g24 hb24
          refine run ?_
          obtain rfl := Option.some.inj h
          exact G_joined sA (cv_sel [0] 1 rfl rfl)
        refine run ?_
        obtain rfl := Option.some.inj h
        exact endG1 rfl rfl (cv_sel [] 1 rfl rfl) ⟨rfl, rfl⟩
       ·replace h := cond_f g20 h
        refine run ?_
        refine G_cond rfl (fun g27 => ?_) (fun g27 => ?_)
        ·replace h := cond_t g27 h
         refine run ?_
         refine gR (rd_len 0 rfl els_sl rfl Tryz.underlying25) ?_
         refine run ?_
         obtain ⟨b28, hb28, h⟩ := bind_elim h
         refine G_segb 5 80 b28 ?_ ?_
         ·clear h
          refine G_case 75 rfl (fun g28 => ?_) (fun g28 => ?_)
          ·have h := cond_t g28 hb28
           refine run ?_
           obtain ⟨x29, hx29, h⟩ := bind_elim h
           obtain ⟨lx29, ux29, hx29⟩ := getE_elim hx29
           refine G_rd (rd_idx 0 rfl els_sl rfl rfl Tryz.underlying25 size38 lx29 ux29) rfl (g_tt g28 rfl) rfl ?_
           refine G_rd (rd_elemS (us := [iV x29.Kind, iV x29.N, .string x29.S]) 0 rfl els_sl rfl hx29 agg38 (fun _ _ _ h => by rw [show _ = _ from h]; rfl)) rfl (g_tt g28 rfl) rfl ?_
           obtain ⟨y30, hy30, h⟩ := bind_elim h
           refine G_opd (op_callR (cell_number_ok hy30) call165 rfl (mem_nil) cell_number_free) rfl (g_tt g28 rfl) rfl ?_
           rintro _ _ ⟨_, ⟨rfl, rfl⟩, rfl⟩
           refine run ?_
           obtain rfl := Option.some.inj h
           exact G_joined sA (cv_sel [0] 1 rfl rfl)
          ·have h := cond_f g28 hb28
           refine run ?_
           obtain rfl := Option.some.inj h
           exact G_joined sA (cv_sel [0] 1 rfl rfl)
         refine run ?_
         obtain ⟨b31, hb31, h⟩ := bind_elim h
         refine G_segb 5 86 b31 ?_ ?_
         ·clear h
          refine G_case 81 rfl (fun g31 => ?_) (fun g31 => ?_)
          ·have h := cond_t g31 hb31
           refine run ?_
           obtain ⟨x32, hx32, h⟩ := bind_elim h
           obtain ⟨lx32, ux32, hx32⟩ := getE_elim hx32
           refine G_rd (rd_idx 0 rfl els_sl rfl rfl Tryz.underlying25 size38 lx32 ux32) rfl (g_tt g31 rfl) rfl ?_
           refine G_rd (rd_elemS (us := [iV x32.Kind, iV x32.N, .string x32.S]) 0 rfl els_sl rfl hx32 agg38 (fun _ _ _ h => by rw [show _ = _ from h]; rfl)) rfl (g_tt g31 rfl) rfl ?_
           obtain ⟨y33, hy33, h⟩ := bind_elim h
           refine G_opd (op_callR (cell_number_ok hy33) call165 rfl (mem_nil) cell_number_free) rfl (g_tt g31 rfl) rfl ?_
           rintro _ _ ⟨_, ⟨rfl, rfl⟩, rfl⟩
           refine run ?_
           obtain rfl := Option.some.inj h
           exact G_joined sA (cv_sel [0] 1 rfl rfl)
          ·have h := cond_f g31 hb31
           refine run ?_
           obtain rfl := Option.some.inj h
           exact G_joined sA (cv_sel [0] 1 rfl rfl)
         refine run ?_
         obtain rfl := Option.some.inj h
         exact endG1 rfl rfl (cv_sel [] 1 rfl rfl) ⟨rfl, rfl⟩
        ·replace h := cond_f g27 h
         refine run ?_
         refine G_cond rfl (fun g34 => ?_) (fun g34 => ?_)
         ·replace h := cond_t g34 h
          refine run ?_
          obtain ⟨y35, hy35, h⟩ := bind_elim h
          refine gD (op_callR (cell_entriesRight_ok hy35) call166 rfl (mem_cons (lent_ro (i := 0) rfl rfl) mem_nil) cell_entriesRight_free) ?_
          rintro _ _ ⟨_, ⟨rfl, rfl⟩, rfl⟩
          refine run ?_
          obtain rfl := Option.some.inj h
          exact endG1 rfl rfl (cv_sel [] 1 rfl rfl) ⟨rfl, rfl⟩
         ·replace h := cond_f g34 h
          refine run ?_
          refine G_cond rfl (fun g36 => ?_) (fun g36 => ?_)
          ·replace h := cond_t g36 h
           refine run ?_
           refine gR (rd_len 0 rfl els_sl rfl Tryz.underlying25) ?_
           refine run ?_
           obtain ⟨b37, hb37, h⟩ := bind_elim h
           refine G_segb 6 102 b37 ?_ ?_
           ·clear h
            refine G_case 96 rfl (fun g37 => ?_) (fun g37 => ?_)
            ·have h := cond_t g37 hb37
             refine run ?_
             obtain ⟨x38, hx38, h⟩ := bind_elim h
             obtain ⟨lx38, ux38, hx38⟩ := getE_elim hx38
             refine G_rd (rd_idx 0 rfl els_sl rfl rfl Tryz.underlying25 size38 lx38 ux38) rfl (g_tt g37 rfl) rfl ?_
             refine G_rd (rd_fa0 0 rfl els_sl rfl (toNat_lt lx38 ux38) fa_38_0) rfl (g_tt g37 rfl) rfl ?_
             refine G_rd (rd_elem1 (u := iV x38.Kind) 0 rfl els_sl rfl hx38 one3 (fun _ _ _ h => by rw [show _ = _ from h]; rfl)) rfl (g_tt g37 rfl) rfl ?_
             refine run ?_
             obtain rfl := Option.some.inj h
             exact G_joined sA (cv_sel [0] 1 rfl rfl)
            ·have h := cond_f g37 hb37
             refine run ?_
             obtain rfl := Option.some.inj h
             exact G_joined sA (cv_sel [0] 1 rfl rfl)
           refine run ?_
           obtain ⟨b39, hb39, h⟩ := bind_elim h
           refine G_segb 4 107 b39 ?_ ?_
           ·clear h
            refine G_case 103 rfl (fun g39 => ?_) (fun g39 => ?_)
            ·have h := cond_t g39 hb39
             refine run ?_
             obtain ⟨q40, h⟩ := req_elim h
             refine G_cut 0 rfl (l := (1 : Int).toNat) (h := a1.length) q40.2.1 q40.2.2 ?_
             rintro A41 n41 c41 e41
             refine G_rd (rd_cutN 1 rfl e41 rfl Tryz.underlying25 size38 rfl (by rw [Int.toNat_of_nonneg q40.1]; rfl) q40.2.1) rfl (g_tt g39 rfl) rfl ?_
             obtain ⟨y42, hy42, h⟩ := bind_elim h
             refine G_opd (op_callR (cell_entriesRight_ok hy42) call166 rfl (mem_cons (lent_ro (i := 0) rfl rfl) mem_nil) cell_entriesRight_free) rfl (g_tt g39 rfl) rfl ?_
             rintro _ _ ⟨_, ⟨rfl, rfl⟩, rfl⟩
             refine run ?_
             obtain rfl := Option.some.inj h
             exact G_joined sA (cv_sel [1] 2 rfl rfl)
            ·have h := cond_f g39 hb39
             refine run ?_
             obtain rfl := Option.some.inj h
             exact G_joined sA (cv_sel [0] 1 rfl rfl)
           refine run ?_
           obtain rfl := Option.some.inj h
           exact endG1 rfl rfl (cv_sel [] 1 rfl rfl) ⟨rfl, rfl⟩
          ·replace h := cond_f g36 h
           refine run ?_
           refine G_cond rfl (fun g43 => ?_) (fun g43 => ?_)
           ·replace h := cond_t g43 h
            refine run ?_
            refine gR (rd_len 0 rfl els_sl rfl Tryz.underlying25) ?_
            refine run ?_
            obtain ⟨b44, hb44, h⟩ := bind_elim h
            refine G_segb 5 118 b44 ?_ ?_
            ·clear h
             refine G_case 113 rfl (fun g44 => ?_) (fun g44 => ?_)
             ·have h := cond_t g44 hb44
              refine run ?_
              obtain ⟨x45, hx45, h⟩ := bind_elim h
              obtain ⟨lx45, ux45, hx45⟩ := getE_elim hx45
              refine G_rd (rd_idx 0 rfl els_sl rfl rfl Tryz.underlying25 size38 lx45 ux45) rfl (g_tt g44 rfl) rfl ?_
              refine G_rd (rd_elemS (us := [iV x45.Kind, iV x45.N, .string x45.S]) 0 rfl els_sl rfl hx45 agg38 (fun _ _ _ h => by rw [show _ = _ from h]; rfl)) rfl (g_tt g44 rfl) rfl ?_
              obtain ⟨y46, hy46, h⟩ := bind_elim h
              refine G_opd (op_callR (cell_number_ok hy46) call165 rfl (mem_nil) cell_number_free) rfl (g_tt g44 rfl) rfl ?_
              rintro _ _ ⟨_, ⟨rfl, rfl⟩, rfl⟩
              refine run ?_
              obtain rfl := Option.some.inj h
              exact G_joined sA (cv_sel [0] 1 rfl rfl)
             ·have h := cond_f g44 hb44
              refine run ?_
              obtain rfl := Option.some.inj h
              exact G_joined sA (cv_sel [0] 1 rfl rfl)
            refine run ?_
            obtain rfl := Option.some.inj h
            exact endG1 rfl rfl (cv_sel [] 1 rfl rfl) ⟨rfl, rfl⟩
           ·replace h := cond_f g43 h
            refine run ?_
            obtain rfl := Option.some.inj h
            exact endG1 rfl rfl (cv_sel [] 1 rfl rfl) ⟨rfl, rfl⟩
theorem cell_moreRight_free {r : Bool} : ∀ v post, ((fun (u : Value) (post : List Chunk) => u = .bool r ∧ post = [])) v post → ∀ c ∈ post, Free c := by
 rintro _ _ ⟨rfl, rfl⟩; exact mem_nil
def cell_Right_b14 (N : Nat) (a0 : DCell) (x14 : Bool × DValue) : (Unit) → Option (Option Exit × Unit)
 |() => (cell_may_O N x14.2).bind fun y17 => bif !y17 then (some (some .ret, ())) else (some (none, ()))
def cell_Right_O (N : Nat) (a0 : DCell) : Option Bool :=
 (bif decide (a0.Kind < 1) then (some true) else (some (decide (11 < a0.Kind)))).bind fun b5 => (bif b5 then (some true) else (some (decide (a0.Shape < 0)))).bind fun b6 => (bif b6 then (some true) else (some (decide (a0.Flags < 0)))).bind fun b7 => (bif b7 then (some true) else (some (decide (63 < a0.Flags)))).bind fun b8 => (bif b8 then (some true) else ((bif !decide (a0.Age = 0) then (some (!decide (a0.Age = 1))) else (some false)).bind fun b10 => some b10)).bind fun b9 => bif b9 then (some false) else ((cell_all_O N a0).bind fun y12 => (cell_all_c1_O N a0 (liftR (fun x st => cell_Right_b14 N a0 x st)) (none, ())).bind fun y15 => caseX y15.1 ((cell_slotsRight_O N a0).bind fun y19 => (bif y19 then ((cell_moreRight_O N a0.Kind a0.More).bind fun y21 => some y21) else (some false)).bind fun b20 => some b20) (some false) (fun _ => none))
theorem cell_Right_ok {N : Nat} {a0 : DCell} {r : Bool} (h : cell_Right_O N a0 = some r) {A1 : Option Addr} {n1 c1 : Nat} {A2 : Option Addr} {n2 c2 : Nat} : Okc Tryz.prog 53 [.agg #[iV a0.Kind, iV a0.Shape, iV a0.Flags, iV a0.Age, .slice A1 n1 c1, .slice A2 n2 c2]] ([kS0 A1 n1 c1 a0.Slots, kS0 A2 n2 c2 a0.More]) (fun (u : Value) (post : List Chunk) => u = .bool r ∧ post = []) := by
 refine ok_E Tryz.func53 rfl rfl ?_
 simp only [envOf]
 refine run ?_
 refine gD (op_box rfl rfl) ?_
 rintro _ _ ⟨B3, rfl, rfl⟩
 refine gD (op_alloc zero4 rfl) ?_
 rintro _ _ ⟨B4, rfl, rfl⟩
 refine run ?_
 refine G_seq ?_
 refine run ?_
 obtain ⟨b5, hb5, h⟩ := bind_elim h
 refine G_segb 4 12 b5 ?_ ?_
 ·clear h
  refine G_case 8 rfl (fun g5 => ?_) (fun g5 => ?_)
  ·have h := cond_t g5 hb5
   refine run ?_
   obtain rfl := Option.some.inj h
   exact G_joined sA (cv_sel [0, 1, 2, 3] 4 rfl rfl)
  ·have h := cond_f g5 hb5
   refine run ?_
   obtain rfl := Option.some.inj h
   exact G_joined sA (cv_sel [0, 1, 2, 3] 4 rfl rfl)
 refine run ?_
 obtain ⟨b6, hb6, h⟩ := bind_elim h
 refine G_segb 4 17 b6 ?_ ?_
 ·clear h
  refine G_case 13 rfl (fun g6 => ?_) (fun g6 => ?_)
  ·have h := cond_t g6 hb6
   refine run ?_
   obtain rfl := Option.some.inj h
   exact G_joined sA (cv_sel [0, 1, 2, 3] 4 rfl rfl)
  ·have h := cond_f g6 hb6
   refine run ?_
   obtain rfl := Option.some.inj h
   exact G_joined sA (cv_sel [0, 1, 2, 3] 4 rfl rfl)
 refine run ?_
 obtain ⟨b7, hb7, h⟩ := bind_elim h
 refine G_segb 4 22 b7 ?_ ?_
 ·clear h
  refine G_case 18 rfl (fun g7 => ?_) (fun g7 => ?_)
  ·have h := cond_t g7 hb7
   refine run ?_
   obtain rfl := Option.some.inj h
   exact G_joined sA (cv_sel [0, 1, 2, 3] 4 rfl rfl)
  ·have h := cond_f g7 hb7
   refine run ?_
   obtain rfl := Option.some.inj h
   exact G_joined sA (cv_sel [0, 1, 2, 3] 4 rfl rfl)
 refine run ?_
 obtain ⟨b8, hb8, h⟩ := bind_elim h
 refine G_segb 4 27 b8 ?_ ?_
 ·clear h
  refine G_case 23 rfl (fun g8 => ?_) (fun g8 => ?_)
  ·have h := cond_t g8 hb8
   refine run ?_
   obtain rfl := Option.some.inj h
   exact G_joined sA (cv_sel [0, 1, 2, 3] 4 rfl rfl)
  ·have h := cond_f g8 hb8
   refine run ?_
   obtain rfl := Option.some.inj h
   exact G_joined sA (cv_sel [0, 1, 2, 3] 4 rfl rfl)
 refine run ?_
 obtain ⟨b9, hb9, h⟩ := bind_elim h
 refine G_segb 9 37 b9 ?_ ?_
 ·clear h
  refine G_case 28 rfl (fun g9 => ?_) (fun g9 => ?_)
  ·have h := cond_t g9 hb9
   refine run ?_
   obtain rfl := Option.some.inj h
   exact G_joined sA (cv_sel [0, 1, 2, 3] 4 rfl rfl)
  ·have h := cond_f g9 hb9
   refine run ?_
   obtain ⟨b10, hb10, h⟩ := bind_elim h
   refine G_segb 4 36 b10 ?_ ?_
   ·clear h
    refine G_case 32 rfl (fun g10 => ?_) (fun g10 => ?_)
    ·have h := cond_t g10 hb10
     refine run ?_
     obtain rfl := Option.some.inj h
     exact G_joined sA (cv_sel [0, 1, 2, 3] 4 rfl rfl)
    ·have h := cond_f g10 hb10
     refine run ?_
     obtain rfl := Option.some.inj h
     exact G_joined sA (cv_sel [0, 1, 2, 3] 4 rfl rfl)
   refine run ?_
   obtain rfl := Option.some.inj h
   exact G_joined sA (cv_sel [0, 1, 2, 3] 4 rfl rfl)
 refine run ?_
 refine G_cond rfl (fun g11 => ?_) (fun g11 => ?_)
 ·replace h := cond_t g11 h
  refine run ?_
  refine gO (op_store (us := [.bool false]) (cs' := [.bool false]) 0 rfl rfl rfl rfl size4 rfl rfl rfl) ?_
  rintro _ _ rfl
  refine run ?_
  obtain rfl := Option.some.inj h
  exact endGl (rs := [.cell 2 4]) (vs := [.bool false]) rfl (.cons (rv_box1 0 rfl rfl one4) .nil) rfl (cv_sel [] 4 rfl rfl) ⟨rfl, rfl⟩
 ·replace h := cond_f g11 h
  refine run ?_
  refine G_seq ?_
  refine run ?_
  refine gR (rd_boxS (us := [iV a0.Kind, iV a0.Shape, iV a0.Flags, iV a0.Age, .slice A1 n1 c1, .slice A2 n2 c2]) 1 rfl rfl agg32 rfl) ?_
  obtain ⟨y12, hy12, h⟩ := bind_elim h
  refine gD (op_callR (cell_all_ok hy12) call109 rfl (mem_cons (lent_ro (i := 2) rfl rfl) (mem_cons (lent_ro (i := 3) rfl rfl) mem_nil)) cell_all_free) ?_
  rintro _ _ ⟨_, ⟨B13, rfl, rfl⟩, rfl⟩
  refine G_nil ?_
  refine nx_n ?_
  refine G_sub ?_ sub_refl (cv_frzbox 0 rfl)
  obtain ⟨y15, hy15, h⟩ := bind_elim h
  refine G_rangeX (en := (fun x => [.bool x.1, .agg #[iV x.2.Kind, iV x.2.N, .string x.2.S]])) (fun x st => cell_Right_b14 N a0 x st) (fun (st : Unit) (mz : Unit) => [kS0 A1 n1 c1 a0.Slots, kS0 A2 n2 c2 a0.More, boxC B3 32 [iV a0.Kind, iV a0.Shape, iV a0.Flags, iV a0.Age, .slice A1 n1 c1, .slice A2 n2 c2], boxC B4 4 [.bool false]]) [rboxC B13 32 [iV a0.Kind, iV a0.Shape, iV a0.Flags, iV a0.Age, .slice A1 n1 c1, .slice A2 n2 c2], kS0 A1 n1 c1 a0.Slots, kS0 A2 n2 c2 a0.More] (()) (()) rfl rfl call162 rfl (fun _ => rfl) (fun l G hY => (cell_all_c1_ok hy15 hY).mono fun _ _ hh => hh.2) (cv_take [0, 3, 4] [] [3, 4, 2, 1] 5 rfl) h ?_ ?_ ?_ ?_
  ·rintro l x14 _ je sr14 _ h
   replace h : cell_Right_b14 N a0 x14 () = some (je, sr14) := h
   simp only [envR, List.zip_cons_cons, List.zip_nil_left, List.zip_nil_right, List.reverse_cons, List.reverse_nil, List.nil_append, List.cons_append]
   refine G_region ?_
   refine gD (op_alloc zero38 rfl) ?_
   rintro _ _ ⟨B16, rfl, rfl⟩
   refine gO (op_store (us := [iV x14.2.Kind, iV x14.2.N, .string x14.2.S]) (cs' := [iV x14.2.Kind, iV x14.2.N, .string x14.2.S]) 0 rfl rfl rfl rfl size38 rfl rfl rfl) ?_
   rintro _ _ rfl
   refine G_norm ([boxC B16 38 [iV x14.2.Kind, iV x14.2.N, .string x14.2.S], kS0 A1 n1 c1 a0.Slots, kS0 A2 n2 c2 a0.More, boxC B3 32 [iV a0.Kind, iV a0.Shape, iV a0.Flags, iV a0.Age, .slice A1 n1 c1, .slice A2 n2 c2], boxC B4 4 [.bool false]]) rfl ?_
   refine run ?_
   refine gR (rd_boxS (us := [iV x14.2.Kind, iV x14.2.N, .string x14.2.S]) 0 rfl rfl agg38 rfl) ?_
   obtain ⟨y17, hy17, h⟩ := bind_elim h
   refine gD (op_callR (cell_may_ok hy17) call110 rfl (mem_nil) cell_may_free) ?_
   rintro _ _ ⟨_, ⟨rfl, rfl⟩, rfl⟩
   refine run ?_
   refine G_cond rfl (fun g18 => ?_) (fun g18 => ?_)
   ·replace h := cond_t g18 h
    refine run ?_
    refine gO (op_store (us := [.bool false]) (cs' := [.bool false]) 4 rfl rfl rfl rfl size4 rfl rfl rfl) ?_
    rintro _ _ rfl
    refine run ?_
    obtain ⟨rfl, rfl⟩ := Prod.mk.inj (Option.some.inj h)
    exact RK_ret ((cv_sel [1, 2, 3, 4] 5 rfl rfl).trans (cv_pack1 () rfl))
   ·replace h := cond_f g18 h
    refine run ?_
    obtain ⟨rfl, rfl⟩ := Prod.mk.inj (Option.some.inj h)
    exact RK_n ((cv_sel [1, 2, 3, 4] 5 rfl rfl).trans (cv_pack1 () rfl))
  ·rintro _ h
   refine K3_norm ([kS0 A1 n1 c1 a0.Slots, kS0 A2 n2 c2 a0.More, boxC B3 32 [iV a0.Kind, iV a0.Shape, iV a0.Flags, iV a0.Age, .slice A1 n1 c1, .slice A2 n2 c2], boxC B4 4 [.bool false]]) rfl ?_
   refine run ?_
   refine gR (rd_boxS (us := [iV a0.Kind, iV a0.Shape, iV a0.Flags, iV a0.Age, .slice A1 n1 c1, .slice A2 n2 c2]) 2 rfl rfl agg32 rfl) ?_
   obtain ⟨y19, hy19, h⟩ := bind_elim h
   refine gD (op_callR (cell_slotsRight_ok hy19) call111 rfl (mem_cons (lent_ro (i := 0) rfl rfl) (mem_cons (lent_ro (i := 1) rfl rfl) mem_nil)) cell_slotsRight_free) ?_
   rintro _ _ ⟨_, ⟨rfl, rfl⟩, rfl⟩
   refine run ?_
   obtain ⟨b20, hb20, h⟩ := bind_elim h
   refine G_segb 6 53 b20 ?_ ?_
   ·clear h
    refine G_case 47 rfl (fun g20 => ?_) (fun g20 => ?_)
    ·have h := cond_t g20 hb20
     refine run ?_
     obtain ⟨y21, hy21, h⟩ := bind_elim h
     refine G_opd (op_callR (cell_moreRight_ok hy21) call112 rfl (mem_cons (lent_ro (i := 1) rfl rfl) mem_nil) cell_moreRight_free) rfl (g_tt g20 rfl) rfl ?_
     rintro _ _ ⟨_, ⟨rfl, rfl⟩, rfl⟩
     refine run ?_
     obtain rfl := Option.some.inj h
     exact G_joined sA (cv_sel [0, 1, 2, 3] 4 rfl rfl)
    ·have h := cond_f g20 hb20
     refine run ?_
     obtain rfl := Option.some.inj h
     exact G_joined sA (cv_sel [0, 1, 2, 3] 4 rfl rfl)
   refine gO (op_store (us := [.bool b20]) (cs' := [.bool b20]) 3 rfl rfl rfl rfl size4 rfl rfl rfl) ?_
   rintro _ _ rfl
   refine run ?_
   obtain rfl := Option.some.inj h
   exact endGl (rs := [.cell 2 4]) (vs := [.bool b20]) rfl (.cons (rv_box1 3 rfl rfl one4) .nil) rfl (cv_sel [] 4 rfl rfl) ⟨rfl, rfl⟩
  ·rintro _ h
   refine K3_norm ([kS0 A1 n1 c1 a0.Slots, kS0 A2 n2 c2 a0.More, boxC B3 32 [iV a0.Kind, iV a0.Shape, iV a0.Flags, iV a0.Age, .slice A1 n1 c1, .slice A2 n2 c2], boxC B4 4 [.bool false]]) rfl ?_
   refine run ?_
   obtain rfl := Option.some.inj h
   exact endGl (rs := [.cell 2 4]) (vs := [.bool false]) rfl (.cons (rv_box1 3 rfl rfl one4) .nil) rfl (cv_sel [] 4 rfl rfl) ⟨rfl, rfl⟩
  ·rintro i _ h
   exact none_some h
theorem cell_Right_free {r : Bool} : ∀ v post, ((fun (u : Value) (post : List Chunk) => u = .bool r ∧ post = [])) v post → ∀ c ∈ post, Free c := by
 rintro _ _ ⟨rfl, rfl⟩; exact mem_nil
def weak_is_O (N : Nat) (a0 : DCell) : Option Bool :=
 (bif decide (a0.Kind = 8) then ((cell_Right_O N a0).bind fun y5 => some y5) else (some false)).bind fun b4 => some b4
theorem weak_is_ok {N : Nat} {a0 : DCell} {r : Bool} (h : weak_is_O N a0 = some r) {A1 : Option Addr} {n1 c1 : Nat} {A2 : Option Addr} {n2 c2 : Nat} : Okc Tryz.prog 132 [.agg #[iV a0.Kind, iV a0.Shape, iV a0.Flags, iV a0.Age, .slice A1 n1 c1, .slice A2 n2 c2]] ([kS0 A1 n1 c1 a0.Slots, kS0 A2 n2 c2 a0.More]) (fun (u : Value) (post : List Chunk) => u = .bool r ∧ post = []) := by
 refine ok_E Tryz.func132 rfl rfl ?_
 simp only [envOf]
 refine run ?_
 refine gD (op_box rfl rfl) ?_
 rintro _ _ ⟨B3, rfl, rfl⟩
 refine run ?_
 obtain ⟨b4, hb4, h⟩ := bind_elim h
 refine G_segb 3 9 b4 ?_ ?_
 ·clear h
  refine G_case 6 rfl (fun g4 => ?_) (fun g4 => ?_)
  ·have h := cond_t g4 hb4
   refine G_rd (rd_boxS (us := [iV a0.Kind, iV a0.Shape, iV a0.Flags, iV a0.Age, .slice A1 n1 c1, .slice A2 n2 c2]) 0 rfl rfl agg32 rfl) rfl (g_tt g4 rfl) rfl ?_
   obtain ⟨y5, hy5, h⟩ := bind_elim h
   refine G_opd (op_callR (cell_Right_ok hy5) call53 rfl (mem_cons (lent_ro (i := 1) rfl rfl) (mem_cons (lent_ro (i := 2) rfl rfl) mem_nil)) cell_Right_free) rfl (g_tt g4 rfl) rfl ?_
   rintro _ _ ⟨_, ⟨rfl, rfl⟩, rfl⟩
   refine run ?_
   obtain rfl := Option.some.inj h
   exact G_joined sA (cv_sel [0, 1, 2] 3 rfl rfl)
  ·have h := cond_f g4 hb4
   refine run ?_
   obtain rfl := Option.some.inj h
   exact G_joined sA (cv_sel [0, 1, 2] 3 rfl rfl)
 refine run ?_
 obtain rfl := Option.some.inj h
 exact endG1 rfl rfl (cv_sel [] 3 rfl rfl) ⟨rfl, rfl⟩
theorem weak_is_free {r : Bool} : ∀ v post, ((fun (u : Value) (post : List Chunk) => u = .bool r ∧ post = [])) v post → ∀ c ∈ post, Free c := by
 rintro _ _ ⟨rfl, rfl⟩; exact mem_nil
def weak_entries_c1_l4 (N : Nat) {σ : Type} (fy : (DValue × DValue) → σ → Option (Bool × σ)) (a1 : DCell) : Nat → Int → σ → Option σ
 | 0, _, _ => none
 | m4 + 1, p5, p6 => req (in64 (p5 + 1)) (bif decide (p5 + 1 < (a1.More.length : Int)) then ((getE a1.More p5).bind fun x9 => req (in64 (p5 + 1)) ((getE a1.More (p5 + 1)).bind fun x11 => (fy (x9, x11) p6).bind fun y12 => bif !y12.1 then (some y12.2) else (req (in64 (p5 + 2)) ((weak_entries_c1_l4 N fy a1 m4) (p5 + 2) y12.2)))) else (some p6))
theorem weak_entries_c1_l4_s {N m4 : Nat} {σ : Type} {fy : (DValue × DValue) → σ → Option (Bool × σ)} {a1 : DCell} {p5 : Int} {p6 : σ} : weak_entries_c1_l4 N fy a1 (m4 + 1) p5 p6 = req (in64 (p5 + 1)) (bif decide (p5 + 1 < (a1.More.length : Int)) then ((getE a1.More p5).bind fun x9 => req (in64 (p5 + 1)) ((getE a1.More (p5 + 1)).bind fun x11 => (fy (x9, x11) p6).bind fun y12 => bif !y12.1 then (some y12.2) else (req (in64 (p5 + 2)) ((weak_entries_c1_l4 N fy a1 m4) (p5 + 2) y12.2)))) else (some p6)) := rfl
def weak_entries_c1_O (N : Nat) {σ : Type} (a1 : DCell) (fy : (DValue × DValue) → σ → Option (Bool × σ)) (s0 : σ) : Option σ :=
 weak_entries_c1_l4 N fy a1 N 0 s0
theorem weak_entries_c1_ok {N : Nat} {σ : Type} {a1 : DCell} {fy : (DValue × DValue) → σ → Option (Bool × σ)} {s0 : σ} {r : σ} (h : weak_entries_c1_O N a1 fy s0 = some r) {B1 : Nat} {A2 : Option Addr} {n2 c2 : Nat} {A3 : Option Addr} {n3 c3 : Nat} {l : Nat} {G : σ → List Chunk} (hY : YieldOk Tryz.prog l G (fun x => [.agg #[iV x.1.Kind, iV x.1.N, .string x.1.S], .agg #[iV x.2.Kind, iV x.2.N, .string x.2.S]]) fy) : Okc Tryz.prog 198 [.func (.yield l) #[] #[], pV B1 0] (rboxC B1 32 [iV a1.Kind, iV a1.Shape, iV a1.Flags, iV a1.Age, .slice A2 n2 c2, .slice A3 n3 c3] :: kS0 A2 n2 c2 a1.Slots :: kS0 A3 n3 c3 a1.More :: (G s0)) (fun (u : Value) (post : List Chunk) => u = .tuple #[] ∧ post = G r) := by
 refine ok_E Tryz.func198 rfl rfl ?_
 simp only [envOf]
 refine run ?_
 refine G_loopF (fun m s L => ∃ (p5 : Int) (p6 : σ), weak_entries_c1_l4 N fy a1 m p5 p6 = some r ∧ s = [(0, .func (.yield l) #[] #[]), (1, pV B1 0), (3, iV p5)] ∧ L = kS0 A2 n2 c2 a1.Slots :: kS0 A3 n3 c3 a1.More :: rboxC B1 32 [iV a1.Kind, iV a1.Shape, iV a1.Flags, iV a1.Age, .slice A2 n2 c2, .slice A3 n3 c3] :: (G p6)) N _ _ ⟨0, s0, h, rfl, rfl⟩ sA (cv_sel [1, 2, 0] 3 rfl rfl) ?_
 rintro (_ | m4) _ _ ⟨p5, p6, h, rfl, rfl⟩
 ·exact none_some h
 rw [weak_entries_c1_l4_s] at h
 refine G_seq ?_
 refine run ?_
 obtain ⟨q7, h⟩ := req_elim h
 refine gE (ev_add rfl rfl q7.1 q7.2) ?_
 refine run ?_
 refine gR (rd_rbox1 2 rfl rfl one25 rfl) ?_
 refine gR (rd_len 1 rfl els_sl rfl Tryz.underlying25) ?_
 refine run ?_
 refine G_cond rfl (fun g8 => ?_) (fun g8 => ?_)
 ·replace h := cond_t g8 h
  refine run ?_
  refine G_seq ?_
  refine G_block ?_
  refine G_seq ?_
  obtain ⟨x9, hx9, h⟩ := bind_elim h
  obtain ⟨lx9, ux9, hx9⟩ := getE_elim hx9
  obtain ⟨q10, h⟩ := req_elim h
  obtain ⟨x11, hx11, h⟩ := bind_elim h
  obtain ⟨lx11, ux11, hx11⟩ := getE_elim hx11
  refine G_sub (t := [(0, .func (.yield l) #[] #[]), (1, pV B1 0), (3, iV p5)]) ?_ subT (cv_refl _)
  refine G_monoX (by kernel_rfl) 12 [] [0, 5, 11] [12, 13, 14, 15, 16, 17, 18, 19, 20, 21, 22, 23] [[], [], [1], [], [2, 3], [4], [], [6], [], [8], [7, 9], [10]] [aV (.func (.yield l) #[] #[]),
 aV (pV B1 5),
 aV (.slice A3 n3 c3),
 aV (iV p5),
 aV (elemQ (.slice A3 n3 c3) p5.toNat 3 0),
 aV (.agg #[iV x9.Kind, iV x9.N, .string x9.S]),
 aV (pV B1 5),
 aV (.slice A3 n3 c3),
 aV (iV p5),
 aV (iV (p5 + 1)),
 aV (elemQ (.slice A3 n3 c3) ((p5 + 1).toNat) 3 0),
 aV (.agg #[iV x11.Kind, iV x11.N, .string x11.S])] [] (cv_refl _) (qB_nil) (by kernel_rfl) rfl rfl ?_ ?_ ?_
  ·exact qs_nil
  ·refine steps_cons rfl ?_ ?_
   ·exact X_rd (rd_elemS (us := [iV x11.Kind, iV x11.N, .string x11.S]) 1 rfl els_sl rfl hx11 agg38 (fun _ _ _ h => by rw [show _ = _ from h]; rfl)) rfl (cvpV rfl (cv_refl _))
   refine steps_cons rfl ?_ ?_
   ·exact X_rd (rd_idx 1 rfl els_sl rfl rfl Tryz.underlying25 size38 lx11 ux11) rfl (cvpV rfl (cv_refl _))
   refine steps_cons rfl ?_ ?_
   ·exact X_ev (ev_add rfl rfl q10.1 q10.2) rfl (cvpV rfl (cv_refl _))
   refine steps_cons rfl ?_ ?_
   ·exact X_ev (ev_move rfl) rfl (cvpV rfl (cv_refl _))
   refine steps_cons rfl ?_ ?_
   ·exact X_rd (rd_rbox1 2 rfl rfl one25 rfl) rfl (cvpV rfl (cv_refl _))
   refine steps_cons rfl ?_ ?_
   ·exact X_ev (ev_fa rfl fa_32_5) rfl (cvpV rfl (cv_refl _))
   refine steps_cons rfl ?_ ?_
   ·exact X_rd (rd_elemS (us := [iV x9.Kind, iV x9.N, .string x9.S]) 1 rfl els_sl rfl hx9 agg38 (fun _ _ _ h => by rw [show _ = _ from h]; rfl)) rfl (cvpV rfl (cv_refl _))
   refine steps_cons rfl ?_ ?_
   ·exact X_rd (rd_idx 1 rfl els_sl rfl rfl Tryz.underlying25 size38 lx9 ux9) rfl (cvpV rfl (cv_refl _))
   refine steps_cons rfl ?_ ?_
   ·exact X_ev (ev_move rfl) rfl (cvpV rfl (cv_refl _))
   refine steps_cons rfl ?_ ?_
   ·exact X_rd (rd_rbox1 2 rfl rfl one25 rfl) rfl (cvpV rfl (cv_refl _))
   refine steps_cons rfl ?_ ?_
   ·exact X_ev (ev_fa rfl fa_32_5) rfl (cvpV rfl (cv_refl _))
   refine steps_cons rfl ?_ ?_
   ·exact X_ev (ev_move rfl) rfl (cvpV rfl (cv_refl _))
   exact steps_nil
  ·refine N_sub (t := [(12, .func (.yield l) #[] #[]), (17, .agg #[iV x9.Kind, iV x9.N, .string x9.S]), (23, .agg #[iV x11.Kind, iV x11.N, .string x11.S]), (0, .func (.yield l) #[] #[]), (1, pV B1 0), (3, iV p5)]) (L' := kS0 A2 n2 c2 a1.Slots :: kS0 A3 n3 c3 a1.More :: rboxC B1 32 [iV a1.Kind, iV a1.Shape, iV a1.Flags, iV a1.Age, .slice A2 n2 c2, .slice A3 n3 c3] :: (G p6)) ?_ subT (cv_refl _)
   obtain ⟨y12, hy12, h⟩ := bind_elim h
   refine N_opd 12 rfl (by kernel_rfl) (op_yieldE (a := (x9, x11)) [kS0 A2 n2 c2 a1.Slots, kS0 A3 n3 c3 a1.More, rboxC B1 32 [iV a1.Kind, iV a1.Shape, iV a1.Flags, iV a1.Age, .slice A2 n2 c2, .slice A3 n3 c3]] hY hy12 rfl rfl) rfl rfl rfl ?_
   rintro _ _ ⟨rfl, rfl⟩
   refine N_ev 13 rfl (by kernel_rfl) (ev_not rfl) rfl rfl rfl ?_
   refine N_done (by kernel_rfl) ?_
   refine nx_n ?_
   refine G_cond rfl (fun g13 => ?_) (fun g13 => ?_)
   ·replace h := cond_t g13 h
    refine run ?_
    obtain rfl := Option.some.inj h
    exact endG0 rfl (cv_sel [] 3 rfl rfl) ⟨rfl, rfl⟩
   ·replace h := cond_f g13 h
    refine run ?_
    obtain ⟨q14, h⟩ := req_elim h
    refine gE (ev_add rfl rfl q14.1 q14.2) ?_
    refine run ?_
    exact ⟨m4, _, _, Nat.lt_succ_self _, ⟨p5 + 2, y12.2, h, rfl, rfl⟩, sA, cv_sel [0, 1, 2] 3 rfl rfl⟩
 ·replace h := cond_f g8 h
  refine run ?_
  obtain rfl := Option.some.inj h
  exact endG0n rfl (cv_sel [] 3 rfl rfl) ⟨rfl, rfl⟩
def weak_entries_O (N : Nat) (a0 : DCell) : Option Unit :=
 some ()
theorem weak_entries_ok {N : Nat} {a0 : DCell} {r : Unit} (h : weak_entries_O N a0 = some r) {A1 : Option Addr} {n1 c1 : Nat} {A2 : Option Addr} {n2 c2 : Nat} : Okc Tryz.prog 179 [.agg #[iV a0.Kind, iV a0.Shape, iV a0.Flags, iV a0.Age, .slice A1 n1 c1, .slice A2 n2 c2]] ([kS0 A1 n1 c1 a0.Slots, kS0 A2 n2 c2 a0.More]) (fun (u : Value) (post : List Chunk) => ∃ B900, u = .func (.func 198) #[] #[pV B900 0] ∧ post = [boxC B900 32 [iV a0.Kind, iV a0.Shape, iV a0.Flags, iV a0.Age, .slice A1 n1 c1, .slice A2 n2 c2]]) := by
 refine ok_E Tryz.func179 rfl rfl ?_
 simp only [envOf]
 refine run ?_
 refine gD (op_box rfl rfl) ?_
 rintro _ _ ⟨B3, rfl, rfl⟩
 refine run ?_
 refine gE (ev_makeFunc rfl) ?_
 refine run ?_
 obtain rfl := Option.some.inj h
 exact endG1 rfl rfl (cv_sel [0] 3 rfl rfl) ⟨_, rfl, rfl⟩
theorem weak_entries_free {a0 : DCell} {A1 : Option Addr} {n1 : Nat} {c1 : Nat} {A2 : Option Addr} {n2 : Nat} {c2 : Nat} : ∀ v post, ((fun (u : Value) (post : List Chunk) => ∃ B900, u = .func (.func 198) #[] #[pV B900 0] ∧ post = [boxC B900 32 [iV a0.Kind, iV a0.Shape, iV a0.Flags, iV a0.Age, .slice A1 n1 c1, .slice A2 n2 c2]])) v post → ∀ c ∈ post, Free c := by
 rintro _ _ ⟨_, rfl, rfl⟩; exact mem_cons free_box (mem_nil)
def slices_Index_j2 (N : Nat) : Option Int :=
 some (-1)
def slices_Index_l3 (N : Nat) (a1 : Int) (a0 : (List Int)) : Nat → Int → Option Int
 | 0, _ => none
 | m3 + 1, p4 => bif decide (p4 < (a0.length : Int)) then ((getE a0 p4).bind fun x6 => bif decide (a1 = x6) then (some p4) else (req (in64 (p4 + 1)) ((slices_Index_l3 N a1 a0 m3) (p4 + 1)))) else (slices_Index_j2 N)
theorem slices_Index_l3_s {N m3 : Nat} {a1 : Int} {a0 : (List Int)} {p4 : Int} : slices_Index_l3 N a1 a0 (m3 + 1) p4 = bif decide (p4 < (a0.length : Int)) then ((getE a0 p4).bind fun x6 => bif decide (a1 = x6) then (some p4) else (req (in64 (p4 + 1)) ((slices_Index_l3 N a1 a0 m3) (p4 + 1)))) else (slices_Index_j2 N) := rfl
def slices_Index_O (N : Nat) (a0 : (List Int)) (a1 : Int) : Option Int :=
 slices_Index_l3 N a1 a0 N 0
theorem slices_Index_ok {N : Nat} {a0 : (List Int)} {a1 : Int} {r : Int} (h : slices_Index_O N a0 a1 = some r) {A1 : Option Addr} {n1 c1 : Nat} : Okc Tryz.prog 159 [.slice A1 n1 c1, iV a1] ([kS5 A1 n1 c1 a0]) (fun (u : Value) (post : List Chunk) => u = iV r ∧ post = []) := by
 refine ok_E Tryz.func159 rfl rfl ?_
 simp only [envOf]
 refine run ?_
 refine G_joinF (fun s L => slices_Index_j2 N = some r ∧ s = [(4, iV 0)] ∧ L = []) ?_ ?_
 ·refine run ?_
  refine gR (rd_len 0 rfl els_sl rfl Tryz.underlying35) ?_
  refine run ?_
  refine G_loopF (fun m s L => ∃ (p4 : Int), slices_Index_l3 N a1 a0 m p4 = some r ∧ s = [(0, .slice A1 n1 c1), (1, iV a1), (4, iV 0), (7, iV (a0.length : Int)), (8, iV p4)] ∧ L = [kS5 A1 n1 c1 a0]) N _ _ ⟨0, h, rfl, rfl⟩ sA (cv_sel [0] 1 rfl rfl) ?_
  rintro (_ | m3) _ _ ⟨p4, h, rfl, rfl⟩
  ·exact none_some h
  rw [slices_Index_l3_s] at h
  refine run ?_
  refine G_seq ?_
  refine G_cond rfl (fun g5 => ?_) (fun g5 => ?_)
  ·replace h := cond_t g5 h
   refine run ?_
   refine G_seq ?_
   refine run ?_
   obtain ⟨x6, hx6, h⟩ := bind_elim h
   obtain ⟨lx6, ux6, hx6⟩ := getE_elim hx6
   refine gR (rd_idx 0 rfl els_sl rfl rfl Tryz.underlying35 size3 lx6 ux6) ?_
   refine gR (rd_elem1 (u := iV x6) 0 rfl els_sl rfl hx6 one3 (fun _ _ _ h => by rw [show _ = _ from h]; rfl)) ?_
   refine run ?_
   refine G_cond rfl (fun g7 => ?_) (fun g7 => ?_)
   ·replace h := cond_t g7 h
    refine run ?_
    obtain rfl := Option.some.inj h
    exact endG1 rfl rfl (cv_sel [] 1 rfl rfl) ⟨rfl, rfl⟩
   ·replace h := cond_f g7 h
    refine run ?_
    obtain ⟨q8, h⟩ := req_elim h
    refine gE (ev_add rfl rfl q8.1 q8.2) ?_
    refine run ?_
    exact ⟨m3, _, _, Nat.lt_succ_self _, ⟨p4 + 1, h, rfl, rfl⟩, sA, cv_sel [0] 1 rfl rfl⟩
  ·replace h := cond_f g5 h
   refine run ?_
   exact ⟨_, _, ⟨h, rfl, rfl⟩, sA, cv_sel [] 1 rfl rfl⟩
 ·rintro _ _ ⟨h, rfl, rfl⟩
  refine run ?_
  obtain rfl := Option.some.inj h
  exact endG1 rfl rfl (cv_sel [] 0 rfl rfl) ⟨rfl, rfl⟩
theorem slices_Index_free {r : Int} : ∀ v post, ((fun (u : Value) (post : List Chunk) => u = iV r ∧ post = [])) v post → ∀ c ∈ post, Free c := by
 rintro _ _ ⟨rfl, rfl⟩; exact mem_nil
def slices_Contains_O (N : Nat) (a0 : (List Int)) (a1 : Int) : Option Bool :=
 (slices_Index_O N a0 a1).bind fun y2 => some (decide (0 ≤ y2))
theorem slices_Contains_ok {N : Nat} {a0 : (List Int)} {a1 : Int} {r : Bool} (h : slices_Contains_O N a0 a1 = some r) {A1 : Option Addr} {n1 c1 : Nat} : Okc Tryz.prog 101 [.slice A1 n1 c1, iV a1] ([kS5 A1 n1 c1 a0]) (fun (u : Value) (post : List Chunk) => u = .bool r ∧ post = []) := by
 refine ok_E Tryz.func101 rfl rfl ?_
 simp only [envOf]
 refine run ?_
 obtain ⟨y2, hy2, h⟩ := bind_elim h
 refine gD (op_callR (slices_Index_ok hy2) call159 rfl (mem_cons (lent_ro (i := 0) rfl rfl) mem_nil) slices_Index_free) ?_
 rintro _ _ ⟨_, ⟨rfl, rfl⟩, rfl⟩
 refine run ?_
 obtain rfl := Option.some.inj h
 exact endG1 rfl rfl (cv_sel [] 1 rfl rfl) ⟨rfl, rfl⟩
theorem slices_Contains_free {r : Bool} : ∀ v post, ((fun (u : Value) (post : List Chunk) => u = .bool r ∧ post = [])) v post → ∀ c ∈ post, Free c := by
 rintro _ _ ⟨rfl, rfl⟩; exact mem_nil
def weak_Opens_b12 (N : Nat) (a1 : (List Int)) (x12 : DValue × DValue) : ((List Int)) → Option (Option Exit × (List Int))
 | p13 => (bif decide (x12.2.Kind = 7) then (some true) else (some (decide (x12.2.Kind = 9)))).bind fun b18 => (bif b18 then ((slices_Contains_O N a1 x12.1.N).bind fun y20 => some y20) else (some false)).bind fun b19 => bif b19 then (req (fitsL (p13.length + ([x12.2.N] : List Int).length)) (some (none, p13 ++ ([x12.2.N] : List Int)))) else (some (none, p13))
def weak_Opens_O (N : Nat) (a0 : DCell) (a1 : (List Int)) : Option (List Int) :=
 (weak_is_O N a0).bind fun y6 => bif !y6 then (some []) else ((weak_entries_O N a0).bind fun y10 => (weak_entries_c1_O N a0 (liftR (fun x st => weak_Opens_b12 N a1 x st)) (none, [])).bind fun y14 => caseX y14.1 (some y14.2) none (fun _ => none))
theorem weak_Opens_ok {N : Nat} {a0 : DCell} {a1 : (List Int)} {r : (List Int)} (h : weak_Opens_O N a0 a1 = some r) {A1 : Option Addr} {n1 c1 : Nat} {A2 : Option Addr} {n2 c2 : Nat} {A3 : Option Addr} {n3 c3 : Nat} : Okc Tryz.prog 122 [.agg #[iV a0.Kind, iV a0.Shape, iV a0.Flags, iV a0.Age, .slice A1 n1 c1, .slice A2 n2 c2], .slice A3 n3 c3] ([kS0 A1 n1 c1 a0.Slots, kS0 A2 n2 c2 a0.More, kS5 A3 n3 c3 a1]) (fun (u : Value) (post : List Chunk) => ∃ A0 n0 c0, u = .slice A0 n0 c0 ∧ post = [kO2 A0 n0 c0 r]) := by
 refine ok_E Tryz.func122 rfl rfl ?_
 simp only [envOf]
 refine run ?_
 refine gD (op_box rfl rfl) ?_
 rintro _ _ ⟨B4, rfl, rfl⟩
 refine gD (op_box rfl rfl) ?_
 rintro _ _ ⟨B5, rfl, rfl⟩
 refine run ?_
 refine G_seq ?_
 refine run ?_
 refine gR (rd_boxS (us := [iV a0.Kind, iV a0.Shape, iV a0.Flags, iV a0.Age, .slice A1 n1 c1, .slice A2 n2 c2]) 1 rfl rfl agg32 rfl) ?_
 obtain ⟨y6, hy6, h⟩ := bind_elim h
 refine gD (op_callR (weak_is_ok hy6) call132 rfl (mem_cons (lent_ro (i := 2) rfl rfl) (mem_cons (lent_ro (i := 3) rfl rfl) mem_nil)) weak_is_free) ?_
 rintro _ _ ⟨_, ⟨rfl, rfl⟩, rfl⟩
 refine run ?_
 refine G_cond rfl (fun g7 => ?_) (fun g7 => ?_)
 ·replace h := cond_t g7 h
  refine run ?_
  obtain rfl := Option.some.inj h
  exact endG1 rfl rfl ((cv_nil (rInt .i64) 3 _).trans (cv_sel [0] 6 rfl rfl)) ⟨_, _, _, rfl, rfl⟩
 ·replace h := cond_f g7 h
  refine run ?_
  refine gD (op_alloc zero35 rfl) ?_
  rintro _ _ ⟨B9, rfl, rfl⟩
  refine run ?_
  refine G_seq ?_
  refine run ?_
  refine gR (rd_boxS (us := [iV a0.Kind, iV a0.Shape, iV a0.Flags, iV a0.Age, .slice A1 n1 c1, .slice A2 n2 c2]) 2 rfl rfl agg32 rfl) ?_
  obtain ⟨y10, hy10, h⟩ := bind_elim h
  refine gD (op_callR (weak_entries_ok hy10) call179 rfl (mem_cons (lent_ro (i := 3) rfl rfl) (mem_cons (lent_ro (i := 4) rfl rfl) mem_nil)) weak_entries_free) ?_
  rintro _ _ ⟨_, ⟨B11, rfl, rfl⟩, rfl⟩
  refine G_nil ?_
  refine nx_n ?_
  refine G_sub ?_ sub_refl (cv_frzbox 0 rfl)
  obtain ⟨y14, hy14, h⟩ := bind_elim h
  refine G_rangeX (en := (fun x => [.agg #[iV x.1.Kind, iV x.1.N, .string x.1.S], .agg #[iV x.2.Kind, iV x.2.N, .string x.2.S]])) (fun x st => weak_Opens_b12 N a1 x st) (fun (st : (List Int)) (mz : ((Option Addr × Nat × Nat))) => [kS5 A3 n3 c3 a1, boxC B5 35 [.slice A3 n3 c3], ownC (rInt .i64) 3 (.slice mz.1 mz.2.1 mz.2.2) st, boxC B9 35 [.slice mz.1 mz.2.1 mz.2.2]]) [rboxC B11 32 [iV a0.Kind, iV a0.Shape, iV a0.Flags, iV a0.Age, .slice A1 n1 c1, .slice A2 n2 c2], kS0 A1 n1 c1 a0.Slots, kS0 A2 n2 c2 a0.More] ([]) ((none, 0, 0)) rfl rfl call198 rfl (fun _ => rfl) (fun l G hY => (weak_entries_c1_ok hy14 hY).mono fun _ _ hh => hh.2) ((cv_nil (rInt .i64) 3 _).trans (cv_take [1, 5, 6] [] [7, 3, 0, 2] 8 rfl)) h ?_ ?_ ?_ ?_
  ·rintro l x12 p13 je sr12 ⟨A13, n13, c13⟩ h
   replace h : weak_Opens_b12 N a1 x12 p13 = some (je, sr12) := h
   simp only [envR, List.zip_cons_cons, List.zip_nil_left, List.zip_nil_right, List.reverse_cons, List.reverse_nil, List.nil_append, List.cons_append]
   refine run ?_
   refine gD (op_alloc zero38 rfl) ?_
   rintro _ _ ⟨B16, rfl, rfl⟩
   refine gO (op_store (us := [iV x12.1.Kind, iV x12.1.N, .string x12.1.S]) (cs' := [iV x12.1.Kind, iV x12.1.N, .string x12.1.S]) 0 rfl rfl rfl rfl size38 rfl rfl rfl) ?_
   rintro _ _ rfl
   refine run ?_
   refine gD (op_alloc zero38 rfl) ?_
   rintro _ _ ⟨B17, rfl, rfl⟩
   refine gO (op_store (us := [iV x12.2.Kind, iV x12.2.N, .string x12.2.S]) (cs' := [iV x12.2.Kind, iV x12.2.N, .string x12.2.S]) 0 rfl rfl rfl rfl size38 rfl rfl rfl) ?_
   rintro _ _ rfl
   refine G_norm ([boxC B17 38 [iV x12.2.Kind, iV x12.2.N, .string x12.2.S], boxC B16 38 [iV x12.1.Kind, iV x12.1.N, .string x12.1.S], kS5 A3 n3 c3 a1, boxC B5 35 [.slice A3 n3 c3], kO2 A13 n13 c13 p13, boxC B9 35 [.slice A13 n13 c13]]) rfl ?_
   refine run ?_
   obtain ⟨b18, hb18, h⟩ := bind_elim h
   refine G_segb 4 22 b18 ?_ ?_
   ·clear h
    refine G_case 18 rfl (fun g18 => ?_) (fun g18 => ?_)
    ·have h := cond_t g18 hb18
     refine run ?_
     obtain rfl := Option.some.inj h
     exact G_joined sA (cv_sel [0, 1, 2, 3, 4, 5] 6 rfl rfl)
    ·have h := cond_f g18 hb18
     refine run ?_
     obtain rfl := Option.some.inj h
     exact G_joined sA (cv_sel [0, 1, 2, 3, 4, 5] 6 rfl rfl)
   refine run ?_
   obtain ⟨b19, hb19, h⟩ := bind_elim h
   refine G_segb 5 28 b19 ?_ ?_
   ·clear h
    refine G_case 23 rfl (fun g19 => ?_) (fun g19 => ?_)
    ·have h := cond_t g19 hb19
     refine run ?_
     obtain ⟨y20, hy20, h⟩ := bind_elim h
     refine G_opd (op_callR (slices_Contains_ok hy20) call101 rfl (mem_cons (lent_ro (i := 2) rfl rfl) mem_nil) slices_Contains_free) rfl (g_tt g19 rfl) rfl ?_
     rintro _ _ ⟨_, ⟨rfl, rfl⟩, rfl⟩
     refine run ?_
     obtain rfl := Option.some.inj h
     exact G_joined sA (cv_sel [0, 1, 2, 3, 4, 5] 6 rfl rfl)
    ·have h := cond_f g19 hb19
     refine run ?_
     obtain rfl := Option.some.inj h
     exact G_joined sA (cv_sel [0, 1, 2, 3, 4, 5] 6 rfl rfl)
   refine run ?_
   refine G_cond rfl (fun g21 => ?_) (fun g21 => ?_)
   ·replace h := cond_t g21 h
    refine run ?_
    refine gD (op_bslice (R := (rInt .i64)) (vss := [[iV x12.2.N]]) (xs := [x12.2.N]) rfl (bsl_35_1 _) rfl rfl (fun _ _ hr => .cons rfl All2.nil)) ?_
    rintro _ _ ⟨A22, n22, c22, rfl, rfl⟩
    obtain ⟨q23, h⟩ := req_elim h
    refine gD (op_append 5 0 rfl rfl els_own rfl rfl Tryz.underlying35 zb3 rfl rfl q23) ?_
    rintro _ _ ⟨A24, n24, c24, rfl, rfl⟩
    refine gO (op_store (us := [.slice A24 n24 c24]) (cs' := [.slice A24 n24 c24]) 6 rfl rfl rfl rfl size35 rfl rfl rfl) ?_
    rintro _ _ rfl
    refine run ?_
    obtain ⟨rfl, rfl⟩ := Prod.mk.inj (Option.some.inj h)
    exact RK_n ((cv_sel [3, 4, 5, 6] 7 rfl rfl).trans (cv_pack1 (A24, n24, c24) rfl))
   ·replace h := cond_f g21 h
    refine run ?_
    obtain ⟨rfl, rfl⟩ := Prod.mk.inj (Option.some.inj h)
    exact RK_n ((cv_sel [2, 3, 4, 5] 6 rfl rfl).trans (cv_pack1 (A13, n13, c13) rfl))
  ·rintro ⟨A13, n13, c13⟩ h
   refine K3_norm ([kS5 A3 n3 c3 a1, boxC B5 35 [.slice A3 n3 c3], kO2 A13 n13 c13 y14.2, boxC B9 35 [.slice A13 n13 c13]]) rfl ?_
   refine run ?_
   obtain rfl := Option.some.inj h
   exact endG1 rfl rfl (cv_sel [2] 4 rfl rfl) ⟨_, _, _, rfl, rfl⟩
  ·rintro ⟨A13, n13, c13⟩ h
   exact none_some h
  ·rintro i ⟨A13, n13, c13⟩ h
   exact none_some h
theorem weak_Opens_free {r : (List Int)} : ∀ v post, ((fun (u : Value) (post : List Chunk) => ∃ A0 n0 c0, u = .slice A0 n0 c0 ∧ post = [kO2 A0 n0 c0 r])) v post → ∀ c ∈ post, Free c := by
 rintro _ _ ⟨_, _, _, rfl, rfl⟩; exact mem_cons free_own (mem_nil)
def reach_row_pass_j6 (N : Nat) (a0 : DRow) (p7 : (List DCell)) (p8 : (List DCell)) (p9 : (List Int)) (p10 : (List (Int × Unit))) (p11 : Int) : Option (Bool × DRow) :=
 some (decide ((a0.all_.length : Int) < (p9.length : Int)), (⟨(⟨p7, p8⟩ : DMemory), p9, p10, p11⟩ : DRow))
def reach_row_pass_j21 (N : Nat) (kb13 : Int → (List DCell) → (List DCell) → (List Int) → (List (Int × Unit)) → Int → Option (Bool × DRow)) (a0 : DRow) (p14 : Int) (p22 : (List DCell)) (p23 : (List DCell)) (p24 : (List Int)) (p25 : (List (Int × Unit))) (p26 : Int) : Option (Bool × DRow) :=
 req (in64 (p14 + 1)) (kb13 (p14 + 1) p22 p23 p24 p25 p26)
def reach_row_pass_l13 (N : Nat) (a0 : DRow) : Nat → Int → (List DCell) → (List DCell) → (List Int) → (List (Int × Unit)) → Int → Option (Bool × DRow)
 | 0, _, _, _, _, _, _ => none
 | m13 + 1, p14, p15, p16, p17, p18, p19 => bif decide (p14 < ((List.take a0.all_.length a0.all_).length : Int)) then ((getE (List.take a0.all_.length p17) p14).bind fun x27 => (reach_At_O N (⟨p15, p16⟩ : DMemory) x27).bind fun y28 => bif decide (y28.Kind = 8) then ((weak_Opens_O N y28 p17).bind fun y33 => (reach_row_lay_O N (⟨(⟨p15, p16⟩ : DMemory), p17, p18, p19⟩ : DRow) y33).bind fun y35 => reach_row_pass_j21 N (reach_row_pass_l13 N a0 m13) a0 p14 y35.m_.Young y35.m_.Old y35.all_ y35.met_ y35.done_) else (reach_row_pass_j21 N (reach_row_pass_l13 N a0 m13) a0 p14 p15 p16 p17 p18 p19)) else (reach_row_pass_j6 N a0 p15 p16 p17 p18 p19)
theorem reach_row_pass_l13_s {N m13 : Nat} {a0 : DRow} {p14 : Int} {p15 : (List DCell)} {p16 : (List DCell)} {p17 : (List Int)} {p18 : (List (Int × Unit))} {p19 : Int} : reach_row_pass_l13 N a0 (m13 + 1) p14 p15 p16 p17 p18 p19 = bif decide (p14 < ((List.take a0.all_.length a0.all_).length : Int)) then ((getE (List.take a0.all_.length p17) p14).bind fun x27 => (reach_At_O N (⟨p15, p16⟩ : DMemory) x27).bind fun y28 => bif decide (y28.Kind = 8) then ((weak_Opens_O N y28 p17).bind fun y33 => (reach_row_lay_O N (⟨(⟨p15, p16⟩ : DMemory), p17, p18, p19⟩ : DRow) y33).bind fun y35 => reach_row_pass_j21 N (reach_row_pass_l13 N a0 m13) a0 p14 y35.m_.Young y35.m_.Old y35.all_ y35.met_ y35.done_) else (reach_row_pass_j21 N (reach_row_pass_l13 N a0 m13) a0 p14 p15 p16 p17 p18 p19)) else (reach_row_pass_j6 N a0 p15 p16 p17 p18 p19) := rfl
def reach_row_pass_O (N : Nat) (a0 : DRow) : Option (Bool × DRow) :=
 reach_row_pass_l13 N a0 N 0 a0.m_.Young a0.m_.Old a0.all_ a0.met_ a0.done_
theorem reach_row_pass_ok {N : Nat} {a0 : DRow} {r : (Bool × DRow)} (h : reach_row_pass_O N a0 = some r) {A2 : Option Addr} {n2 c2 : Nat} {A3 : Option Addr} {n3 c3 : Nat} {B1 : Nat} {A4 : Option Addr} {n4 c4 : Nat} {M5 : Nat} : Okc Tryz.prog 67 [pV B1 0] ([kS1 A2 n2 c2 a0.m_.Young, kS1 A3 n3 c3 a0.m_.Old, boxC B1 79 [.slice A2 n2 c2, .slice A3 n3 c3, .slice A4 n4 c4, .map (some M5), iV a0.done_], kO2 A4 n4 c4 a0.all_, mapC ekI evU M5 a0.met_]) (fun (u : Value) (post : List Chunk) => ∃ A0 n0 c0 A1 n1 c1 A2 n2 c2 M3, u = .bool r.1 ∧ post = [boxC B1 79 [.slice A0 n0 c0, .slice A1 n1 c1, .slice A2 n2 c2, .map (some M3), iV r.2.done_], kS1 A0 n0 c0 r.2.m_.Young, kS1 A1 n1 c1 r.2.m_.Old, kO2 A2 n2 c2 r.2.all_, mapC ekI evU M3 r.2.met_]) := by
 refine ok_E Tryz.func67 rfl rfl ?_
 simp only [envOf]
 refine run ?_
 refine gR (rd_len 3 rfl els_own rfl Tryz.underlying35) ?_
 refine run ?_
 refine G_joinF (fun s L => ∃ (p7 : (List DCell)) (p8 : (List DCell)) (p9 : (List Int)) (p10 : (List (Int × Unit))) (p11 : Int) (A7 : Option Addr) (n7 c7 : Nat) (A8 : Option Addr) (n8 c8 : Nat) (A9 : Option Addr) (n9 c9 : Nat) (M10 : Nat), reach_row_pass_j6 N a0 p7 p8 p9 p10 p11 = some r ∧ s = [(0, pV B1 0), (2, .bool false), (3, iV (a0.all_.length : Int))] ∧ L = [kS1 A7 n7 c7 p7, kS1 A8 n8 c8 p8, kO2 A9 n9 c9 p9, mapC ekI evU M10 p10, boxC B1 79 [.slice A7 n7 c7, .slice A8 n8 c8, .slice A9 n9 c9, .map (some M10), iV p11]]) ?_ ?_
 ·refine runS ?_
  refine runE ?_
  refine G_cv (cv_grow0 3 rfl) ?_
  refine gD (op_view (n := a0.all_.length) 3 rfl rfl Tryz.underlying35 size3 rfl rfl rfl (Nat.le_refl _)) ?_
  rintro _ _ ⟨A12, rfl, rfl⟩
  refine gR (rd_len 3 rfl els_view rfl Tryz.underlying35) ?_
  refine run ?_
  refine G_loopF (fun m s L => ∃ (p14 : Int) (p15 : (List DCell)) (p16 : (List DCell)) (p17 : (List Int)) (p18 : (List (Int × Unit))) (p19 : Int) (A15 : Option Addr) (n15 c15 : Nat) (A16 : Option Addr) (n16 c16 : Nat) (A17 : Option Addr) (n17 c17 : Nat) (M18 : Nat), reach_row_pass_l13 N a0 m p14 p15 p16 p17 p18 p19 = some r ∧ s = [(0, pV B1 0), (2, .bool false), (3, iV (a0.all_.length : Int)), (18, .slice A12 a0.all_.length a0.all_.length), (19, iV ((List.take a0.all_.length a0.all_).length : Int)), (20, iV p14)] ∧ L = [kS1 A15 n15 c15 p15, kS1 A16 n16 c16 p16, growC (rInt .i64) 3 (.slice A17 n17 c17) p17 (.slice A12 a0.all_.length a0.all_.length) a0.all_.length, mapC ekI evU M18 p18, boxC B1 79 [.slice A15 n15 c15, .slice A16 n16 c16, .slice A17 n17 c17, .map (some M18), iV p19]]) N _ _ ⟨0, a0.m_.Young, a0.m_.Old, a0.all_, a0.met_, a0.done_, A2, n2, c2, A3, n3, c3, A4, n4, c4, M5, h, rfl, rfl⟩ sA (cv_sel [0, 1, 3, 4, 2] 5 rfl rfl) ?_
  rintro (_ | m13) _ _ ⟨p14, p15, p16, p17, p18, p19, A15, n15, c15, A16, n16, c16, A17, n17, c17, M18, h, rfl, rfl⟩
  ·exact none_some h
  rw [reach_row_pass_l13_s] at h
  refine run ?_
  refine G_seq ?_
  refine G_cond rfl (fun g20 => ?_) (fun g20 => ?_)
  ·replace h := cond_t g20 h
   refine run ?_
   refine G_joinF (fun s L => ∃ (p22 : (List DCell)) (p23 : (List DCell)) (p24 : (List Int)) (p25 : (List (Int × Unit))) (p26 : Int) (A22 : Option Addr) (n22 c22 : Nat) (A23 : Option Addr) (n23 c23 : Nat) (A24 : Option Addr) (n24 c24 : Nat) (M25 : Nat), reach_row_pass_j21 N (reach_row_pass_l13 N a0 m13) a0 p14 p22 p23 p24 p25 p26 = some r ∧ s = [(0, pV B1 0), (2, .bool false), (3, iV (a0.all_.length : Int)), (18, .slice A12 a0.all_.length a0.all_.length), (19, iV ((List.take a0.all_.length a0.all_).length : Int)), (20, iV p14)] ∧ L = [kS1 A22 n22 c22 p22, kS1 A23 n23 c23 p23, growC (rInt .i64) 3 (.slice A24 n24 c24) p24 (.slice A12 a0.all_.length a0.all_.length) a0.all_.length, mapC ekI evU M25 p25, boxC B1 79 [.slice A22 n22 c22, .slice A23 n23 c23, .slice A24 n24 c24, .map (some M25), iV p26]]) ?_ ?_
   ·refine run ?_
    obtain ⟨x27, hx27, h⟩ := bind_elim h
    obtain ⟨lx27, ux27, hx27⟩ := getE_elim hx27
    refine gR (rd_idx 2 rfl els_view rfl rfl Tryz.underlying35 size3 lx27 ux27) ?_
    refine gR (rd_elem1 (u := iV x27) 2 rfl els_view rfl hx27 one3 (fun _ _ _ h => by rw [show _ = _ from h]; rfl)) ?_
    refine run ?_
    refine gR (rd_boxS (us := [.slice A15 n15 c15, .slice A16 n16 c16]) 4 rfl rfl agg24 rfl) ?_
    refine run ?_
    obtain ⟨y28, hy28, h⟩ := bind_elim h
    refine gD (op_callR (reach_At_ok hy28) call16 rfl (mem_cons (lent_ro (i := 0) rfl rfl) (mem_cons (lent_ro (i := 1) rfl rfl) mem_nil)) reach_At_free) ?_
    rintro _ _ ⟨_, ⟨A29, n29, c29, A30, n30, c30, rfl, rfl⟩, rfl⟩
    refine gD (op_alloc zero32 rfl) ?_
    rintro _ _ ⟨B31, rfl, rfl⟩
    refine gO (op_store (us := [iV y28.Kind, iV y28.Shape, iV y28.Flags, iV y28.Age, .slice A29 n29 c29, .slice A30 n30 c30]) (cs' := [iV y28.Kind, iV y28.Shape, iV y28.Flags, iV y28.Age, .slice A29 n29 c29, .slice A30 n30 c30]) 0 rfl rfl rfl rfl size32 rfl rfl rfl) ?_
    rintro _ _ rfl
    refine G_norm ([boxC B31 32 [iV y28.Kind, iV y28.Shape, iV y28.Flags, iV y28.Age, .slice A29 n29 c29, .slice A30 n30 c30], kO3 A29 n29 c29 y28.Slots, kO3 A30 n30 c30 y28.More, kS1 A15 n15 c15 p15, kS1 A16 n16 c16 p16, growC (rInt .i64) 3 (.slice A17 n17 c17) p17 (.slice A12 a0.all_.length a0.all_.length) a0.all_.length, mapC ekI evU M18 p18, boxC B1 79 [.slice A15 n15 c15, .slice A16 n16 c16, .slice A17 n17 c17, .map (some M18), iV p19]]) rfl ?_
    refine run ?_
    refine G_cond rfl (fun g32 => ?_) (fun g32 => ?_)
    ·replace h := cond_t g32 h
     refine G_sub (t := [(0, pV B1 0), (2, .bool false), (3, iV (a0.all_.length : Int)), (6, pV B31 0), (18, .slice A12 a0.all_.length a0.all_.length), (19, iV ((List.take a0.all_.length a0.all_).length : Int)), (20, iV p14)]) ?_ subT (cv_refl _)
     refine G_monoX (by kernel_rfl) 6 [0] [0, 1, 5] [33, 34, 35, 36, 37, 38] [[], [], [], [2], [3], [4]] [aV (pV B1 0),
 aV (.agg #[iV y28.Kind, iV y28.Shape, iV y28.Flags, iV y28.Age, .slice A29 n29 c29, .slice A30 n30 c30]),
 aV (pV B1 0),
 aV (pV B1 0),
 aV (pV B1 2),
 aV (.slice A17 n17 c17)] [] (cv_refl _) (qB_cons rfl qB_nil) (by kernel_rfl) rfl rfl ?_ ?_ ?_
     ·refine qs_cons rfl ?_ ?_
      ·exact QS_ev (ev_move rfl) rfl (cvpV rfl (cv_refl _))
      exact qs_nil
     ·refine steps_cons rfl ?_ ?_
      ·exact X_rd (rd_box1 7 rfl rfl one35 rfl) rfl (cvpV rfl (cv_refl _))
      refine steps_cons rfl ?_ ?_
      ·exact X_ev (ev_fa rfl fa_79_1) rfl (cvpV rfl (cv_refl _))
      refine steps_cons rfl ?_ ?_
      ·exact X_ev (ev_nilCheck rfl) rfl (cvpV rfl (cv_refl _))
      refine steps_cons rfl ?_ ?_
      ·exact X_ev (ev_move rfl) rfl (cvpV rfl (cv_refl _))
      refine steps_cons rfl ?_ ?_
      ·exact X_rd (rd_boxS (us := [iV y28.Kind, iV y28.Shape, iV y28.Flags, iV y28.Age, .slice A29 n29 c29, .slice A30 n30 c30]) 0 rfl rfl agg32 rfl) rfl (cvpV rfl (cv_refl _))
      refine steps_cons rfl ?_ ?_
      ·exact X_ev (ev_move rfl) rfl (cvpV rfl (cv_refl _))
      exact steps_nil
     ·refine N_sub (t := [(33, pV B1 0), (34, .agg #[iV y28.Kind, iV y28.Shape, iV y28.Flags, iV y28.Age, .slice A29 n29 c29, .slice A30 n30 c30]), (38, .slice A17 n17 c17), (0, pV B1 0), (2, .bool false), (3, iV (a0.all_.length : Int)), (6, pV B31 0), (18, .slice A12 a0.all_.length a0.all_.length), (19, iV ((List.take a0.all_.length a0.all_).length : Int)), (20, iV p14)]) (L' := [boxC B31 32 [iV y28.Kind, iV y28.Shape, iV y28.Flags, iV y28.Age, .slice A29 n29 c29, .slice A30 n30 c30], kO3 A29 n29 c29 y28.Slots, kO3 A30 n30 c30 y28.More, kS1 A15 n15 c15 p15, kS1 A16 n16 c16 p16, growC (rInt .i64) 3 (.slice A17 n17 c17) p17 (.slice A12 a0.all_.length a0.all_.length) a0.all_.length, mapC ekI evU M18 p18, boxC B1 79 [.slice A15 n15 c15, .slice A16 n16 c16, .slice A17 n17 c17, .map (some M18), iV p19]]) ?_ subT (cv_refl _)
      obtain ⟨y33, hy33, h⟩ := bind_elim h
      refine N_opd 6 rfl (by kernel_rfl) (op_callR (weak_Opens_ok hy33) call122 rfl (mem_cons (lent_own (i := 1) rfl) (mem_cons (lent_own (i := 2) rfl) (mem_cons (lent_grow (i := 5) rfl) mem_nil))) weak_Opens_free) rfl rfl rfl ?_
      rintro _ _ ⟨_, ⟨A34, n34, c34, rfl, rfl⟩, rfl⟩
      refine N_sub ?_ sub_refl (cv_frz 0 rfl)
      obtain ⟨y35, hy35, h⟩ := bind_elim h
      refine N_opd 7 rfl (by kernel_rfl) (op_call (reach_row_lay_v_ok hy35) call118 rfl (cv_take [4, 5, 0] [8, 6, 7] [0, 1, 2, 3, 4, 5] 9 rfl)) rfl rfl rfl ?_
      rintro _ _ ⟨_, ⟨A36, n36, c36, A37, n37, c37, A38, n38, c38, M39, rfl, rfl⟩, rfl⟩
      refine N_done (by kernel_rfl) ?_
      refine run ?_
      exact ⟨_, _, ⟨y35.m_.Young, y35.m_.Old, y35.all_, y35.met_, y35.done_, A36, n36, c36, A37, n37, c37, A38, n38, c38, M39, h, rfl, rfl⟩, sA, cv_sel [1, 2, 3, 4, 0] 11 rfl rfl⟩
    ·replace h := cond_f g32 h
     refine run ?_
     exact ⟨_, _, ⟨p15, p16, p17, p18, p19, A15, n15, c15, A16, n16, c16, A17, n17, c17, M18, h, rfl, rfl⟩, sA, cv_sel [3, 4, 5, 6, 7] 8 rfl rfl⟩
   ·rintro _ _ ⟨p22, p23, p24, p25, p26, A22, n22, c22, A23, n23, c23, A24, n24, c24, M25, h, rfl, rfl⟩
    refine G_region ?_
    obtain ⟨q40, h⟩ := req_elim h
    refine gE (ev_add rfl rfl q40.1 q40.2) ?_
    refine run ?_
    exact ⟨m13, _, _, Nat.lt_succ_self _, ⟨p14 + 1, p22, p23, p24, p25, p26, A22, n22, c22, A23, n23, c23, A24, n24, c24, M25, h, rfl, rfl⟩, sA, cv_sel [0, 1, 2, 3, 4] 5 rfl rfl⟩
  ·replace h := cond_f g20 h
   refine run ?_
   exact ⟨_, _, ⟨p15, p16, p17, p18, p19, A15, n15, c15, A16, n16, c16, A17, n17, c17, M18, h, rfl, rfl⟩, sA, (cv_ungrow 2 rfl).trans (cv_sel [0, 1, 2, 3, 4] 5 rfl rfl)⟩
 ·rintro _ _ ⟨p7, p8, p9, p10, p11, A7, n7, c7, A8, n8, c8, A9, n9, c9, M10, h, rfl, rfl⟩
  refine run ?_
  refine gR (rd_len 2 rfl els_own rfl Tryz.underlying35) ?_
  refine run ?_
  obtain rfl := Option.some.inj h
  exact endG1 rfl rfl (cv_sel [4, 0, 1, 2, 3] 5 rfl rfl) ⟨_, _, _, _, _, _, _, _, _, _, rfl, rfl⟩
def reach_Order_j11 (N : Nat) (p12 : (List DCell)) (p13 : (List DCell)) (p14 : (List Int)) (p15 : (List (Int × Unit))) (p16 : Int) : Option (List Int) :=
 some p14
def reach_Order_l17 (N : Nat) : Nat → (List DCell) → (List DCell) → (List Int) → (List (Int × Unit)) → Int → Option (List Int)
 | 0, _, _, _, _, _ => none
 | m17 + 1, p18, p19, p20, p21, p22 => (reach_row_pass_O N (⟨(⟨p18, p19⟩ : DMemory), p20, p21, p22⟩ : DRow)).bind fun y23 => bif y23.1 then ((reach_row_through_O N y23.2).bind fun y29 => (reach_Order_l17 N m17) y29.m_.Young y29.m_.Old y29.all_ y29.met_ y29.done_) else (reach_Order_j11 N y23.2.m_.Young y23.2.m_.Old y23.2.all_ y23.2.met_ y23.2.done_)
theorem reach_Order_l17_s {N m17 : Nat} {p18 : (List DCell)} {p19 : (List DCell)} {p20 : (List Int)} {p21 : (List (Int × Unit))} {p22 : Int} : reach_Order_l17 N (m17 + 1) p18 p19 p20 p21 p22 = (reach_row_pass_O N (⟨(⟨p18, p19⟩ : DMemory), p20, p21, p22⟩ : DRow)).bind fun y23 => bif y23.1 then ((reach_row_through_O N y23.2).bind fun y29 => (reach_Order_l17 N m17) y29.m_.Young y29.m_.Old y29.all_ y29.met_ y29.done_) else (reach_Order_j11 N y23.2.m_.Young y23.2.m_.Old y23.2.all_ y23.2.met_ y23.2.done_) := rfl
def reach_Order_O (N : Nat) (a0 : DMemory) (a1 : (List DValue)) : Option (List Int) :=
 (reach_begin_O N a0 a1).bind fun y5 => reach_Order_l17 N N y5.m_.Young y5.m_.Old y5.all_ y5.met_ y5.done_
theorem reach_Order_ok {N : Nat} {a0 : DMemory} {a1 : (List DValue)} {r : (List Int)} (h : reach_Order_O N a0 a1 = some r) {A1 : Option Addr} {n1 c1 : Nat} {A2 : Option Addr} {n2 c2 : Nat} {A3 : Option Addr} {n3 c3 : Nat} : Okc Tryz.prog 25 [.agg #[.slice A1 n1 c1, .slice A2 n2 c2], .slice A3 n3 c3] ([kS1 A1 n1 c1 a0.Young, kS1 A2 n2 c2 a0.Old, kS0 A3 n3 c3 a1]) (fun (u : Value) (post : List Chunk) => ∃ A0 n0 c0, u = .slice A0 n0 c0 ∧ post = [kO2 A0 n0 c0 r]) := by
 refine ok_E Tryz.func25 rfl rfl ?_
 simp only [envOf]
 refine run ?_
 refine gD (op_box rfl rfl) ?_
 rintro _ _ ⟨B4, rfl, rfl⟩
 refine run ?_
 refine gR (rd_boxS (us := [.slice A1 n1 c1, .slice A2 n2 c2]) 0 rfl rfl agg24 rfl) ?_
 refine run ?_
 obtain ⟨y5, hy5, h⟩ := bind_elim h
 refine gD (op_call (reach_begin_ok hy5) call62 rfl (cv_take [1, 2, 3] [] [0, 1, 2, 3] 4 rfl)) ?_
 rintro _ _ ⟨_, ⟨B6, A7, n7, c7, A8, n8, c8, A9, n9, c9, M10, rfl, rfl⟩, rfl⟩
 refine run ?_
 refine G_joinF (fun s L => ∃ (p12 : (List DCell)) (p13 : (List DCell)) (p14 : (List Int)) (p15 : (List (Int × Unit))) (p16 : Int) (A12 : Option Addr) (n12 c12 : Nat) (A13 : Option Addr) (n13 c13 : Nat) (A14 : Option Addr) (n14 c14 : Nat) (M15 : Nat), reach_Order_j11 N p12 p13 p14 p15 p16 = some r ∧ s = [(4, .slice none 0 0), (5, pV B6 0)] ∧ L = [kS1 A12 n12 c12 p12, kS1 A13 n13 c13 p13, kO2 A14 n14 c14 p14, mapC ekI evU M15 p15, boxC B6 79 [.slice A12 n12 c12, .slice A13 n13 c13, .slice A14 n14 c14, .map (some M15), iV p16]]) ?_ ?_
 ·refine G_block ?_
  refine G_loopF (fun m s L => ∃ (p18 : (List DCell)) (p19 : (List DCell)) (p20 : (List Int)) (p21 : (List (Int × Unit))) (p22 : Int) (A18 : Option Addr) (n18 c18 : Nat) (A19 : Option Addr) (n19 c19 : Nat) (A20 : Option Addr) (n20 c20 : Nat) (M21 : Nat), reach_Order_l17 N m p18 p19 p20 p21 p22 = some r ∧ s = [(4, .slice none 0 0), (5, pV B6 0)] ∧ L = [kS1 A18 n18 c18 p18, kS1 A19 n19 c19 p19, kO2 A20 n20 c20 p20, mapC ekI evU M21 p21, boxC B6 79 [.slice A18 n18 c18, .slice A19 n19 c19, .slice A20 n20 c20, .map (some M21), iV p22]]) N _ _ ⟨y5.m_.Young, y5.m_.Old, y5.all_, y5.met_, y5.done_, A7, n7, c7, A8, n8, c8, A9, n9, c9, M10, h, rfl, rfl⟩ sA (cv_sel [1, 2, 3, 4, 0] 9 rfl rfl) ?_
  rintro (_ | m17) _ _ ⟨p18, p19, p20, p21, p22, A18, n18, c18, A19, n19, c19, A20, n20, c20, M21, h, rfl, rfl⟩
  ·exact none_some h
  rw [reach_Order_l17_s] at h
  refine G_seq ?_
  refine run ?_
  obtain ⟨y23, hy23, h⟩ := bind_elim h
  refine gD (op_call (reach_row_pass_ok hy23) call67 rfl (cv_take [0, 1] [4, 2, 3] [0, 1] 5 rfl)) ?_
  rintro _ _ ⟨_, ⟨A24, n24, c24, A25, n25, c25, A26, n26, c26, M27, rfl, rfl⟩, rfl⟩
  refine run ?_
  refine G_cond rfl (fun g28 => ?_) (fun g28 => ?_)
  ·replace h := cond_t g28 h
   refine run ?_
   obtain ⟨y29, hy29, h⟩ := bind_elim h
   refine gD (op_call (reach_row_through_ok hy29) call68 rfl (cv_take [1, 2] [0, 3, 4] [1, 2, 5, 6] 7 rfl)) ?_
   rintro _ _ ⟨_, ⟨A30, n30, c30, A31, n31, c31, A32, n32, c32, M33, rfl, rfl⟩, rfl⟩
   refine G_norm ([boxC B6 79 [.slice A30 n30 c30, .slice A31 n31 c31, .slice A32 n32 c32, .map (some M33), iV y29.done_], kS1 A30 n30 c30 y29.m_.Young, kS1 A31 n31 c31 y29.m_.Old, kO2 A32 n32 c32 y29.all_, mapC ekI evU M33 y29.met_, kS1 A24 n24 c24 y23.2.m_.Young, kS1 A25 n25 c25 y23.2.m_.Old, kS1 A18 n18 c18 p18, kS1 A19 n19 c19 p19]) rfl ?_
   refine run ?_
   exact ⟨m17, _, _, Nat.lt_succ_self _, ⟨y29.m_.Young, y29.m_.Old, y29.all_, y29.met_, y29.done_, A30, n30, c30, A31, n31, c31, A32, n32, c32, M33, h, rfl, rfl⟩, sA, cv_sel [1, 2, 3, 4, 0] 9 rfl rfl⟩
  ·replace h := cond_f g28 h
   refine run ?_
   exact ⟨_, _, ⟨y23.2.m_.Young, y23.2.m_.Old, y23.2.all_, y23.2.met_, y23.2.done_, A24, n24, c24, A25, n25, c25, A26, n26, c26, M27, h, rfl, rfl⟩, sA, cv_sel [1, 2, 3, 4, 0] 7 rfl rfl⟩
 ·rintro _ _ ⟨p12, p13, p14, p15, p16, A12, n12, c12, A13, n13, c13, A14, n14, c14, M15, h, rfl, rfl⟩
  refine run ?_
  obtain rfl := Option.some.inj h
  exact endG1 rfl rfl (cv_sel [2] 5 rfl rfl) ⟨_, _, _, rfl, rfl⟩
theorem reach_Order_free {r : (List Int)} : ∀ v post, ((fun (u : Value) (post : List Chunk) => ∃ A0 n0 c0, u = .slice A0 n0 c0 ∧ post = [kO2 A0 n0 c0 r])) v post → ∀ c ∈ post, Free c := by
 rintro _ _ ⟨_, _, _, rfl, rfl⟩; exact mem_cons free_own (mem_nil)
def reach_Live_O (N : Nat) (a0 : DMemory) (a1 : (List DValue)) : Option (List Int) :=
 (reach_Order_O N a0 a1).bind fun y5 => (slices_Sort_O N y5).bind fun y7 => some y7
theorem reach_Live_ok {N : Nat} {a0 : DMemory} {a1 : (List DValue)} {r : (List Int)} (h : reach_Live_O N a0 a1 = some r) {A1 : Option Addr} {n1 c1 : Nat} {A2 : Option Addr} {n2 c2 : Nat} {A3 : Option Addr} {n3 c3 : Nat} : Okc Tryz.prog 23 [.agg #[.slice A1 n1 c1, .slice A2 n2 c2], .slice A3 n3 c3] ([kS1 A1 n1 c1 a0.Young, kS1 A2 n2 c2 a0.Old, kS0 A3 n3 c3 a1]) (fun (u : Value) (post : List Chunk) => ∃ A0 n0 c0, u = .slice A0 n0 c0 ∧ post = [kO2 A0 n0 c0 r]) := by
 refine ok_E Tryz.func23 rfl rfl ?_
 simp only [envOf]
 refine run ?_
 refine gD (op_box rfl rfl) ?_
 rintro _ _ ⟨B4, rfl, rfl⟩
 refine run ?_
 refine gR (rd_boxS (us := [.slice A1 n1 c1, .slice A2 n2 c2]) 0 rfl rfl agg24 rfl) ?_
 refine run ?_
 obtain ⟨y5, hy5, h⟩ := bind_elim h
 refine gD (op_callR (reach_Order_ok hy5) call25 rfl (mem_cons (lent_ro (i := 1) rfl rfl) (mem_cons (lent_ro (i := 2) rfl rfl) (mem_cons (lent_ro (i := 3) rfl rfl) mem_nil))) reach_Order_free) ?_
 rintro _ _ ⟨_, ⟨A6, n6, c6, rfl, rfl⟩, rfl⟩
 refine run ?_
 obtain ⟨y7, hy7, h⟩ := bind_elim h
 refine gD (op_call (slices_Sort_ok hy7) call66 rfl (cv_take [] [0] [1, 2, 3, 4] 5 rfl)) ?_
 rintro _ _ ⟨_, ⟨rfl, rfl⟩, rfl⟩
 refine run ?_
 obtain rfl := Option.some.inj h
 exact endG1 rfl rfl (cv_sel [0] 5 rfl rfl) ⟨_, _, _, rfl, rfl⟩
theorem reach_Live_free {r : (List Int)} : ∀ v post, ((fun (u : Value) (post : List Chunk) => ∃ A0 n0 c0, u = .slice A0 n0 c0 ∧ post = [kO2 A0 n0 c0 r])) v post → ∀ c ∈ post, Free c := by
 rintro _ _ ⟨_, _, _, rfl, rfl⟩; exact mem_cons free_own (mem_nil)
end Go.Proofs.YtmbaennilhdieaaGreat