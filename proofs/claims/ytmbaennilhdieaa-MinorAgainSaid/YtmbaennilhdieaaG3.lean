/- Merged texts: part 3. No conditions of their own. -/
import Derived.Test.YtmbaennilhdieaaG2
import Derived.Test.YtmbaennilhdieaaChecked
import Derived.ProofKit
import Derived.Test.YtmbaennilhdieaaG1
namespace Go.Proofs.Ytmbaennilhdieaa
variable {A1 A2 A3 : Option Addr} {B1 B3 c1 c2 c3 n1 n2 n3 : Nat}
open Go.RowKit Asn
set_option maxRecDepth 20000
structure DValue where
 Kind : Int
 N : Int
 S : ByteArray
 deriving DecidableEq, Inhabited
def bF : Rep DValue := .flat 3 (fun x => [iV x.Kind, iV x.N, .string x.S]) (fun _ => rfl) (fun _ => rfl)
structure DCell where
 Kind : Int
 Shape : Int
 Flags : Int
 Age : Int
 Slots : (List DValue)
 More : (List DValue)
 deriving DecidableEq, Inhabited
def dl : Rep DCell where
 sz := 6
 rel S w vs x := ∃ A4 n4 c4 A5 n5 c5, vs = [iV x.Kind, iV x.Shape, iV x.Flags, iV x.Age, .slice A4 n4 c4, .slice A5 n5 c5] ∧ SlR bF S w (.slice A4 n4 c4) x.Slots ∧ SlR bF S w (.slice A5 n5 c5) x.More
 loc := fun h ⟨_, _, _, _, _, _, e, h4, h5⟩ => ⟨_, _, _, _, _, _, e, h4.loc h, h5.loc h⟩
 mono := fun h ⟨_, _, _, _, _, _, e, h4, h5⟩ => ⟨_, _, _, _, _, _, e, h4.mono h, h5.mono h⟩
 len := fun ⟨_, _, _, _, _, _, e, _⟩ => by rw [e]; rfl
 one := fun ⟨_, _, _, _, _, _, e, _⟩ => by rw [e]; rfl
theorem cE (x : DCell) : sT dl x fun vs cs => ∃ A4 n4 c4 A5 n5 c5, vs = [iV x.Kind, iV x.Shape, iV x.Flags, iV x.Age, .slice A4 n4 c4, .slice A5 n5 c5] ∧ cs = [kE bF (.slice A4 n4 c4) x.Slots, kE bF (.slice A5 n5 c5) x.More] := fun S w vs ⟨_, _, _, _, _, _, e, h4, h5⟩ => ⟨_, ⟨_, _, _, _, _, _, e, rfl⟩, mem_cons h4 (mem_cons h5 (aj))⟩
structure DMemory where
 Young : (List DCell)
 Old : (List DCell)
 deriving DecidableEq, Inhabited
def yK : Rep DMemory where
 sz := 2
 rel S w vs x := ∃ A0 n0 c0 A1 n1 c1, vs = [.slice A0 n0 c0, .slice A1 n1 c1] ∧ SlR dl S w (.slice A0 n0 c0) x.Young ∧ SlR dl S w (.slice A1 n1 c1) x.Old
 loc := fun h ⟨_, _, _, _, _, _, e, h0, h1⟩ => ⟨_, _, _, _, _, _, e, h0.loc h, h1.loc h⟩
 mono := fun h ⟨_, _, _, _, _, _, e, h0, h1⟩ => ⟨_, _, _, _, _, _, e, h0.mono h, h1.mono h⟩
 len := fun ⟨_, _, _, _, _, _, e, _⟩ => by rw [e]; rfl
 one := fun ⟨_, _, _, _, _, _, e, _⟩ => by rw [e]; rfl
structure DMeeter where
 m_ : DMemory
 kept_ : (List Int)
 met_ : (List Int)
 seen_ : (List (Int × Bool))
 next_ : Int
 deriving DecidableEq, Inhabited
structure DRow where
 m_ : DMemory
 all_ : (List Int)
 met_ : (List (Int × Unit))
 done_ : Int
 deriving DecidableEq, Inhabited
structure DTwins where
 a_ : DMemory
 b_ : DMemory
 x_ : (List Int)
 y_ : (List Int)
 from_ : (List (Int × Int))
 to_ : (List (Int × Int))
 deriving DecidableEq, Inhabited
abbrev aF (A : Option Addr) (n c : Nat) := kE bF (.slice A n c)
abbrev aR (A : Option Addr) (n c : Nat) := kE dl (.slice A n c)
abbrev bN (A : Option Addr) (n c : Nat) := gj (ge .i64) 3 (.slice A n c)
abbrev bT (A : Option Addr) (n c : Nat) := gj bF 38 (.slice A n c)
abbrev f4 (A : Option Addr) (n c : Nat) := gj dl 42 (.slice A n c)
abbrev ca (A : Option Addr) (n c : Nat) := kE (ge .i64) (.slice A n c)
theorem Di : au Try.prog 7 := ⟨Try.f7, Try.func7, rfl, rfl⟩
theorem Dh : au Try.prog 8 := ⟨Try.f8, Try.func8, rfl, rfl⟩
theorem BS : au Try.prog 9 := ⟨Try.f9, Try.func9, rfl, rfl⟩
theorem CJ : au Try.prog 10 := ⟨Try.f10, Try.func10, rfl, rfl⟩
theorem zV : au Try.prog 11 := ⟨Try.f11, Try.func11, rfl, rfl⟩
theorem CI : au Try.prog 12 := ⟨Try.f12, Try.func12, rfl, rfl⟩
theorem wz : au Try.prog 13 := ⟨Try.f13, Try.func13, rfl, rfl⟩
theorem zU : au Try.prog 20 := ⟨Try.f20, Try.func20, rfl, rfl⟩
theorem tV : au Try.prog 29 := ⟨Try.f29, Try.func29, rfl, rfl⟩
theorem zT : au Try.prog 30 := ⟨Try.f30, Try.func30, rfl, rfl⟩
theorem CH : au Try.prog 31 := ⟨Try.f31, Try.func31, rfl, rfl⟩
theorem CG : au Try.prog 32 := ⟨Try.f32, Try.func32, rfl, rfl⟩
theorem CF : au Try.prog 33 := ⟨Try.f33, Try.func33, rfl, rfl⟩
theorem zS : au Try.prog 34 := ⟨Try.f34, Try.func34, rfl, rfl⟩
theorem tU : au Try.prog 35 := ⟨Try.f35, Try.func35, rfl, rfl⟩
theorem zR : au Try.prog 36 := ⟨Try.f36, Try.func36, rfl, rfl⟩
theorem wy : au Try.prog 37 := ⟨Try.f37, Try.func37, rfl, rfl⟩
theorem rI : au Try.prog 38 := ⟨Try.f38, Try.func38, rfl, rfl⟩
theorem rH : au Try.prog 39 := ⟨Try.f39, Try.func39, rfl, rfl⟩
theorem zQ : au Try.prog 40 := ⟨Try.f40, Try.func40, rfl, rfl⟩
theorem zP : au Try.prog 41 := ⟨Try.f41, Try.func41, rfl, rfl⟩
theorem zO : au Try.prog 42 := ⟨Try.f42, Try.func42, rfl, rfl⟩
theorem wx : au Try.prog 43 := ⟨Try.f43, Try.func43, rfl, rfl⟩
theorem CE : au Try.prog 44 := ⟨Try.f44, Try.func44, rfl, rfl⟩
theorem CD : au Try.prog 45 := ⟨Try.f45, Try.func45, rfl, rfl⟩
theorem zN : au Try.prog 46 := ⟨Try.f46, Try.func46, rfl, rfl⟩
theorem ww : au Try.prog 49 := ⟨Try.f49, Try.func49, rfl, rfl⟩
theorem zM : au Try.prog 50 := ⟨Try.f50, Try.func50, rfl, rfl⟩
theorem CC : au Try.prog 67 := ⟨Try.f67, Try.func67, rfl, rfl⟩
theorem zL : au Try.prog 68 := ⟨Try.f68, Try.func68, rfl, rfl⟩
theorem wv : au Try.prog 69 := ⟨Try.f69, Try.func69, rfl, rfl⟩
theorem CB : au Try.prog 70 := ⟨Try.f70, Try.func70, rfl, rfl⟩
theorem CA : au Try.prog 71 := ⟨Try.f71, Try.func71, rfl, rfl⟩
theorem zK : au Try.prog 72 := ⟨Try.f72, Try.func72, rfl, rfl⟩
theorem zJ : au Try.prog 73 := ⟨Try.f73, Try.func73, rfl, rfl⟩
theorem tT : au Try.prog 74 := ⟨Try.f74, Try.func74, rfl, rfl⟩
theorem wu : au Try.prog 75 := ⟨Try.f75, Try.func75, rfl, rfl⟩
theorem zI : au Try.prog 76 := ⟨Try.f76, Try.func76, rfl, rfl⟩
theorem Cz : au Try.prog 77 := ⟨Try.f77, Try.func77, rfl, rfl⟩
theorem Cy : au Try.prog 78 := ⟨Try.f78, Try.func78, rfl, rfl⟩
theorem Cw : au Try.prog 79 := ⟨Try.f79, Try.func79, rfl, rfl⟩
theorem Cu : au Try.prog 80 := ⟨Try.f80, Try.func80, rfl, rfl⟩
theorem zH : au Try.prog 81 := ⟨Try.f81, Try.func81, rfl, rfl⟩
theorem ws : au Try.prog 82 := ⟨Try.f82, Try.func82, rfl, rfl⟩
theorem Ct : au Try.prog 83 := ⟨Try.f83, Try.func83, rfl, rfl⟩
theorem zG : au Try.prog 84 := ⟨Try.f84, Try.func84, rfl, rfl⟩
theorem Cs : au Try.prog 85 := ⟨Try.f85, Try.func85, rfl, rfl⟩
theorem Cr : au Try.prog 86 := ⟨Try.f86, Try.func86, rfl, rfl⟩
theorem Cq : au Try.prog 87 := ⟨Try.f87, Try.func87, rfl, rfl⟩
theorem Cp : au Try.prog 95 := ⟨Try.f95, Try.func95, rfl, rfl⟩
theorem wr : au Try.prog 98 := ⟨Try.f98, Try.func98, rfl, rfl⟩
theorem Bv : au Try.prog 101 := ⟨Try.f101, Try.func101, rfl, rfl⟩
theorem Bu : au Try.prog 105 := ⟨Try.f105, Try.func105, rfl, rfl⟩
theorem Bt : au Try.prog 106 := ⟨Try.f106, Try.func106, rfl, rfl⟩
theorem Br : au Try.prog 107 := ⟨Try.f107, Try.func107, rfl, rfl⟩
theorem Bq : au Try.prog 108 := ⟨Try.f108, Try.func108, rfl, rfl⟩
theorem Bp : au Try.prog 109 := ⟨Try.f109, Try.func109, rfl, rfl⟩
theorem xw : au Try.prog 110 := ⟨Try.f110, Try.func110, rfl, rfl⟩
theorem Bo : au Try.prog 111 := ⟨Try.f111, Try.func111, rfl, rfl⟩
theorem xv : au Try.prog 112 := ⟨Try.f112, Try.func112, rfl, rfl⟩
theorem Bn : au Try.prog 113 := ⟨Try.f113, Try.func113, rfl, rfl⟩
theorem Bm : au Try.prog 114 := ⟨Try.f114, Try.func114, rfl, rfl⟩
theorem Bl : au Try.prog 115 := ⟨Try.f115, Try.func115, rfl, rfl⟩
theorem Bk : au Try.prog 116 := ⟨Try.f116, Try.func116, rfl, rfl⟩
theorem Bj : au Try.prog 117 := ⟨Try.f117, Try.func117, rfl, rfl⟩
theorem tW : au Try.prog 118 := ⟨Try.f118, Try.func118, rfl, rfl⟩
theorem Bi : au Try.prog 119 := ⟨Try.f119, Try.func119, rfl, rfl⟩
theorem mP : au Try.prog 120 := ⟨Try.f120, Try.func120, rfl, rfl⟩
theorem mO : au Try.prog 121 := ⟨Try.f121, Try.func121, rfl, rfl⟩
theorem xu : au Try.prog 122 := ⟨Try.f122, Try.func122, rfl, rfl⟩
theorem xt : au Try.prog 135 := ⟨Try.f135, Try.func135, rfl, rfl⟩
theorem xr : au Try.prog 136 := ⟨Try.f136, Try.func136, rfl, rfl⟩
theorem Bh : au Try.prog 137 := ⟨Try.f137, Try.func137, rfl, rfl⟩
theorem Bg : au Try.prog 138 := ⟨Try.f138, Try.func138, rfl, rfl⟩
theorem Bf : au Try.prog 139 := ⟨Try.f139, Try.func139, rfl, rfl⟩
theorem Be : au Try.prog 141 := ⟨Try.f141, Try.func141, rfl, rfl⟩
theorem Bd : au Try.prog 142 := ⟨Try.f142, Try.func142, rfl, rfl⟩
theorem Bc : au Try.prog 143 := ⟨Try.f143, Try.func143, rfl, rfl⟩
theorem xq : au Try.prog 150 := ⟨Try.f150, Try.func150, rfl, rfl⟩
theorem xp : au Try.prog 151 := ⟨Try.f151, Try.func151, rfl, rfl⟩
theorem Bb : au Try.prog 152 := ⟨Try.f152, Try.func152, rfl, rfl⟩
theorem mN : au Try.prog 153 := ⟨Try.f153, Try.func153, rfl, rfl⟩
theorem mM : au Try.prog 154 := ⟨Try.f154, Try.func154, rfl, rfl⟩
theorem xo : au Try.prog 155 := ⟨Try.f155, Try.func155, rfl, rfl⟩
theorem Ba : au Try.prog 157 := ⟨Try.f157, Try.func157, rfl, rfl⟩
theorem AZ : au Try.prog 158 := ⟨Try.f158, Try.func158, rfl, rfl⟩
theorem oP (b o : Nat) (w : World) : (Instr.fieldAt 24 (pV b o) 0).run Try.prog w = .ok (pV b o) w := by kernel_rfl
theorem jK (b o : Nat) (w : World) : (Instr.fieldAt 24 (pV b o) 1).run Try.prog w = .ok (.pointer (some ⟨b, o + 1, none⟩)) w := by kernel_rfl
theorem ei (b o : Nat) (w : World) : (Instr.fieldAt 38 (pV b o) 0).run Try.prog w = .ok (pV b o) w := by kernel_rfl
theorem iP (b o : Nat) (w : World) : (Instr.fieldAt 38 (pV b o) 1).run Try.prog w = .ok (.pointer (some ⟨b, o + 1, none⟩)) w := by kernel_rfl
theorem AV (b o : Nat) (w : World) : (Instr.fieldAt 38 (pV b o) 2).run Try.prog w = .ok (.pointer (some ⟨b, o + 2, none⟩)) w := by kernel_rfl
theorem AU (b o : Nat) (w : World) : (Instr.fieldAt 42 (pV b o) 0).run Try.prog w = .ok (pV b o) w := by kernel_rfl
theorem AT (b o : Nat) (w : World) : (Instr.fieldAt 42 (pV b o) 1).run Try.prog w = .ok (.pointer (some ⟨b, o + 1, none⟩)) w := by kernel_rfl
theorem AS (b o : Nat) (w : World) : (Instr.fieldAt 42 (pV b o) 2).run Try.prog w = .ok (.pointer (some ⟨b, o + 2, none⟩)) w := by kernel_rfl
theorem xe (b o : Nat) (w : World) : (Instr.fieldAt 42 (pV b o) 3).run Try.prog w = .ok (.pointer (some ⟨b, o + 3, none⟩)) w := by kernel_rfl
theorem kV (b o : Nat) (w : World) : (Instr.fieldAt 42 (pV b o) 4).run Try.prog w = .ok (.pointer (some ⟨b, o + 4, none⟩)) w := by kernel_rfl
theorem gt (b o : Nat) (w : World) : (Instr.fieldAt 42 (pV b o) 5).run Try.prog w = .ok (.pointer (some ⟨b, o + 5, none⟩)) w := by kernel_rfl
theorem xd (b o : Nat) (w : World) : (Instr.fieldAt 61 (pV b o) 0).run Try.prog w = .ok (pV b o) w := by kernel_rfl
theorem xc (b o : Nat) (w : World) : (Instr.fieldAt 61 (pV b o) 1).run Try.prog w = .ok (.pointer (some ⟨b, o + 2, none⟩)) w := by kernel_rfl
theorem jJ (b o : Nat) (w : World) : (Instr.fieldAt 61 (pV b o) 2).run Try.prog w = .ok (.pointer (some ⟨b, o + 3, none⟩)) w := by kernel_rfl
theorem AR (b o : Nat) (w : World) : (Instr.fieldAt 61 (pV b o) 3).run Try.prog w = .ok (.pointer (some ⟨b, o + 4, none⟩)) w := by kernel_rfl
theorem tM (b o : Nat) (w : World) : (Instr.fieldAt 61 (pV b o) 4).run Try.prog w = .ok (.pointer (some ⟨b, o + 5, none⟩)) w := by kernel_rfl
theorem dv : gZ Try.prog 3 = true := by kernel_rfl
theorem vW : gZ Try.prog 4 = true := by kernel_rfl
theorem Dv : gZ Try.prog 9 = true := by kernel_rfl
theorem fD : gZ Try.prog 22 = true := by kernel_rfl
theorem ft : gZ Try.prog 25 = true := by kernel_rfl
theorem iD : gZ Try.prog 31 = true := by kernel_rfl
theorem BL : gZ Try.prog 59 = true := by kernel_rfl
theorem C2 : gZ Try.prog 70 = true := by kernel_rfl
theorem ex : pD Try.prog 24 2 = true := by kernel_rfl
theorem bp : pD Try.prog 38 3 = true := by kernel_rfl
theorem ba : pD Try.prog 42 6 = true := by kernel_rfl
theorem eH : dV Try.prog 3 1 = true := by kernel_rfl
theorem qL : dV Try.prog 4 1 = true := by kernel_rfl
theorem nw : dV Try.prog 22 1 = true := by kernel_rfl
theorem lF : dV Try.prog 24 2 = true := by kernel_rfl
theorem ip : dV Try.prog 25 1 = true := by kernel_rfl
theorem nv : dV Try.prog 31 1 = true := by kernel_rfl
theorem aG : dV Try.prog 38 3 = true := by kernel_rfl
theorem bq : dV Try.prog 42 6 = true := by kernel_rfl
theorem Ca : dV Try.prog 59 1 = true := by kernel_rfl
theorem yw (w : World) : (zeroValue 3).run Try.prog w = .ok (iV 0) w := by kernel_rfl
theorem uh (w : World) : (zeroValue 4).run Try.prog w = .ok (.bool false) w := by kernel_rfl
theorem qz (w : World) : (zeroValue 24).run Try.prog w = .ok (.agg #[.slice none 0 0, .slice none 0 0]) w := by kernel_rfl
theorem BZ (w : World) : (zeroValue 25).run Try.prog w = .ok (.slice none 0 0) w := by kernel_rfl
theorem yv (w : World) : (zeroValue 31).run Try.prog w = .ok (.slice none 0 0) w := by kernel_rfl
theorem gz (w : World) : (zeroValue 38).run Try.prog w = .ok (.agg #[iV 0, iV 0, .string ⟨#[]⟩]) w := by kernel_rfl
theorem ed (w : World) : (zeroValue 42).run Try.prog w = .ok (.agg #[iV 0, iV 0, iV 0, iV 0, .slice none 0 0, .slice none 0 0]) w := by kernel_rfl
theorem BY (w : World) : (zeroValue 59).run Try.prog w = .ok (.map none) w := by kernel_rfl
theorem zv (x0_ : Int) (x1_ : Int) (x2_ : Int) (x3_ : Int) (x4_a : Option Addr) (x4_n x4_c : Nat) (x5_a : Option Addr) (x5_n x5_c : Nat) (w : World) : (Instr.field 42 (.agg #[iV x0_, iV x1_, iV x2_, iV x3_, .slice x4_a x4_n x4_c, .slice x5_a x5_n x5_c]) 3).run Try.prog w = .ok (iV x3_) w := by kernel_rfl
theorem zu (x0_ : Int) (x1_ : Int) (x2_ : Int) (x3_ : Int) (x4_a : Option Addr) (x4_n x4_c : Nat) (x5_a : Option Addr) (x5_n x5_c : Nat) (w : World) : (Instr.field 42 (.agg #[iV x0_, iV x1_, iV x2_, iV x3_, .slice x4_a x4_n x4_c, .slice x5_a x5_n x5_c]) 5).run Try.prog w = .ok (.slice x5_a x5_n x5_c) w := by kernel_rfl
theorem Bx  (w : World) : (Instr.build 24 #[]).run Try.prog w = .ok (.agg #[.slice none 0 0, .slice none 0 0]) w := by kernel_rfl
theorem z8 (x0_a : Option Addr) (x0_n x0_c : Nat) (w : World) : (Instr.build 24 #[(0, .slice x0_a x0_n x0_c)]).run Try.prog w = .ok (.agg #[.slice x0_a x0_n x0_c, .slice none 0 0]) w := by kernel_rfl
theorem wD (x0_a : Option Addr) (x0_n x0_c : Nat) (x1_a : Option Addr) (x1_n x1_c : Nat) (w : World) : (Instr.build 24 #[(0, .slice x0_a x0_n x0_c), (1, .slice x1_a x1_n x1_c)]).run Try.prog w = .ok (.agg #[.slice x0_a x0_n x0_c, .slice x1_a x1_n x1_c]) w := by kernel_rfl
theorem Bw  (w : World) : (Instr.build 38 #[]).run Try.prog w = .ok (.agg #[iV 0, iV 0, .string ⟨#[]⟩]) w := by kernel_rfl
theorem vt (x0_ : Int) (w : World) : (Instr.build 38 #[(0, iV x0_)]).run Try.prog w = .ok (.agg #[iV x0_, iV 0, .string ⟨#[]⟩]) w := by kernel_rfl
theorem wB (x0_ : Int) (x1_ : Int) (w : World) : (Instr.build 38 #[(0, iV x0_), (1, iV x1_)]).run Try.prog w = .ok (.agg #[iV x0_, iV x1_, .string ⟨#[]⟩]) w := by kernel_rfl
theorem tZ  (w : World) : (Instr.build 42 #[]).run Try.prog w = .ok (.agg #[iV 0, iV 0, iV 0, iV 0, .slice none 0 0, .slice none 0 0]) w := by kernel_rfl
theorem tY (x0_ : Int) (x3_ : Int) (x4_a : Option Addr) (x4_n x4_c : Nat) (w : World) : (Instr.build 42 #[(0, iV x0_), (3, iV x3_), (4, .slice x4_a x4_n x4_c)]).run Try.prog w = .ok (.agg #[iV x0_, iV 0, iV 0, iV x3_, .slice x4_a x4_n x4_c, .slice none 0 0]) w := by kernel_rfl
theorem wA (x0_ : Int) (x4_a : Option Addr) (x4_n x4_c : Nat) (w : World) : (Instr.build 42 #[(0, iV x0_), (4, .slice x4_a x4_n x4_c)]).run Try.prog w = .ok (.agg #[iV x0_, iV 0, iV 0, iV 0, .slice x4_a x4_n x4_c, .slice none 0 0]) w := by kernel_rfl
theorem z7 (x5_a : Option Addr) (x5_n x5_c : Nat) (w : World) : (Instr.build 42 #[(5, .slice x5_a x5_n x5_c)]).run Try.prog w = .ok (.agg #[iV 0, iV 0, iV 0, iV 0, .slice none 0 0, .slice x5_a x5_n x5_c]) w := by kernel_rfl
theorem tX (x0_0_a : Option Addr) (x0_0_n x0_0_c : Nat) (x0_1_a : Option Addr) (x0_1_n x0_1_c : Nat) (x1_a : Option Addr) (x1_n x1_c : Nat) (x3_ : Option Nat) (w : World) : (Instr.build 61 #[(0, .agg #[.slice x0_0_a x0_0_n x0_0_c, .slice x0_1_a x0_1_n x0_1_c]), (1, .slice x1_a x1_n x1_c), (3, .map x3_)]).run Try.prog w = .ok (.agg #[.slice x0_0_a x0_0_n x0_0_c, .slice x0_1_a x0_1_n x0_1_c, .slice x1_a x1_n x1_c, .slice none 0 0, .map x3_, iV 0]) w := by kernel_rfl
theorem oX (x0_0_ : Int) (x0_1_ : Int) (x0_2_ : Int) (x0_3_ : Int) (x0_4_a : Option Addr) (x0_4_n x0_4_c : Nat) (x0_5_a : Option Addr) (x0_5_n x0_5_c : Nat) (w : World) : (Instr.buildSlice 22 1 #[(0, .agg #[iV x0_0_, iV x0_1_, iV x0_2_, iV x0_3_, .slice x0_4_a x0_4_n x0_4_c, .slice x0_5_a x0_5_n x0_5_c])]).run Try.prog w = .ok (.slice (some ⟨w.heap.size, 0, none⟩) 1 1) (w.alloc (.cells #[iV x0_0_, iV x0_1_, iV x0_2_, iV x0_3_, .slice x0_4_a x0_4_n x0_4_c, .slice x0_5_a x0_5_n x0_5_c] 42)) := by kernel_rfl
theorem z6 (x0_0_ : Int) (x0_1_ : Int) (x0_2_ : Int) (x0_3_ : Int) (x0_4_a : Option Addr) (x0_4_n x0_4_c : Nat) (x0_5_a : Option Addr) (x0_5_n x0_5_c : Nat) (x1_0_ : Int) (x1_1_ : Int) (x1_2_ : Int) (x1_3_ : Int) (x1_4_a : Option Addr) (x1_4_n x1_4_c : Nat) (x1_5_a : Option Addr) (x1_5_n x1_5_c : Nat) (x2_0_ : Int) (x2_1_ : Int) (x2_2_ : Int) (x2_3_ : Int) (x2_4_a : Option Addr) (x2_4_n x2_4_c : Nat) (x2_5_a : Option Addr) (x2_5_n x2_5_c : Nat) (w : World) : (Instr.buildSlice 22 3 #[(0, .agg #[iV x0_0_, iV x0_1_, iV x0_2_, iV x0_3_, .slice x0_4_a x0_4_n x0_4_c, .slice x0_5_a x0_5_n x0_5_c]), (1, .agg #[iV x1_0_, iV x1_1_, iV x1_2_, iV x1_3_, .slice x1_4_a x1_4_n x1_4_c, .slice x1_5_a x1_5_n x1_5_c]), (2, .agg #[iV x2_0_, iV x2_1_, iV x2_2_, iV x2_3_, .slice x2_4_a x2_4_n x2_4_c, .slice x2_5_a x2_5_n x2_5_c])]).run Try.prog w = .ok (.slice (some ⟨w.heap.size, 0, none⟩) 3 3) (w.alloc (.cells #[iV x0_0_, iV x0_1_, iV x0_2_, iV x0_3_, .slice x0_4_a x0_4_n x0_4_c, .slice x0_5_a x0_5_n x0_5_c, iV x1_0_, iV x1_1_, iV x1_2_, iV x1_3_, .slice x1_4_a x1_4_n x1_4_c, .slice x1_5_a x1_5_n x1_5_c, iV x2_0_, iV x2_1_, iV x2_2_, iV x2_3_, .slice x2_4_a x2_4_n x2_4_c, .slice x2_5_a x2_5_n x2_5_c] 42)) := by kernel_rfl
theorem zZ  (w : World) : (Instr.buildSlice 25 0 #[]).run Try.prog w = .ok (.slice (some ⟨w.heap.size, 0, none⟩) 0 0) (w.alloc (.cells #[] 38)) := by kernel_rfl
theorem rJ (x0_0_ : Int) (x0_1_ : Int) (x0_2_ : ByteArray) (w : World) : (Instr.buildSlice 25 1 #[(0, .agg #[iV x0_0_, iV x0_1_, .string x0_2_])]).run Try.prog w = .ok (.slice (some ⟨w.heap.size, 0, none⟩) 1 1) (w.alloc (.cells #[iV x0_0_, iV x0_1_, .string x0_2_] 38)) := by kernel_rfl
theorem vq (x0_0_ : Int) (x0_1_ : Int) (x0_2_ : ByteArray) (x1_0_ : Int) (x1_1_ : Int) (x1_2_ : ByteArray) (w : World) : (Instr.buildSlice 25 2 #[(0, .agg #[iV x0_0_, iV x0_1_, .string x0_2_]), (1, .agg #[iV x1_0_, iV x1_1_, .string x1_2_])]).run Try.prog w = .ok (.slice (some ⟨w.heap.size, 0, none⟩) 2 2) (w.alloc (.cells #[iV x0_0_, iV x0_1_, .string x0_2_, iV x1_0_, iV x1_1_, .string x1_2_] 38)) := by kernel_rfl
theorem zY (x0_0_ : Int) (x0_1_ : Int) (x0_2_ : ByteArray) (x1_0_ : Int) (x1_1_ : Int) (x1_2_ : ByteArray) (x2_0_ : Int) (x2_1_ : Int) (x2_2_ : ByteArray) (w : World) : (Instr.buildSlice 25 3 #[(0, .agg #[iV x0_0_, iV x0_1_, .string x0_2_]), (1, .agg #[iV x1_0_, iV x1_1_, .string x1_2_]), (2, .agg #[iV x2_0_, iV x2_1_, .string x2_2_])]).run Try.prog w = .ok (.slice (some ⟨w.heap.size, 0, none⟩) 3 3) (w.alloc (.cells #[iV x0_0_, iV x0_1_, .string x0_2_, iV x1_0_, iV x1_1_, .string x1_2_, iV x2_0_, iV x2_1_, .string x2_2_] 38)) := by kernel_rfl
theorem zX (x0_0_ : Int) (x0_1_ : Int) (x0_2_ : ByteArray) (x1_0_ : Int) (x1_1_ : Int) (x1_2_ : ByteArray) (x2_0_ : Int) (x2_1_ : Int) (x2_2_ : ByteArray) (x3_0_ : Int) (x3_1_ : Int) (x3_2_ : ByteArray) (w : World) : (Instr.buildSlice 25 4 #[(0, .agg #[iV x0_0_, iV x0_1_, .string x0_2_]), (1, .agg #[iV x1_0_, iV x1_1_, .string x1_2_]), (2, .agg #[iV x2_0_, iV x2_1_, .string x2_2_]), (3, .agg #[iV x3_0_, iV x3_1_, .string x3_2_])]).run Try.prog w = .ok (.slice (some ⟨w.heap.size, 0, none⟩) 4 4) (w.alloc (.cells #[iV x0_0_, iV x0_1_, .string x0_2_, iV x1_0_, iV x1_1_, .string x1_2_, iV x2_0_, iV x2_1_, .string x2_2_, iV x3_0_, iV x3_1_, .string x3_2_] 38)) := by kernel_rfl
theorem fa (x0_ : Int) (w : World) : (Instr.buildSlice 31 1 #[(0, iV x0_)]).run Try.prog w = .ok (.slice (some ⟨w.heap.size, 0, none⟩) 1 1) (w.alloc (.cells #[iV x0_] 3)) := by kernel_rfl
theorem yk (x0_a : Option Addr) (x0_n x0_c : Nat) (x1_a : Option Addr) (x1_n x1_c : Nat) (w : World) : (Instr.buildSlice 101 2 #[(0, .slice x0_a x0_n x0_c), (1, .slice x1_a x1_n x1_c)]).run Try.prog w = .ok (.slice (some ⟨w.heap.size, 0, none⟩) 2 2) (w.alloc (.cells #[.slice x0_a x0_n x0_c, .slice x1_a x1_n x1_c] 25)) := by kernel_rfl
theorem yj (x0_a : Option Addr) (x0_n x0_c : Nat) (x1_a : Option Addr) (x1_n x1_c : Nat) (w : World) : (Instr.buildSlice 147 2 #[(0, .slice x0_a x0_n x0_c), (1, .slice x1_a x1_n x1_c)]).run Try.prog w = .ok (.slice (some ⟨w.heap.size, 0, none⟩) 2 2) (w.alloc (.cells #[.slice x0_a x0_n x0_c, .slice x1_a x1_n x1_c] 22)) := by kernel_rfl
theorem yi (x0_a : Option Addr) (x0_n x0_c : Nat) (x1_a : Option Addr) (x1_n x1_c : Nat) (w : World) : (Instr.buildSlice 149 2 #[(0, .slice x0_a x0_n x0_c), (1, .slice x1_a x1_n x1_c)]).run Try.prog w = .ok (.slice (some ⟨w.heap.size, 0, none⟩) 2 2) (w.alloc (.cells #[.slice x0_a x0_n x0_c, .slice x1_a x1_n x1_c] 31)) := by kernel_rfl
theorem ui : qy Try.prog 3 1 8 = true := by kernel_rfl
theorem yx : qy Try.prog 38 3 32 = true := by kernel_rfl
theorem vy : qy Try.prog 42 6 80 = true := by kernel_rfl
instance : Fc (gZ Try.prog 3 = true) := ⟨dv⟩
instance : Fc (gZ Try.prog 4 = true) := ⟨vW⟩
instance : Fc (gZ Try.prog 9 = true) := ⟨Dv⟩
instance : Fc (gZ Try.prog 22 = true) := ⟨fD⟩
instance : Fc (gZ Try.prog 25 = true) := ⟨ft⟩
instance : Fc (gZ Try.prog 31 = true) := ⟨iD⟩
instance : Fc (gZ Try.prog 59 = true) := ⟨BL⟩
instance : Fc (gZ Try.prog 70 = true) := ⟨C2⟩
instance : FcA0 Try.prog 24 0 := ⟨oP⟩
instance : FcA Try.prog 24 1 1 := ⟨jK⟩
instance : FcA0 Try.prog 38 0 := ⟨ei⟩
instance : FcA Try.prog 38 1 1 := ⟨iP⟩
instance : FcA Try.prog 38 2 2 := ⟨AV⟩
instance : FcA0 Try.prog 42 0 := ⟨AU⟩
instance : FcA Try.prog 42 1 1 := ⟨AT⟩
instance : FcA Try.prog 42 2 2 := ⟨AS⟩
instance : FcA Try.prog 42 3 3 := ⟨xe⟩
instance : FcA Try.prog 42 4 4 := ⟨kV⟩
instance : FcA Try.prog 42 5 5 := ⟨gt⟩
instance : FcA0 Try.prog 61 0 := ⟨xd⟩
instance : FcA Try.prog 61 1 2 := ⟨xc⟩
instance : FcA Try.prog 61 2 3 := ⟨jJ⟩
instance : FcA Try.prog 61 3 4 := ⟨AR⟩
instance : FcA Try.prog 61 4 5 := ⟨tM⟩
theorem sF : Try.prog.eqGuardType Try.prog.depth 38 = false := by kernel_rfl
theorem xg (x y : DValue) (w : World) : (Op.equalIn 10000 38 (.agg #[iV x.Kind, iV x.N, .string x.S]) (.agg #[iV y.Kind, iV y.N, .string y.S])).run Try.prog w = .ok (decide (x = y)) w := by
 obtain ⟨xKind, xN, xS⟩ := x
 obtain ⟨yKind, yN, yS⟩ := y
 show (Op.equalIn 10000 38 (.agg #[iV xKind, iV xN, .string xS]) (.agg #[iV yKind, iV yN, .string yS])).run Try.prog w = _
 go_simp
 simp only [zW]
 by_cases h0 : xKind = yKind <;> by_cases h1 : xN = yN <;> by_cases h2 : xS = yS <;> simp [h0, h1, h2]
theorem uZ {s : bu} {C : World → Prop} {d : Option Nat} {ty u : TypeId} {pos : String} {af : Array Edge} {gd : Option (Nat × Bool)} {a b : Operand} {x y : DValue} (hx : bC s a = some (.agg #[iV x.Kind, iV x.N, .string x.S])) (hy : bC s b = some (.agg #[iV y.Kind, iV y.N, .string y.S])) : Ev Try.prog s C ⟨d, .binOp .eql 38 a b u, ty, pos, af, gd⟩ (.bool (decide (x = y))) :=
 fz hx hy fun w => by
  rw [Sem.run_bind, run_eqGuard_agg w _ _ _ _ _ _ sF]
  simp only [Result.andThen_ok]
  rw [run_eql_struct, xg]
  rfl
theorem ye {s : bu} {C : World → Prop} {d : Option Nat} {ty u : TypeId} {pos : String} {af : Array Edge} {gd : Option (Nat × Bool)} {a b : Operand} {x y : DValue} (hx : bC s a = some (.agg #[iV x.Kind, iV x.N, .string x.S])) (hy : bC s b = some (.agg #[iV y.Kind, iV y.N, .string y.S])) : Ev Try.prog s C ⟨d, .binOp .neq 38 a b u, ty, pos, af, gd⟩ (.bool (!decide (x = y))) :=
 fz hx hy fun w => by
  rw [Sem.run_bind, run_eqGuard_agg w _ _ _ _ _ _ sF]
  simp only [Result.andThen_ok]
  rw [run_neq_struct, xg]
  rfl
def ee (N : Nat) (a0 : Int) : Option DValue :=
 some (⟨7, a0, ⟨#[]⟩⟩ : DValue)
theorem gN {N : Nat} {a0 : Int} {r : DValue} (h : ee N a0 = some r) : Okc Try.prog 29 [iV a0] ([]) (fun u post => u = .agg #[iV r.Kind, iV r.N, .string r.S] ∧ post = []) := by
 refine bz Try.func29 rfl rfl ?_
 simp only [aQ]
 refine run ?_
 refine gD (aS gz rfl) ?_
 rintro _ _ ⟨B1, rfl, rfl⟩
 refine run ?_
 refine gE (dJ rfl (wB _ _)) ?_
 refine gO (ay (us := [iV 7, iV a0, .string (⟨#[]⟩)]) (cs' := [iV 7, iV a0, .string (⟨#[]⟩)]) 0 rfl rfl rfl rfl aG rfl rfl rfl) ?_
 rintro _ _ rfl
 refine run ?_
 obtain rfl := ak h
 exact eX (rs := [.cell 2 38]) (vs := [.agg #[iV 7, iV a0, .string (⟨#[]⟩)]]) rfl (.cons (dD 0 rfl rfl bp) .nil) rfl (ab [] 1 rfl rfl) ⟨rfl, rfl⟩
theorem fJ {r : DValue} : ∀ v post, ((fun (u : Value) (post : List Chunk) => u = .agg #[iV r.Kind, iV r.N, .string r.S] ∧ post = [])) v post → ∀ c ∈ post, bX c := by
 rintro _ _ ⟨rfl, rfl⟩; exact aj
def eu (N : Nat) (a0 : DValue) : Option (Int × Bool) :=
 (bif decide (a0.Kind = 7) then (some true) else (some (decide (a0.Kind = 9)))).bind fun b2 => some (a0.N, b2)
theorem kr {N : Nat} {a0 : DValue} {r : (Int × Bool)} (h : eu N a0 = some r) : Okc Try.prog 68 [.agg #[iV a0.Kind, iV a0.N, .string a0.S]] ([]) (fun u post => u = .tuple #[iV r.1, .bool r.2] ∧ post = []) := by
 refine bz Try.func68 rfl rfl ?_
 simp only [aQ]
 refine run ?_
 refine gD (aU rfl rfl) ?_
 rintro _ _ ⟨B1, rfl, rfl⟩
 refine run ?_
 refine av ?_
 refine dY (by kernel_rfl) _ (ac _) ?_
 refine aW 0 rfl (by kernel_rfl) (cK rfl iP) rfl rfl ?_
 refine bL 1 rfl (by kernel_rfl) (bd 0 rfl rfl dv rfl) rfl rfl ?_
 refine aW 2 rfl (by kernel_rfl) (kY rfl ei) rfl rfl ?_
 refine bL 3 rfl (by kernel_rfl) (bd 0 rfl rfl dv rfl) rfl rfl ?_
 refine aW 4 rfl (by kernel_rfl) (oR rfl rfl) rfl rfl ?_
 refine aW 5 rfl (by kernel_rfl) (aI rfl) rfl rfl ?_
 refine aW 10 rfl (by kernel_rfl) (bP rfl) rfl rfl ?_
 obtain ⟨b2, hb2, h⟩ := aa h
 refine rL (fun l => ((((l.setIfInBounds 6 true).setIfInBounds 7 true).setIfInBounds 8 true).setIfInBounds 9 true)) 1 13 b2 (fun rest => ?_) ?_
 ·clear h
  refine ue 9 rfl (fun g2 => ?_) (fun g2 => ?_)
  ·have h := ag g2 hb2
   refine kz 6 rfl (by kernel_rfl) (oJ g2 rfl) rfl ?_
   refine kz 7 rfl (by kernel_rfl) (oJ g2 rfl) rfl ?_
   refine kz 8 rfl (by kernel_rfl) (oJ g2 rfl) rfl ?_
   refine aW 9 rfl (by kernel_rfl) (dm g2 rfl rfl) rfl rfl ?_
   obtain rfl := ak h
   exact pF rest (gW rfl (bh (bh (bh (bh cI rfl) rfl) rfl) rfl)) (ac _) (ac _)
  have h := ah g2 hb2
  refine aW 6 rfl (by kernel_rfl) (kY rfl ei) (cO g2 rfl) rfl ?_
  refine bL 7 rfl (by kernel_rfl) (bd 0 rfl rfl dv rfl) (cO g2 rfl) rfl ?_
  refine aW 8 rfl (by kernel_rfl) (oR rfl rfl) (cO g2 rfl) rfl ?_
  refine aW 9 rfl (by kernel_rfl) (dn g2 rfl rfl) rfl rfl ?_
  obtain rfl := ak h
  exact pF rest (gW rfl (bh (bh (bh (bh cI rfl) rfl) rfl) rfl)) (ac _) (ac _)
 refine aW 11 rfl (by kernel_rfl) (bP rfl) rfl rfl ?_
 refine dX (by kernel_rfl) ?_
 refine run ?_
 obtain rfl := ak h
 exact Df rfl rfl rfl (ab [] 1 rfl rfl) ⟨rfl, rfl⟩
theorem jk {r : (Int × Bool)} : ∀ v post, ((fun (u : Value) (post : List Chunk) => u = .tuple #[iV r.1, .bool r.2] ∧ post = [])) v post → ∀ c ∈ post, bX c := by
 rintro _ _ ⟨rfl, rfl⟩; exact aj
def gb (N : Nat) (a1 : Int) (p6 : (List DCell)) (p7 : Int) : Option ((List DCell) × Int × Bool) :=
 (bif decide (0 < a1) then (some (decide (p7 < (p6.length : Int)))) else (some false)).bind fun b11 => some (p6, p7, b11)
def gP (N : Nat) (a0 : DMemory) (a1 : Int) : Option ((List DCell) × Int × Bool) :=
 bD (aK (a1.tdiv 2)) (bif decide (a1.tmod 2 = 0) then (bD (aK (a1.tdiv 2)) (bD (aK ((a1.tdiv 2) - 1)) (gb N a1 a0.Old ((a1.tdiv 2) - 1)))) else (gb N a1 a0.Young (a1.tdiv 2)))
theorem qS {N : Nat} {a0 : DMemory} {a1 : Int} {r : ((List DCell) × Int × Bool)} (h : gP N a0 a1 = some r) : Okc Try.prog 101 [.agg #[.slice A1 n1 c1, .slice A2 n2 c2], iV a1] ([aR A1 n1 c1 a0.Young, aR A2 n2 c2 a0.Old]) (fun u post => ∃ A0 n0 c0, u = .tuple #[.slice A0 n0 c0, iV r.2.1, .bool r.2.2] ∧ post = [aR A0 n0 c0 r.1]) := by
 refine bz Try.func101 rfl rfl ?_
 simp only [aQ]
 refine run ?_
 refine gD (aU rfl rfl) ?_
 rintro _ _ ⟨B3, rfl, rfl⟩
 refine run ?_
 obtain ⟨q4, h⟩ := ao h
 refine gE (py rfl rfl (by decide) q4.1 q4.2) ?_
 refine run ?_
 refine aL (fun s L => ∃ p6 p7 A6 n6 c6, gb N a1 p6 p7 = some r ∧ s = [(1, iV a1), (4, .slice none 0 0), (5, iV 0), (6, .bool false), (7, .slice A6 n6 c6), (8, iV p7)] ∧ L = [aR A6 n6 c6 p6]) ?_ ?_
 ·refine run ?_
  refine gE (mg rfl rfl (by decide)) ?_
  refine run ?_
  refine ar rfl (fun g8 => ?_) (fun g8 => ?_)
  ·replace h := ag g8 h
   refine run ?_
   obtain ⟨q9, h⟩ := ao h
   refine gE (py rfl rfl (by decide) q9.1 q9.2) ?_
   obtain ⟨q10, h⟩ := ao h
   refine gE (jV rfl rfl q10.1 q10.2) ?_
   refine run ?_
   exact ⟨_, _, ⟨a0.Old, (a1.tdiv 2) - 1, A2, n2, c2, h, rfl, rfl⟩, sA, ab [2] 3 rfl rfl⟩
  replace h := ah g8 h
  refine run ?_
  exact ⟨_, _, ⟨a0.Young, a1.tdiv 2, A1, n1, c1, h, rfl, rfl⟩, sA, ab [1] 3 rfl rfl⟩
 rintro _ _ ⟨p6, p7, A6, n6, c6, h, rfl, rfl⟩
 refine run ?_
 obtain ⟨b11, hb11, h⟩ := aa h
 refine aw 5 30 b11 ?_ ?_
 ·clear h
  refine ax 25 rfl (fun g11 => ?_) (fun g11 => ?_)
  ·have h := ag g11 hb11
   refine run ?_
   refine aZ (az 0 rfl ai rfl Try.underlying22) rfl (aJ g11 rfl) rfl ?_
   refine run ?_
   obtain rfl := ak h
   exact ad sA (ab [0] 1 rfl rfl)
  have h := ah g11 hb11
  refine run ?_
  obtain rfl := ak h
  exact ad sA (ab [0] 1 rfl rfl)
 refine run ?_
 obtain rfl := ak h
 exact De rfl rfl rfl rfl (ab [0] 1 rfl rfl) ⟨_, _, _, rfl, rfl⟩
def eQ (N : Nat) (a0 : DMemory) (a1 : Int) : Option Bool :=
 (gP N a0 a1).bind fun y4 => some y4.2.2
theorem kH {N : Nat} {a0 : DMemory} {a1 : Int} {r : Bool} (h : eQ N a0 a1 = some r) : Okc Try.prog 69 [.agg #[.slice A1 n1 c1, .slice A2 n2 c2], iV a1] ([aR A1 n1 c1 a0.Young, aR A2 n2 c2 a0.Old]) (fun u post => u = .bool r ∧ post = []) := by
 refine bz Try.func69 rfl rfl ?_
 simp only [aQ]
 refine run ?_
 refine gD (aU rfl rfl) ?_
 rintro _ _ ⟨B3, rfl, rfl⟩
 refine run ?_
 refine gR (aE (us := [.slice A1 n1 c1, .slice A2 n2 c2]) 0 rfl rfl ex rfl) ?_
 refine run ?_
 obtain ⟨y4, hy4, h⟩ := aa h
 refine gD (cg (qS hy4) Bv rfl (bO [1, 2] [] [0, 1, 2] 3 rfl)) ?_
 rintro _ _ ⟨_, ⟨A5, n5, c5, rfl, rfl⟩, rfl⟩
 refine run ?_
 obtain rfl := ak h
 exact aB rfl rfl (ab [] 4 rfl rfl) ⟨rfl, rfl⟩
theorem ja {r : Bool} : ∀ v post, ((fun (u : Value) (post : List Chunk) => u = .bool r ∧ post = [])) v post → ∀ c ∈ post, bX c := by
 rintro _ _ ⟨rfl, rfl⟩; exact aj
def gm (N : Nat) (a0 : DValue) (a1 : DMemory) : Option Bool :=
 (eu N a0).bind fun y5 => (bif y5.2 then ((eQ N a1 y5.1).bind fun y7 => some (!y7)) else (some false)).bind fun b6 => some b6
theorem ql {N : Nat} {a0 : DValue} {a1 : DMemory} {r : Bool} (h : gm N a0 a1 = some r) : Okc Try.prog 67 [.agg #[iV a0.Kind, iV a0.N, .string a0.S], pV B1 0] ([bY B1 24 [.slice A2 n2 c2, .slice A3 n3 c3], aR A2 n2 c2 a1.Young, aR A3 n3 c3 a1.Old]) (fun u post => u = .bool r ∧ post = []) := by
 refine bz Try.func67 rfl rfl ?_
 simp only [aQ]
 refine run ?_
 refine gD (aU rfl rfl) ?_
 rintro _ _ ⟨B4, rfl, rfl⟩
 refine run ?_
 refine gR (aE (us := [iV a0.Kind, iV a0.N, .string a0.S]) 0 rfl rfl bp rfl) ?_
 obtain ⟨y5, hy5, h⟩ := aa h
 refine gD (al (kr hy5) zL rfl (aj) jk) ?_
 rintro _ _ ⟨_, ⟨rfl, rfl⟩, rfl⟩
 refine run ?_
 obtain ⟨b6, hb6, h⟩ := aa h
 refine aw 5 17 b6 ?_ ?_
 ·clear h
  refine ax 12 rfl (fun g6 => ?_) (fun g6 => ?_)
  ·have h := ag g6 hb6
   refine aZ (uw (us := [.slice A2 n2 c2, .slice A3 n3 c3]) 1 rfl rfl ex rfl) rfl (aJ g6 rfl) rfl ?_
   refine run ?_
   obtain ⟨y7, hy7, h⟩ := aa h
   refine bM (al (kH hy7) wv rfl (mem_cons (am (i := 2) rfl rfl) (mem_cons (am (i := 3) rfl rfl) aj)) ja) rfl (aJ g6 rfl) rfl ?_
   rintro _ _ ⟨_, ⟨rfl, rfl⟩, rfl⟩
   refine run ?_
   obtain rfl := ak h
   exact ad sA (ab [0, 1, 2, 3] 4 rfl rfl)
  have h := ah g6 hb6
  refine run ?_
  obtain rfl := ak h
  exact ad sA (ab [0, 1, 2, 3] 4 rfl rfl)
 refine run ?_
 obtain rfl := ak h
 exact aB rfl rfl (ab [] 4 rfl rfl) ⟨rfl, rfl⟩
def fq (N : Nat) (ff : DValue → Option Bool) : Option Int :=
 some (-1)
def slices_IndexFunc_Value_l3 (N : Nat) (ff : DValue → Option Bool) (a0 : (List DValue)) : Nat → Int → Option Int
 | 0, _ => none
 | m3 + 1, p4 => bif decide (p4 < (a0.length : Int)) then ((aH a0 p4).bind fun x6 => (ff x6).bind fun y7 => bif y7 then (some p4) else (bD (aK (p4 + 1)) ((slices_IndexFunc_Value_l3 N ff a0 m3) (p4 + 1)))) else (fq N ff)
def dQ (N : Nat) (a0 : (List DValue)) (ff : DValue → Option Bool) : Option Int :=
 slices_IndexFunc_Value_l3 N ff a0 N 0
theorem jz {N : Nat} {a0 : (List DValue)} {ff : DValue → Option Bool} {r : Int} (h : dQ N a0 ff = some r) {vf : Value} {G : List Chunk} (hf : wH Try.prog vf G (fun x => [.agg #[iV x.Kind, iV x.N, .string x.S]]) (fun r => .bool r) ff) : Okc Try.prog 105 [.slice A1 n1 c1, vf] (aF A1 n1 c1 a0 :: G) (fun u post => u = iV r ∧ post = []) := by
 refine bz Try.func105 rfl rfl ?_
 simp only [aQ]
 refine run ?_
 refine aL (fun s L => fq N ff = some r ∧ s = [(4, iV 0)] ∧ L = G) ?_ ?_
 ·refine run ?_
  refine gR (az 0 rfl ai rfl Try.underlying25) ?_
  refine run ?_
  refine bc (fun m s L => ∃ p4, slices_IndexFunc_Value_l3 N ff a0 m p4 = some r ∧ s = [(0, .slice A1 n1 c1), (1, vf), (4, iV 0), (7, iV (a0.length : Int)), (8, iV p4)] ∧ L = aF A1 n1 c1 a0 :: G) N _ _ ⟨0, h, rfl, rfl⟩ sA (ab [0] 1 rfl rfl) ?_
  rintro (_ | m3) _ _ ⟨p4, h, rfl, rfl⟩
  ·exact aA h
  rw [slices_IndexFunc_Value_l3.eq_2] at h
  refine run ?_
  refine av ?_
  refine ar rfl (fun g5 => ?_) (fun g5 => ?_)
  ·replace h := ag g5 h
   refine run ?_
   refine av ?_
   refine run ?_
   obtain ⟨x6, hx6, h⟩ := aa h
   obtain ⟨lx6, ux6, hx6⟩ := ap hx6
   refine gR (aC 0 rfl ai rfl rfl Try.underlying25 aG lx6 ux6) ?_
   refine gR (aO (us := [iV x6.Kind, iV x6.N, .string x6.S]) 0 rfl ai rfl hx6 bp (fun _ _ _ h => by rw [show _ = _ from h]; rfl)) ?_
   obtain ⟨y7, hy7, h⟩ := aa h
   refine gD (rd (a := x6) [aF A1 n1 c1 a0] hf hy7 rfl rfl) ?_
   rintro _ _ ⟨rfl, rfl⟩
   refine run ?_
   refine ar rfl (fun g8 => ?_) (fun g8 => ?_)
   ·replace h := ag g8 h
    refine run ?_
    obtain rfl := ak h
    exact aB rfl rfl (kZ [] 1 rfl rfl) ⟨rfl, rfl⟩
   replace h := ah g8 h
   refine run ?_
   obtain ⟨q9, h⟩ := ao h
   refine gE (aN rfl rfl q9.1 q9.2) ?_
   refine run ?_
   exact ⟨m3, _, _, Nat.lt_succ_self _, ⟨p4 + 1, h, rfl, rfl⟩, sA, ab [0] 1 rfl rfl⟩
  replace h := ah g5 h
  refine run ?_
  exact ⟨_, _, ⟨h, rfl, rfl⟩, sA, ab [] 1 rfl rfl⟩
 rintro _ _ ⟨h, rfl, rfl⟩
 refine run ?_
 obtain rfl := ak h
 exact aB rfl rfl (kZ [] 0 rfl rfl) ⟨rfl, rfl⟩
theorem iK {r : Int} : ∀ v post, ((fun (u : Value) (post : List Chunk) => u = iV r ∧ post = [])) v post → ∀ c ∈ post, bX c := by
 rintro _ _ ⟨rfl, rfl⟩; exact aj
def bR (N : Nat) (a0 : (List DValue)) (ff : DValue → Option Bool) : Option Bool :=
 (dQ N a0 ff).bind fun y2 => some (decide (0 ≤ y2))
theorem im {N : Nat} {a0 : (List DValue)} {ff : DValue → Option Bool} {r : Bool} (h : bR N a0 ff = some r) {vf : Value} {G : List Chunk} (hf : wH Try.prog vf G (fun x => [.agg #[iV x.Kind, iV x.N, .string x.S]]) (fun r => .bool r) ff) : Okc Try.prog 70 [.slice A1 n1 c1, vf] (aF A1 n1 c1 a0 :: G) (fun u post => u = .bool r ∧ post = []) := by
 refine bz Try.func70 rfl rfl ?_
 simp only [aQ]
 refine run ?_
 obtain ⟨y2, hy2, h⟩ := aa h
 refine gD (al (jz hy2 hf) Bu rfl (mem_cons (am (i := 0) rfl rfl) (pq (E := [aF A1 n1 c1 a0]) hf.1)) iK) ?_
 rintro _ _ ⟨_, ⟨rfl, rfl⟩, rfl⟩
 refine run ?_
 obtain rfl := ak h
 exact aB rfl rfl (kZ [] 1 rfl rfl) ⟨rfl, rfl⟩
theorem gA {r : Bool} : ∀ v post, ((fun (u : Value) (post : List Chunk) => u = .bool r ∧ post = [])) v post → ∀ c ∈ post, bX c := by
 rintro _ _ ⟨rfl, rfl⟩; exact aj
def dr (N : Nat) (p3 : (List DCell)) : Option (List DCell) :=
 some p3
def eO (N : Nat) (a1 : Int) : Option (List DCell) :=
 bif decide (a1 < 0) then none else (bD (aK (0 - 0)) (bD (aK (a1 - (0 - 0))) (bif decide (0 < a1 - (0 - 0)) then (bD ((0 : Int) < (a1 - (0 - 0)) ∧ (a1 - (0 - 0)) ≤ 1099511627776) (dr N ([] : List DCell))) else (dr N []))))
theorem ls {N : Nat} {a1 : Int} {r : (List DCell)} (h : eO N a1 = some r) : Okc Try.prog 141 [.slice none 0 0, iV a1] ([]) (fun u post => ∃ A0 n0 c0, u = .slice A0 n0 c0 ∧ post = [f4 A0 n0 c0 r]) := by
 refine bz Try.func141 rfl rfl ?_
 simp only [aQ]
 refine run ?_
 refine av ?_
 refine run ?_
 refine ar rfl (fun g1 => ?_) (fun g1 => ?_)
 ·replace h := ag g1 h
  exact aA h
 replace h := ah g1 h
 refine run ?_
 refine aL (fun s L => ∃ p3 A3 n3 c3, dr N p3 = some r ∧ s = [(0, .slice A3 n3 c3), (4, .slice none 0 0)] ∧ L = [f4 A3 n3 c3 p3]) ?_ ?_
 ·refine run ?_
  refine gE (qt rfl Try.underlying22) ?_
  refine run ?_
  refine gE (jp rfl Try.underlying22) ?_
  obtain ⟨q4, h⟩ := ao h
  refine gE (jV rfl rfl q4.1 q4.2) ?_
  obtain ⟨q5, h⟩ := ao h
  refine gE (jV rfl rfl q5.1 q5.2) ?_
  refine run ?_
  refine ar rfl (fun g6 => ?_) (fun g6 => ?_)
  ·replace h := ag g6 h
   refine run ?_
   refine gE (qt rfl Try.underlying22) ?_
   refine gE (sG rfl Try.underlying22 bq rfl) ?_
   refine run ?_
   obtain ⟨q7, h⟩ := ao h
   refine gD (re rfl rfl Try.underlying22 Try.underlying3 vy rfl q7.1 q7.2) ?_
   rintro _ _ ⟨A8, n8, c8, rfl, rfl⟩
   refine run ?_
   refine gE (jp rfl Try.underlying22) ?_
   refine gD (wT (R := dl) 0 rfl rfl Try.underlying22 bq rfl rfl) ?_
   rintro _ _ ⟨A9, n9, c9, rfl, rfl⟩
   refine run ?_
   exact ⟨_, _, ⟨([] : List DCell), A9, n9, c9, h, rfl, rfl⟩, sA, ab [0] 1 rfl rfl⟩
  replace h := ah g6 h
  refine run ?_
  exact ⟨_, _, ⟨[], none, 0, 0, h, rfl, rfl⟩, sA, (cz dl 42 _).trans (ab [0] 1 rfl rfl)⟩
 rintro _ _ ⟨p3, A3, n3, c3, h, rfl, rfl⟩
 refine run ?_
 obtain rfl := ak h
 exact aB rfl rfl (ab [0] 1 rfl rfl) ⟨_, _, _, rfl, rfl⟩
def eg (N : Nat) (p12 : (List DCell)) : Option (List DCell) :=
 some p12
def eD (N : Nat) (a0_0 : (List DCell)) (a0_1 : (List DCell)) : Option (List DCell) :=
 (eO N ((0 + (a0_0.length : Int)) + (a0_1.length : Int))).bind fun y9 => bD (cu (y9.length + a0_0.length)) (bD (cu ((y9 ++ a0_0).length + a0_1.length)) (eg N ((y9 ++ a0_0) ++ a0_1)))
def dC (N : Nat) (a0_0 : (List DCell)) (a0_1 : (List DCell)) : Option (List DCell) :=
 bD (aK (0 + (a0_0.length : Int))) (bif decide (0 + (a0_0.length : Int) < 0) then none else (bD (aK ((0 + (a0_0.length : Int)) + (a0_1.length : Int))) (bif decide ((0 + (a0_0.length : Int)) + (a0_1.length : Int) < 0) then none else (eD N a0_0 a0_1))))
theorem lu {N : Nat} {a0_0 : (List DCell)} {a0_1 : (List DCell)} {r : (List DCell)} (h : dC N a0_0 a0_1 = some r) : Okc Try.prog 106 [.slice (some ⟨B1, 0, none⟩) 2 2] ([bY B1 22 [.slice A2 n2 c2, .slice A3 n3 c3], aR A2 n2 c2 a0_0, aR A3 n3 c3 a0_1]) (fun u post => ∃ A0 n0 c0, u = .slice A0 n0 c0 ∧ post = [f4 A0 n0 c0 r]) := by
 refine bz Try.func106 rfl rfl ?_
 simp only [aQ]
 refine run ?_
 refine aL (fun s L => eD N a0_0 a0_1 = some r ∧ s = [(0, .slice (some ⟨B1, 0, none⟩) 2 2), (2, .slice none 0 0), (3, iV ((0 + (a0_0.length : Int)) + (a0_1.length : Int)))] ∧ L = [aR A2 n2 c2 a0_0, aR A3 n3 c3 a0_1, bY B1 22 [.slice A2 n2 c2, .slice A3 n3 c3]]) ?_ ?_
 ·refine run ?_
  refine gE (jp rfl Try.underlying147) ?_
  refine run ?_
  refine ms 3 ?_
  refine nN ?_
  refine run ?_
  refine av ?_
  refine fI rfl ?_
  refine run ?_
  refine av ?_
  refine run ?_
  refine gE (jq rfl rfl Try.underlying147 nw (by decide) (by decide)) ?_
  refine gR (bJ 0 rfl rfl fD rfl) ?_
  refine run ?_
  refine gR (az 1 rfl ai rfl Try.underlying22) ?_
  obtain ⟨q5, h⟩ := ao h
  refine gE (aN rfl rfl q5.1 q5.2) ?_
  refine run ?_
  refine ar rfl (fun g6 => ?_) (fun g6 => ?_)
  ·replace h := ag g6 h
   exact aA h
  replace h := ah g6 h
  refine run ?_
  refine gE (aN rfl rfl (by decide) (by decide)) ?_
  refine run ?_
  refine nN ?_
  refine run ?_
  refine av ?_
  refine fI rfl ?_
  refine run ?_
  refine av ?_
  refine run ?_
  refine gE (jq rfl rfl Try.underlying147 nw (by decide) (by decide)) ?_
  refine gR (bJ 0 rfl rfl fD rfl) ?_
  refine run ?_
  refine gR (az 2 rfl ai rfl Try.underlying22) ?_
  obtain ⟨q7, h⟩ := ao h
  refine gE (aN rfl rfl q7.1 q7.2) ?_
  refine run ?_
  refine ar rfl (fun g8 => ?_) (fun g8 => ?_)
  ·replace h := ag g8 h
   exact aA h
  replace h := ah g8 h
  refine run ?_
  refine gE (aN rfl rfl (by decide) (by decide)) ?_
  refine run ?_
  refine nN ?_
  refine run ?_
  refine av ?_
  refine mu rfl ?_
  refine run ?_
  exact ⟨_, _, ⟨h, rfl, rfl⟩, sA, ab [1, 2, 0] 3 rfl rfl⟩
 rintro _ _ ⟨h, rfl, rfl⟩
 refine run ?_
 obtain ⟨y9, hy9, h⟩ := aa h
 refine gD (cg (ls hy9) Be rfl (bO [] [] [0, 1, 2] 3 rfl)) ?_
 rintro _ _ ⟨_, ⟨A10, n10, c10, rfl, rfl⟩, rfl⟩
 refine run ?_
 refine aL (fun s L => ∃ p12 A12 n12 c12, eg N p12 = some r ∧ s = [(2, .slice none 0 0), (6, .slice A12 n12 c12)] ∧ L = [f4 A12 n12 c12 p12]) ?_ ?_
 ·refine run ?_
  refine gE (jp rfl Try.underlying147) ?_
  refine run ?_
  refine ms 3 ?_
  refine nN ?_
  refine run ?_
  refine av ?_
  refine fI rfl ?_
  refine run ?_
  refine av ?_
  refine run ?_
  refine gE (jq rfl rfl Try.underlying147 nw (by decide) (by decide)) ?_
  refine gR (bJ 3 rfl rfl fD rfl) ?_
  refine run ?_
  obtain ⟨q13, h⟩ := ao h
  refine gD (bm 0 1 rfl rfl ai rfl rfl Try.underlying22 vy rfl rfl q13) ?_
  rintro _ _ ⟨A14, n14, c14, rfl, rfl⟩
  refine run ?_
  refine gE (aN rfl rfl (by decide) (by decide)) ?_
  refine run ?_
  refine nN ?_
  refine run ?_
  refine av ?_
  refine fI rfl ?_
  refine run ?_
  refine av ?_
  refine run ?_
  refine gE (jq rfl rfl Try.underlying147 nw (by decide) (by decide)) ?_
  refine gR (bJ 3 rfl rfl fD rfl) ?_
  refine run ?_
  obtain ⟨q15, h⟩ := ao h
  refine gD (bm 0 2 rfl rfl ai rfl rfl Try.underlying22 vy rfl rfl q15) ?_
  rintro _ _ ⟨A16, n16, c16, rfl, rfl⟩
  refine ck ([f4 A16 n16 c16 ((y9 ++ a0_0) ++ a0_1), aR A2 n2 c2 a0_0, aR A3 n3 c3 a0_1, bY B1 22 [.slice A2 n2 c2, .slice A3 n3 c3]]) rfl ?_
  refine run ?_
  refine gE (aN rfl rfl (by decide) (by decide)) ?_
  refine run ?_
  refine nN ?_
  refine run ?_
  refine av ?_
  refine mu rfl ?_
  refine run ?_
  exact ⟨_, _, ⟨(y9 ++ a0_0) ++ a0_1, A16, n16, c16, h, rfl, rfl⟩, sA, ab [0] 4 rfl rfl⟩
 rintro _ _ ⟨p12, A12, n12, c12, h, rfl, rfl⟩
 refine run ?_
 obtain rfl := ak h
 exact aB rfl rfl (ab [0] 1 rfl rfl) ⟨_, _, _, rfl, rfl⟩
def cell_all_c1_l15 (N : Nat) {σ : Type} (fy : (Bool × DValue) → σ → Option (Bool × σ)) (a1 : DCell) : Nat → Int → σ → Option σ
 | 0, _, _ => none
 | m15 + 1, p16, p17 => bif decide (p16 < (a1.More.length : Int)) then ((aH a1.More p16).bind fun x19 => (bif !decide (a1.Kind = 8) then ((bif !decide (a1.Kind = 10) then (some true) else (some (decide (p16.tmod 2 = 0)))).bind fun b22 => some b22) else (some false)).bind fun b21 => (fy (b21, x19) p17).bind fun y23 => bif !y23.1 then (some y23.2) else (bD (aK (p16 + 1)) ((cell_all_c1_l15 N fy a1 m15) (p16 + 1) y23.2))) else (some p17)
def jt (N : Nat) {σ : Type} (fy : (Bool × DValue) → σ → Option (Bool × σ)) (a1 : DCell) (p5 : σ) : Option σ :=
 cell_all_c1_l15 N fy a1 N 0 p5
def cell_all_c1_l6 (N : Nat) {σ : Type} (fy : (Bool × DValue) → σ → Option (Bool × σ)) (a1 : DCell) : Nat → Int → σ → Option σ
 | 0, _, _ => none
 | m6 + 1, p7, p8 => bif decide (p7 < (a1.Slots.length : Int)) then ((aH a1.Slots p7).bind fun x10 => (fy (true, x10) p8).bind fun y12 => bif !y12.1 then (some y12.2) else (bD (aK (p7 + 1)) ((cell_all_c1_l6 N fy a1 m6) (p7 + 1) y12.2))) else (jt N fy a1 p8)
def fG (N : Nat) {σ : Type} (a1 : DCell) (fy : (Bool × DValue) → σ → Option (Bool × σ)) (s0 : σ) : Option σ :=
 cell_all_c1_l6 N fy a1 N 0 s0
theorem mm {N : Nat} {σ : Type} {a1 : DCell} {fy : (Bool × DValue) → σ → Option (Bool × σ)} {s0 : σ} {r : σ} (h : fG N a1 fy s0 = some r) {l : Nat} {G : σ → List Chunk} (hY : lg Try.prog l G (fun x => [.bool x.1, .agg #[iV x.2.Kind, iV x.2.N, .string x.2.S]]) fy) : Okc Try.prog 151 [.func (.yield l) #[] #[], pV B1 0] (bY B1 42 [iV a1.Kind, iV a1.Shape, iV a1.Flags, iV a1.Age, .slice A2 n2 c2, .slice A3 n3 c3] :: aF A2 n2 c2 a1.Slots :: aF A3 n3 c3 a1.More :: (G s0)) (fun u post => u = .tuple #[] ∧ post = G r) := by
 refine bz Try.func151 rfl rfl ?_
 simp only [aQ]
 refine aL (fun s L => ∃ p5, jt N fy a1 p5 = some r ∧ s = [(0, .func (.yield l) #[] #[]), (1, pV B1 0)] ∧ L = aF A2 n2 c2 a1.Slots :: aF A3 n3 c3 a1.More :: bY B1 42 [iV a1.Kind, iV a1.Shape, iV a1.Flags, iV a1.Age, .slice A2 n2 c2, .slice A3 n3 c3] :: (G p5)) ?_ ?_
 ·refine run ?_
  refine gR (bJ 0 rfl rfl ft rfl) ?_
  refine gR (az 1 rfl ai rfl Try.underlying25) ?_
  refine run ?_
  refine bc (fun m s L => ∃ p7 p8, cell_all_c1_l6 N fy a1 m p7 p8 = some r ∧ s = [(0, .func (.yield l) #[] #[]), (1, pV B1 0), (9, .slice A2 n2 c2), (10, iV (a1.Slots.length : Int)), (11, iV p7)] ∧ L = aF A2 n2 c2 a1.Slots :: aF A3 n3 c3 a1.More :: bY B1 42 [iV a1.Kind, iV a1.Shape, iV a1.Flags, iV a1.Age, .slice A2 n2 c2, .slice A3 n3 c3] :: (G p8)) N _ _ ⟨0, s0, h, rfl, rfl⟩ sA (ab [1, 2, 0] 3 rfl rfl) ?_
  rintro (_ | m6) _ _ ⟨p7, p8, h, rfl, rfl⟩
  ·exact aA h
  rw [cell_all_c1_l6.eq_2] at h
  refine run ?_
  refine av ?_
  refine ar rfl (fun g9 => ?_) (fun g9 => ?_)
  ·replace h := ag g9 h
   refine run ?_
   refine av ?_
   refine run ?_
   obtain ⟨x10, hx10, h⟩ := aa h
   obtain ⟨lx10, ux10, hx10⟩ := ap hx10
   refine gR (aC 0 rfl ai rfl rfl Try.underlying25 aG lx10 ux10) ?_
   refine gR (aO (us := [iV x10.Kind, iV x10.N, .string x10.S]) 0 rfl ai rfl hx10 bp (fun _ _ _ h => by rw [show _ = _ from h]; rfl)) ?_
   refine gD (aS gz rfl) ?_
   rintro _ _ ⟨B11, rfl, rfl⟩
   refine gO (ay (us := [iV x10.Kind, iV x10.N, .string x10.S]) (cs' := [iV x10.Kind, iV x10.N, .string x10.S]) 0 rfl rfl rfl rfl aG rfl rfl rfl) ?_
   rintro _ _ rfl
   refine run ?_
   refine gR (aE (us := [iV x10.Kind, iV x10.N, .string x10.S]) 0 rfl rfl bp rfl) ?_
   obtain ⟨y12, hy12, h⟩ := aa h
   refine gD (pi (a := (true, x10)) [aq B11 38 [iV x10.Kind, iV x10.N, .string x10.S], aF A2 n2 c2 a1.Slots, aF A3 n3 c3 a1.More, bY B1 42 [iV a1.Kind, iV a1.Shape, iV a1.Flags, iV a1.Age, .slice A2 n2 c2, .slice A3 n3 c3]] hY hy12 rfl rfl) ?_
   rintro _ _ ⟨rfl, rfl⟩
   refine run ?_
   refine ar rfl (fun g13 => ?_) (fun g13 => ?_)
   ·replace h := ag g13 h
    refine run ?_
    obtain rfl := ak h
    exact vb rfl (ab [] 4 rfl rfl) ⟨rfl, rfl⟩
   replace h := ah g13 h
   refine run ?_
   obtain ⟨q14, h⟩ := ao h
   refine gE (aN rfl rfl q14.1 q14.2) ?_
   refine run ?_
   exact ⟨m6, _, _, Nat.lt_succ_self _, ⟨p7 + 1, y12.2, h, rfl, rfl⟩, sA, ab [1, 2, 3] 4 rfl rfl⟩
  replace h := ah g9 h
  refine run ?_
  exact ⟨_, _, ⟨p8, h, rfl, rfl⟩, sA, ab [0, 1, 2] 3 rfl rfl⟩
 rintro _ _ ⟨p5, h, rfl, rfl⟩
 refine run ?_
 refine gR (bJ 2 rfl rfl ft rfl) ?_
 refine gR (az 1 rfl ai rfl Try.underlying25) ?_
 refine run ?_
 refine bc (fun m s L => ∃ p16 p17, cell_all_c1_l15 N fy a1 m p16 p17 = some r ∧ s = [(0, .func (.yield l) #[] #[]), (1, pV B1 0), (21, .slice A3 n3 c3), (22, iV (a1.More.length : Int)), (23, iV p16)] ∧ L = aF A3 n3 c3 a1.More :: aF A2 n2 c2 a1.Slots :: bY B1 42 [iV a1.Kind, iV a1.Shape, iV a1.Flags, iV a1.Age, .slice A2 n2 c2, .slice A3 n3 c3] :: (G p17)) N _ _ ⟨0, p5, h, rfl, rfl⟩ sA (ab [1, 0, 2] 3 rfl rfl) ?_
 rintro (_ | m15) _ _ ⟨p16, p17, h, rfl, rfl⟩
 ·exact aA h
 rw [cell_all_c1_l15.eq_2] at h
 refine run ?_
 refine av ?_
 refine ar rfl (fun g18 => ?_) (fun g18 => ?_)
 ·replace h := ag g18 h
  refine run ?_
  refine av ?_
  refine run ?_
  obtain ⟨x19, hx19, h⟩ := aa h
  obtain ⟨lx19, ux19, hx19⟩ := ap hx19
  refine gR (aC 0 rfl ai rfl rfl Try.underlying25 aG lx19 ux19) ?_
  refine gR (aO (us := [iV x19.Kind, iV x19.N, .string x19.S]) 0 rfl ai rfl hx19 bp (fun _ _ _ h => by rw [show _ = _ from h]; rfl)) ?_
  refine gD (aS gz rfl) ?_
  rintro _ _ ⟨B20, rfl, rfl⟩
  refine run ?_
  refine gO (ay (us := [iV x19.Kind, iV x19.N, .string x19.S]) (cs' := [iV x19.Kind, iV x19.N, .string x19.S]) 0 rfl rfl rfl rfl aG rfl rfl rfl) ?_
  rintro _ _ rfl
  refine ck (aq B20 38 [iV x19.Kind, iV x19.N, .string x19.S] :: aF A3 n3 c3 a1.More :: aF A2 n2 c2 a1.Slots :: bY B1 42 [iV a1.Kind, iV a1.Shape, iV a1.Flags, iV a1.Age, .slice A2 n2 c2, .slice A3 n3 c3] :: (G p17)) rfl ?_
  refine run ?_
  refine gR (bJ 3 rfl rfl dv rfl) ?_
  refine run ?_
  obtain ⟨b21, hb21, h⟩ := aa h
  refine aw 9 40 b21 ?_ ?_
  ·clear h
   refine ax 31 rfl (fun g21 => ?_) (fun g21 => ?_)
   ·have h := ag g21 hb21
    refine run ?_
    refine aZ (bJ 3 rfl rfl dv rfl) rfl (aJ g21 rfl) rfl ?_
    refine run ?_
    obtain ⟨b22, hb22, h⟩ := aa h
    refine aw 4 39 b22 ?_ ?_
    ·clear h
     refine ax 35 rfl (fun g22 => ?_) (fun g22 => ?_)
     ·have h := ag g22 hb22
      refine run ?_
      obtain rfl := ak h
      exact ad sA (ab [0, 1, 2, 3] 4 rfl rfl)
     have h := ah g22 hb22
     refine run ?_
     refine kc (mg rfl rfl (by decide)) rfl (cO g22 rfl) rfl ?_
     refine run ?_
     obtain rfl := ak h
     exact ad sA (ab [0, 1, 2, 3] 4 rfl rfl)
    refine run ?_
    obtain rfl := ak h
    exact ad sA (ab [0, 1, 2, 3] 4 rfl rfl)
   have h := ah g21 hb21
   refine run ?_
   obtain rfl := ak h
   exact ad sA (ab [0, 1, 2, 3] 4 rfl rfl)
  refine run ?_
  refine gR (aE (us := [iV x19.Kind, iV x19.N, .string x19.S]) 0 rfl rfl bp rfl) ?_
  obtain ⟨y23, hy23, h⟩ := aa h
  refine gD (pi (a := (b21, x19)) [aq B20 38 [iV x19.Kind, iV x19.N, .string x19.S], aF A3 n3 c3 a1.More, aF A2 n2 c2 a1.Slots, bY B1 42 [iV a1.Kind, iV a1.Shape, iV a1.Flags, iV a1.Age, .slice A2 n2 c2, .slice A3 n3 c3]] hY hy23 rfl rfl) ?_
  rintro _ _ ⟨rfl, rfl⟩
  refine run ?_
  refine ar rfl (fun g24 => ?_) (fun g24 => ?_)
  ·replace h := ag g24 h
   refine run ?_
   obtain rfl := ak h
   exact vb rfl (ab [] 4 rfl rfl) ⟨rfl, rfl⟩
  replace h := ah g24 h
  refine run ?_
  obtain ⟨q25, h⟩ := ao h
  refine gE (aN rfl rfl q25.1 q25.2) ?_
  refine run ?_
  exact ⟨m15, _, _, Nat.lt_succ_self _, ⟨p16 + 1, y23.2, h, rfl, rfl⟩, sA, ab [1, 2, 3] 4 rfl rfl⟩
 replace h := ah g18 h
 refine run ?_
 obtain rfl := ak h
 exact nJ rfl (ab [] 3 rfl rfl) ⟨rfl, rfl⟩
def ju (N : Nat) (a0 : DCell) : Option Unit :=
 some ()
theorem pY {N : Nat} {a0 : DCell} {r : Unit} (h : ju N a0 = some r) : Okc Try.prog 136 [.agg #[iV a0.Kind, iV a0.Shape, iV a0.Flags, iV a0.Age, .slice A1 n1 c1, .slice A2 n2 c2]] ([aF A1 n1 c1 a0.Slots, aF A2 n2 c2 a0.More]) (fun u post => ∃ B900, u = .func (.func 151) #[] #[pV B900 0] ∧ post = [aq B900 42 [iV a0.Kind, iV a0.Shape, iV a0.Flags, iV a0.Age, .slice A1 n1 c1, .slice A2 n2 c2]]) := by
 refine bz Try.func136 rfl rfl ?_
 simp only [aQ]
 refine run ?_
 refine gD (aU rfl rfl) ?_
 rintro _ _ ⟨B3, rfl, rfl⟩
 refine run ?_
 refine gE (eW rfl) ?_
 refine run ?_
 obtain rfl := ak h
 exact aB rfl rfl (ab [0] 3 rfl rfl) ⟨_, rfl, rfl⟩
theorem nm {a0 : DCell} {A1 : Option Addr} {n1 : Nat} {c1 : Nat} {A2 : Option Addr} {n2 : Nat} {c2 : Nat} : ∀ v post, ((fun (u : Value) (post : List Chunk) => ∃ B900, u = .func (.func 151) #[] #[pV B900 0] ∧ post = [aq B900 42 [iV a0.Kind, iV a0.Shape, iV a0.Flags, iV a0.Age, .slice A1 n1 c1, .slice A2 n2 c2]])) v post → ∀ c ∈ post, bX c := by
 rintro _ _ ⟨_, rfl, rfl⟩; exact mem_cons lZ (aj)
def ii (N : Nat) (a0 : DValue) (p10 : Bool) : Option Bool :=
 bif p10 then (some (decide (1 ≤ a0.N))) else ((bif decide (a0.N = 0) then (some (decide (0 ≤ a0.Kind))) else (some false)).bind fun b14 => (bif b14 then (some (decide (a0.Kind ≤ 9))) else (some false)).bind fun b15 => some b15)
def lb (N : Nat) (a0 : DValue) : Option Bool :=
 bif decide (a0.Kind = 5) then ((bif decide (a0.N = 0) then (some (decide ((a0.S.size : Int) ≤ 65536))) else (some false)).bind fun b3 => some b3) else (bif !(a0.S.toList == (⟨#[]⟩ : ByteArray).toList) then (some false) else (bif decide (a0.Kind = 2) then ((bif decide (a0.N = 0) then (some true) else (some (decide (a0.N = 1)))).bind fun b6 => some b6) else (bif decide (a0.Kind = 3) then ((bif decide ((-9007199254740992) ≤ a0.N) then (some (decide (a0.N ≤ 9007199254740992))) else (some false)).bind fun b8 => some b8) else (bif decide (a0.Kind = 6) then (ii N a0 (decide (a0.Kind = 6))) else (bif decide (a0.Kind = 7) then (ii N a0 (decide (a0.Kind = 7))) else (ii N a0 (decide (a0.Kind = 9))))))))
theorem vl {N : Nat} {a0 : DValue} {r : Bool} (h : lb N a0 = some r) : Okc Try.prog 137 [.agg #[iV a0.Kind, iV a0.N, .string a0.S]] ([]) (fun u post => u = .bool r ∧ post = []) := by
 refine bz Try.func137 rfl rfl ?_
 simp only [aQ]
 refine run ?_
 refine gD (aU rfl rfl) ?_
 rintro _ _ ⟨B1, rfl, rfl⟩
 refine run ?_
 refine av ?_
 refine run ?_
 refine ar rfl (fun g2 => ?_) (fun g2 => ?_)
 ·replace h := ag g2 h
  refine run ?_
  obtain ⟨b3, hb3, h⟩ := aa h
  refine aw 5 14 b3 ?_ ?_
  ·clear h
   refine ax 9 rfl (fun g3 => ?_) (fun g3 => ?_)
   ·have h := ag g3 hb3
    refine run ?_
    refine kc (xf rfl Try.underlying9) rfl (aJ g3 rfl) rfl ?_
    refine run ?_
    obtain rfl := ak h
    exact ad sA (ab [0] 1 rfl rfl)
   have h := ah g3 hb3
   refine run ?_
   obtain rfl := ak h
   exact ad sA (ab [0] 1 rfl rfl)
  refine run ?_
  obtain rfl := ak h
  exact aB rfl rfl (ab [] 1 rfl rfl) ⟨rfl, rfl⟩
 replace h := ah g2 h
 refine run ?_
 refine av ?_
 refine run ?_
 refine gE (uX rfl rfl) ?_
 refine run ?_
 refine ar rfl (fun g4 => ?_) (fun g4 => ?_)
 ·replace h := ag g4 h
  refine run ?_
  obtain rfl := ak h
  exact aB rfl rfl (ab [] 1 rfl rfl) ⟨rfl, rfl⟩
 replace h := ah g4 h
 refine run ?_
 refine av ?_
 refine run ?_
 refine ar rfl (fun g5 => ?_) (fun g5 => ?_)
 ·replace h := ag g5 h
  refine run ?_
  obtain ⟨b6, hb6, h⟩ := aa h
  refine aw 4 29 b6 ?_ ?_
  ·clear h
   refine ax 25 rfl (fun g6 => ?_) (fun g6 => ?_)
   ·have h := ag g6 hb6
    refine run ?_
    obtain rfl := ak h
    exact ad sA (ab [0] 1 rfl rfl)
   have h := ah g6 hb6
   refine run ?_
   obtain rfl := ak h
   exact ad sA (ab [0] 1 rfl rfl)
  refine run ?_
  obtain rfl := ak h
  exact aB rfl rfl (ab [] 1 rfl rfl) ⟨rfl, rfl⟩
 replace h := ah g5 h
 refine run ?_
 refine ar rfl (fun g7 => ?_) (fun g7 => ?_)
 ·replace h := ag g7 h
  refine run ?_
  obtain ⟨b8, hb8, h⟩ := aa h
  refine aw 4 39 b8 ?_ ?_
  ·clear h
   refine ax 35 rfl (fun g8 => ?_) (fun g8 => ?_)
   ·have h := ag g8 hb8
    refine run ?_
    obtain rfl := ak h
    exact ad sA (ab [0] 1 rfl rfl)
   have h := ah g8 hb8
   refine run ?_
   obtain rfl := ak h
   exact ad sA (ab [0] 1 rfl rfl)
  refine run ?_
  obtain rfl := ak h
  exact aB rfl rfl (ab [] 1 rfl rfl) ⟨rfl, rfl⟩
 replace h := ah g7 h
 refine aL (fun s L => ∃ p10, ii N a0 p10 = some r ∧ s = [(1, pV B1 0), (2, .bool false), (40, .bool p10)] ∧ L = [aq B1 38 [iV a0.Kind, iV a0.N, .string a0.S]]) ?_ ?_
 ·refine run ?_
  refine ar rfl (fun g11 => ?_) (fun g11 => ?_)
  ·replace h := ag g11 h
   refine run ?_
   exact ⟨_, _, ⟨decide (a0.Kind = 6), h, rfl, rfl⟩, sA, ab [0] 1 rfl rfl⟩
  replace h := ah g11 h
  refine run ?_
  refine ar rfl (fun g12 => ?_) (fun g12 => ?_)
  ·replace h := ag g12 h
   refine run ?_
   exact ⟨_, _, ⟨decide (a0.Kind = 7), h, rfl, rfl⟩, sA, ab [0] 1 rfl rfl⟩
  replace h := ah g12 h
  refine run ?_
  exact ⟨_, _, ⟨decide (a0.Kind = 9), h, rfl, rfl⟩, sA, ab [0] 1 rfl rfl⟩
 rintro _ _ ⟨p10, h, rfl, rfl⟩
 refine ar rfl (fun g13 => ?_) (fun g13 => ?_)
 ·replace h := ag g13 h
  refine run ?_
  obtain rfl := ak h
  exact aB rfl rfl (ab [] 1 rfl rfl) ⟨rfl, rfl⟩
 replace h := ah g13 h
 refine run ?_
 obtain ⟨b14, hb14, h⟩ := aa h
 refine aw 4 54 b14 ?_ ?_
 ·clear h
  refine ax 50 rfl (fun g14 => ?_) (fun g14 => ?_)
  ·have h := ag g14 hb14
   refine run ?_
   obtain rfl := ak h
   exact ad sA (ab [0] 1 rfl rfl)
  have h := ah g14 hb14
  refine run ?_
  obtain rfl := ak h
  exact ad sA (ab [0] 1 rfl rfl)
 refine run ?_
 obtain ⟨b15, hb15, h⟩ := aa h
 refine aw 4 59 b15 ?_ ?_
 ·clear h
  refine ax 55 rfl (fun g15 => ?_) (fun g15 => ?_)
  ·have h := ag g15 hb15
   refine run ?_
   obtain rfl := ak h
   exact ad sA (ab [0] 1 rfl rfl)
  have h := ah g15 hb15
  refine run ?_
  obtain rfl := ak h
  exact ad sA (ab [0] 1 rfl rfl)
 refine run ?_
 obtain rfl := ak h
 exact aB rfl rfl (ab [] 1 rfl rfl) ⟨rfl, rfl⟩
theorem r9 {r : Bool} : ∀ v post, ((fun (u : Value) (post : List Chunk) => u = .bool r ∧ post = [])) v post → ∀ c ∈ post, bX c := by
 rintro _ _ ⟨rfl, rfl⟩; exact aj
def dM (N : Nat) (p2 : Bool) : Option Bool :=
 bif p2 then (some true) else (some false)
def lc (N : Nat) (a0 : Int) : Option Bool :=
 bif decide (a0 = 1) then (dM N (decide (a0 = 1))) else (bif decide (a0 = 2) then (dM N (decide (a0 = 2))) else (bif decide (a0 = 3) then (dM N (decide (a0 = 3))) else (bif decide (a0 = 6) then (dM N (decide (a0 = 6))) else (bif decide (a0 = 8) then (dM N (decide (a0 = 8))) else (bif decide (a0 = 9) then (dM N (decide (a0 = 9))) else (dM N (decide (a0 = 10))))))))
theorem vm {N : Nat} {a0 : Int} {r : Bool} (h : lc N a0 = some r) : Okc Try.prog 152 [iV a0] ([]) (fun u post => u = .bool r ∧ post = []) := by
 refine bz Try.func152 rfl rfl ?_
 simp only [aQ]
 refine run ?_
 refine av ?_
 refine run ?_
 refine aL (fun s L => ∃ p2, dM N p2 = some r ∧ s = [(2, .bool false), (4, .bool p2)] ∧ L = []) ?_ ?_
 ·refine run ?_
  refine ar rfl (fun g3 => ?_) (fun g3 => ?_)
  ·replace h := ag g3 h
   refine run ?_
   exact ⟨_, _, ⟨decide (a0 = 1), h, rfl, rfl⟩, sA, ab [] 0 rfl rfl⟩
  replace h := ah g3 h
  refine run ?_
  refine ar rfl (fun g4 => ?_) (fun g4 => ?_)
  ·replace h := ag g4 h
   refine run ?_
   exact ⟨_, _, ⟨decide (a0 = 2), h, rfl, rfl⟩, sA, ab [] 0 rfl rfl⟩
  replace h := ah g4 h
  refine run ?_
  refine ar rfl (fun g5 => ?_) (fun g5 => ?_)
  ·replace h := ag g5 h
   refine run ?_
   exact ⟨_, _, ⟨decide (a0 = 3), h, rfl, rfl⟩, sA, ab [] 0 rfl rfl⟩
  replace h := ah g5 h
  refine run ?_
  refine ar rfl (fun g6 => ?_) (fun g6 => ?_)
  ·replace h := ag g6 h
   refine run ?_
   exact ⟨_, _, ⟨decide (a0 = 6), h, rfl, rfl⟩, sA, ab [] 0 rfl rfl⟩
  replace h := ah g6 h
  refine run ?_
  refine ar rfl (fun g7 => ?_) (fun g7 => ?_)
  ·replace h := ag g7 h
   refine run ?_
   exact ⟨_, _, ⟨decide (a0 = 8), h, rfl, rfl⟩, sA, ab [] 0 rfl rfl⟩
  replace h := ah g7 h
  refine run ?_
  refine ar rfl (fun g8 => ?_) (fun g8 => ?_)
  ·replace h := ag g8 h
   refine run ?_
   exact ⟨_, _, ⟨decide (a0 = 9), h, rfl, rfl⟩, sA, ab [] 0 rfl rfl⟩
  replace h := ah g8 h
  refine run ?_
  exact ⟨_, _, ⟨decide (a0 = 10), h, rfl, rfl⟩, sA, ab [] 0 rfl rfl⟩
 rintro _ _ ⟨p2, h, rfl, rfl⟩
 refine ar rfl (fun g9 => ?_) (fun g9 => ?_)
 ·replace h := ag g9 h
  refine run ?_
  obtain rfl := ak h
  exact aB rfl rfl (ab [] 0 rfl rfl) ⟨rfl, rfl⟩
 replace h := ah g9 h
 refine run ?_
 obtain rfl := ak h
 exact aB rfl rfl (ab [] 0 rfl rfl) ⟨rfl, rfl⟩
theorem sa {r : Bool} : ∀ v post, ((fun (u : Value) (post : List Chunk) => u = .bool r ∧ post = [])) v post → ∀ c ∈ post, bX c := by
 rintro _ _ ⟨rfl, rfl⟩; exact aj
def cZ (N : Nat) (a0 : DValue) (a1 : Int) : Option Bool :=
 (bif decide (a0.Kind = 0) then (some true) else (some (decide (a0.Kind = a1)))).bind fun b2 => some b2
theorem d6 {N : Nat} {a0 : DValue} {a1 : Int} {r : Bool} (h : cZ N a0 a1 = some r) : Okc Try.prog 153 [.agg #[iV a0.Kind, iV a0.N, .string a0.S], iV a1] ([]) (fun u post => u = .bool r ∧ post = []) := by
 refine bz Try.func153 rfl rfl ?_
 simp only [aQ]
 refine run ?_
 refine gD (aU rfl rfl) ?_
 rintro _ _ ⟨B1, rfl, rfl⟩
 refine run ?_
 obtain ⟨b2, hb2, h⟩ := aa h
 refine aw 5 13 b2 ?_ ?_
 ·clear h
  refine ax 8 rfl (fun g2 => ?_) (fun g2 => ?_)
  ·have h := ag g2 hb2
   refine run ?_
   obtain rfl := ak h
   exact ad sA (ab [0] 1 rfl rfl)
  have h := ah g2 hb2
  refine run ?_
  obtain rfl := ak h
  exact ad sA (ab [0] 1 rfl rfl)
 refine run ?_
 obtain rfl := ak h
 exact aB rfl rfl (ab [] 1 rfl rfl) ⟨rfl, rfl⟩
theorem dg {r : Bool} : ∀ v post, ((fun (u : Value) (post : List Chunk) => u = .bool r ∧ post = [])) v post → ∀ c ∈ post, bX c := by
 rintro _ _ ⟨rfl, rfl⟩; exact aj
def dL (N : Nat) (a0 : DCell) : Option Bool :=
 (lc N a0.Kind).bind fun y4 => (bif y4 then (some true) else ((bif decide (a0.Kind = 7) then (some (decide (0 < (a0.Slots.length : Int)))) else (some false)).bind fun b6 => some b6)).bind fun b5 => bif b5 then ((bif decide (1 ≤ (a0.Slots.length : Int)) then (some (decide ((a0.Slots.length : Int) ≤ 1025))) else (some false)).bind fun b8 => (bif b8 then ((aH a0.Slots 0).bind fun x10 => (bif decide (x10.Kind = 1) then (some true) else ((aH a0.Slots 0).bind fun x12 => some (decide (x12.Kind = 7)))).bind fun b11 => some b11) else (some false)).bind fun b9 => some b9) else (bif decide (a0.Kind = 7) then (some (decide (a0.Shape = 0))) else ((bif !decide (a0.Shape = 0) then (some true) else (some (!decide (a0.Flags = 0)))).bind fun b14 => bif b14 then (some false) else (bif decide (a0.Kind = 5) then ((bif decide ((a0.Slots.length : Int) = 2) then ((aH a0.Slots 0).bind fun x18 => (cZ N x18 7).bind fun y19 => some y19) else (some false)).bind fun b17 => (bif b17 then ((aH a0.Slots 1).bind fun x21 => (cZ N x21 7).bind fun y22 => some y22) else (some false)).bind fun b20 => some b20) else (some (decide ((a0.Slots.length : Int) = 0))))))
theorem nL {N : Nat} {a0 : DCell} {r : Bool} (h : dL N a0 = some r) : Okc Try.prog 138 [.agg #[iV a0.Kind, iV a0.Shape, iV a0.Flags, iV a0.Age, .slice A1 n1 c1, .slice A2 n2 c2]] ([aF A1 n1 c1 a0.Slots, aF A2 n2 c2 a0.More]) (fun u post => u = .bool r ∧ post = []) := by
 refine bz Try.func138 rfl rfl ?_
 simp only [aQ]
 refine run ?_
 refine gD (aU rfl rfl) ?_
 rintro _ _ ⟨B3, rfl, rfl⟩
 refine run ?_
 refine av ?_
 refine run ?_
 obtain ⟨y4, hy4, h⟩ := aa h
 refine gD (al (vm hy4) Bb rfl (aj) sa) ?_
 rintro _ _ ⟨_, ⟨rfl, rfl⟩, rfl⟩
 refine run ?_
 obtain ⟨b5, hb5, h⟩ := aa h
 refine aw 10 16 b5 ?_ ?_
 ·clear h
  refine ax 6 rfl (fun g5 => ?_) (fun g5 => ?_)
  ·have h := ag g5 hb5
   refine run ?_
   obtain rfl := ak h
   exact ad sA (ab [0, 1, 2] 3 rfl rfl)
  have h := ah g5 hb5
  refine run ?_
  obtain ⟨b6, hb6, h⟩ := aa h
  refine aw 5 15 b6 ?_ ?_
  ·clear h
   refine ax 10 rfl (fun g6 => ?_) (fun g6 => ?_)
   ·have h := ag g6 hb6
    refine run ?_
    refine aZ (az 1 rfl ai rfl Try.underlying25) rfl (aJ g6 rfl) rfl ?_
    refine run ?_
    obtain rfl := ak h
    exact ad sA (ab [0, 1, 2] 3 rfl rfl)
   have h := ah g6 hb6
   refine run ?_
   obtain rfl := ak h
   exact ad sA (ab [0, 1, 2] 3 rfl rfl)
  refine run ?_
  obtain rfl := ak h
  exact ad sA (ab [0, 1, 2] 3 rfl rfl)
 refine run ?_
 refine ar rfl (fun g7 => ?_) (fun g7 => ?_)
 ·replace h := ag g7 h
  refine run ?_
  refine gR (az 1 rfl ai rfl Try.underlying25) ?_
  refine run ?_
  obtain ⟨b8, hb8, h⟩ := aa h
  refine aw 5 26 b8 ?_ ?_
  ·clear h
   refine ax 21 rfl (fun g8 => ?_) (fun g8 => ?_)
   ·have h := ag g8 hb8
    refine run ?_
    refine aZ (az 1 rfl ai rfl Try.underlying25) rfl (aJ g8 rfl) rfl ?_
    refine run ?_
    obtain rfl := ak h
    exact ad sA (ab [0, 1, 2] 3 rfl rfl)
   have h := ah g8 hb8
   refine run ?_
   obtain rfl := ak h
   exact ad sA (ab [0, 1, 2] 3 rfl rfl)
  refine run ?_
  obtain ⟨b9, hb9, h⟩ := aa h
  refine aw 15 42 b9 ?_ ?_
  ·clear h
   refine ax 27 rfl (fun g9 => ?_) (fun g9 => ?_)
   ·have h := ag g9 hb9
    refine run ?_
    obtain ⟨x10, hx10, h⟩ := aa h
    obtain ⟨lx10, ux10, hx10⟩ := ap hx10
    refine aZ (aC 1 rfl ai rfl rfl Try.underlying25 aG lx10 ux10) rfl (aJ g9 rfl) rfl ?_
    refine aZ (iq 1 rfl ai rfl (bU lx10 ux10) ei) rfl (aJ g9 rfl) rfl ?_
    refine aZ (aX (u := iV x10.Kind) 1 rfl ai rfl hx10 dv (fun _ _ _ h => by rw [show _ = _ from h]; rfl)) rfl (aJ g9 rfl) rfl ?_
    refine run ?_
    obtain ⟨b11, hb11, h⟩ := aa h
    refine aw 7 41 b11 ?_ ?_
    ·clear h
     refine ax 34 rfl (fun g11 => ?_) (fun g11 => ?_)
     ·have h := ag g11 hb11
      refine run ?_
      obtain rfl := ak h
      exact ad sA (ab [0, 1, 2] 3 rfl rfl)
     have h := ah g11 hb11
     refine run ?_
     obtain ⟨x12, hx12, h⟩ := aa h
     obtain ⟨lx12, ux12, hx12⟩ := ap hx12
     refine aZ (aC 1 rfl ai rfl rfl Try.underlying25 aG lx12 ux12) rfl (cO g11 rfl) rfl ?_
     refine aZ (iq 1 rfl ai rfl (bU lx12 ux12) ei) rfl (cO g11 rfl) rfl ?_
     refine aZ (aX (u := iV x12.Kind) 1 rfl ai rfl hx12 dv (fun _ _ _ h => by rw [show _ = _ from h]; rfl)) rfl (cO g11 rfl) rfl ?_
     refine run ?_
     obtain rfl := ak h
     exact ad sA (ab [0, 1, 2] 3 rfl rfl)
    refine run ?_
    obtain rfl := ak h
    exact ad sA (ab [0, 1, 2] 3 rfl rfl)
   have h := ah g9 hb9
   refine run ?_
   obtain rfl := ak h
   exact ad sA (ab [0, 1, 2] 3 rfl rfl)
  refine run ?_
  obtain rfl := ak h
  exact aB rfl rfl (ab [] 3 rfl rfl) ⟨rfl, rfl⟩
 replace h := ah g7 h
 refine run ?_
 refine av ?_
 refine run ?_
 refine ar rfl (fun g13 => ?_) (fun g13 => ?_)
 ·replace h := ag g13 h
  refine run ?_
  obtain rfl := ak h
  exact aB rfl rfl (ab [] 3 rfl rfl) ⟨rfl, rfl⟩
 replace h := ah g13 h
 refine run ?_
 refine av ?_
 refine run ?_
 obtain ⟨b14, hb14, h⟩ := aa h
 refine aw 4 56 b14 ?_ ?_
 ·clear h
  refine ax 52 rfl (fun g14 => ?_) (fun g14 => ?_)
  ·have h := ag g14 hb14
   refine run ?_
   obtain rfl := ak h
   exact ad sA (ab [0, 1, 2] 3 rfl rfl)
  have h := ah g14 hb14
  refine run ?_
  obtain rfl := ak h
  exact ad sA (ab [0, 1, 2] 3 rfl rfl)
 refine run ?_
 refine ar rfl (fun g15 => ?_) (fun g15 => ?_)
 ·replace h := ag g15 h
  refine run ?_
  obtain rfl := ak h
  exact aB rfl rfl (ab [] 3 rfl rfl) ⟨rfl, rfl⟩
 replace h := ah g15 h
 refine run ?_
 refine av ?_
 refine run ?_
 refine ar rfl (fun g16 => ?_) (fun g16 => ?_)
 ·replace h := ag g16 h
  refine run ?_
  refine gR (az 1 rfl ai rfl Try.underlying25) ?_
  refine run ?_
  obtain ⟨b17, hb17, h⟩ := aa h
  refine aw 6 70 b17 ?_ ?_
  ·clear h
   refine ax 64 rfl (fun g17 => ?_) (fun g17 => ?_)
   ·have h := ag g17 hb17
    refine run ?_
    obtain ⟨x18, hx18, h⟩ := aa h
    obtain ⟨lx18, ux18, hx18⟩ := ap hx18
    refine aZ (aC 1 rfl ai rfl rfl Try.underlying25 aG lx18 ux18) rfl (aJ g17 rfl) rfl ?_
    refine aZ (aO (us := [iV x18.Kind, iV x18.N, .string x18.S]) 1 rfl ai rfl hx18 bp (fun _ _ _ h => by rw [show _ = _ from h]; rfl)) rfl (aJ g17 rfl) rfl ?_
    obtain ⟨y19, hy19, h⟩ := aa h
    refine bM (al (d6 hy19) mN rfl (aj) dg) rfl (aJ g17 rfl) rfl ?_
    rintro _ _ ⟨_, ⟨rfl, rfl⟩, rfl⟩
    refine run ?_
    obtain rfl := ak h
    exact ad sA (ab [0, 1, 2] 3 rfl rfl)
   have h := ah g17 hb17
   refine run ?_
   obtain rfl := ak h
   exact ad sA (ab [0, 1, 2] 3 rfl rfl)
  refine run ?_
  obtain ⟨b20, hb20, h⟩ := aa h
  refine aw 6 77 b20 ?_ ?_
  ·clear h
   refine ax 71 rfl (fun g20 => ?_) (fun g20 => ?_)
   ·have h := ag g20 hb20
    refine run ?_
    obtain ⟨x21, hx21, h⟩ := aa h
    obtain ⟨lx21, ux21, hx21⟩ := ap hx21
    refine aZ (aC 1 rfl ai rfl rfl Try.underlying25 aG lx21 ux21) rfl (aJ g20 rfl) rfl ?_
    refine aZ (aO (us := [iV x21.Kind, iV x21.N, .string x21.S]) 1 rfl ai rfl hx21 bp (fun _ _ _ h => by rw [show _ = _ from h]; rfl)) rfl (aJ g20 rfl) rfl ?_
    obtain ⟨y22, hy22, h⟩ := aa h
    refine bM (al (d6 hy22) mN rfl (aj) dg) rfl (aJ g20 rfl) rfl ?_
    rintro _ _ ⟨_, ⟨rfl, rfl⟩, rfl⟩
    refine run ?_
    obtain rfl := ak h
    exact ad sA (ab [0, 1, 2] 3 rfl rfl)
   have h := ah g20 hb20
   refine run ?_
   obtain rfl := ak h
   exact ad sA (ab [0, 1, 2] 3 rfl rfl)
  refine run ?_
  obtain rfl := ak h
  exact aB rfl rfl (ab [] 3 rfl rfl) ⟨rfl, rfl⟩
 replace h := ah g16 h
 refine run ?_
 refine gR (az 1 rfl ai rfl Try.underlying25) ?_
 refine run ?_
 obtain rfl := ak h
 exact aB rfl rfl (ab [] 3 rfl rfl) ⟨rfl, rfl⟩
theorem ml {r : Bool} : ∀ v post, ((fun (u : Value) (post : List Chunk) => u = .bool r ∧ post = [])) v post → ∀ c ∈ post, bX c := by
 rintro _ _ ⟨rfl, rfl⟩; exact aj
def da (N : Nat) (a0 : DValue) (a1 : Int) (a2 : Int) : Option Bool :=
 (bif decide (a0.Kind = 3) then (some (decide (a1 ≤ a0.N))) else (some false)).bind fun b2 => (bif b2 then (some (decide (a0.N ≤ a2))) else (some false)).bind fun b3 => some b3
theorem d7 {N : Nat} {a0 : DValue} {a1 : Int} {a2 : Int} {r : Bool} (h : da N a0 a1 a2 = some r) : Okc Try.prog 154 [.agg #[iV a0.Kind, iV a0.N, .string a0.S], iV a1, iV a2] ([]) (fun u post => u = .bool r ∧ post = []) := by
 refine bz Try.func154 rfl rfl ?_
 simp only [aQ]
 refine run ?_
 refine gD (aU rfl rfl) ?_
 rintro _ _ ⟨B1, rfl, rfl⟩
 refine run ?_
 obtain ⟨b2, hb2, h⟩ := aa h
 refine aw 5 15 b2 ?_ ?_
 ·clear h
  refine ax 10 rfl (fun g2 => ?_) (fun g2 => ?_)
  ·have h := ag g2 hb2
   refine run ?_
   obtain rfl := ak h
   exact ad sA (ab [0] 1 rfl rfl)
  have h := ah g2 hb2
  refine run ?_
  obtain rfl := ak h
  exact ad sA (ab [0] 1 rfl rfl)
 refine run ?_
 obtain ⟨b3, hb3, h⟩ := aa h
 refine aw 5 21 b3 ?_ ?_
 ·clear h
  refine ax 16 rfl (fun g3 => ?_) (fun g3 => ?_)
  ·have h := ag g3 hb3
   refine run ?_
   obtain rfl := ak h
   exact ad sA (ab [0] 1 rfl rfl)
  have h := ah g3 hb3
  refine run ?_
  obtain rfl := ak h
  exact ad sA (ab [0] 1 rfl rfl)
 refine run ?_
 obtain rfl := ak h
 exact aB rfl rfl (ab [] 1 rfl rfl) ⟨rfl, rfl⟩
theorem dh {r : Bool} : ∀ v post, ((fun (u : Value) (post : List Chunk) => u = .bool r ∧ post = [])) v post → ∀ c ∈ post, bX c := by
 rintro _ _ ⟨rfl, rfl⟩; exact aj
def slices_Chunk_l4 (N : Nat) {σ : Type} (fy : (List DValue) → σ → Option (Bool × σ)) (a1 : (List DValue)) (a2 : Int) : Nat → Int → σ → Option σ
 | 0, _, _ => none
 | m4 + 1, p5, p6 => bif decide (p5 < (a1.length : Int)) then (bD ((0 : Int) ≤ p5 ∧ p5.toNat ≤ a1.length ∧ a1.length ≤ a1.length) (bD (aK (p5 + (min a2 (((a1.drop p5.toNat).take (a1.length - p5.toNat)).length : Int)))) (bD (aK (p5 + (min a2 (((a1.drop p5.toNat).take (a1.length - p5.toNat)).length : Int)))) (bD ((0 : Int) ≤ p5 ∧ (0 : Int) ≤ p5 + (min a2 (((a1.drop p5.toNat).take (a1.length - p5.toNat)).length : Int)) ∧ p5.toNat ≤ (p5 + (min a2 (((a1.drop p5.toNat).take (a1.length - p5.toNat)).length : Int))).toNat ∧ (p5 + (min a2 (((a1.drop p5.toNat).take (a1.length - p5.toNat)).length : Int))).toNat ≤ a1.length) ((fy ((a1.drop p5.toNat).take ((p5 + (min a2 (((a1.drop p5.toNat).take (a1.length - p5.toNat)).length : Int))).toNat - p5.toNat)) p6).bind fun y14 => bif !y14.1 then (some y14.2) else (bD (aK (p5 + a2)) ((slices_Chunk_l4 N fy a1 a2 m4) (p5 + a2) y14.2))))))) else (some p6)
def i5 (N : Nat) {σ : Type} (a1 : (List DValue)) (a2 : Int) (fy : (List DValue) → σ → Option (Bool × σ)) (s0 : σ) : Option σ :=
 slices_Chunk_l4 N fy a1 a2 N 0 s0
theorem qf {N : Nat} {σ : Type} {a1 : (List DValue)} {a2 : Int} {fy : (List DValue) → σ → Option (Bool × σ)} {s0 : σ} {r : σ} (h : i5 N a1 a2 fy s0 = some r) {l : Nat} {G : σ → List Chunk} (hY : ky Try.prog l G (fun (x : (List DValue)) vs cs => ∃ A0 n0 c0, vs = [.slice A0 n0 c0] ∧ cs = [aF A0 n0 c0 x]) fy) : Okc Try.prog 158 [.func (.yield l) #[] #[], pV B1 0, pV B3 0] (bY B1 25 [.slice A2 n2 c2] :: aF A2 n2 c2 a1 :: bY B3 3 [iV a2] :: (G s0)) (fun u post => u = .tuple #[] ∧ post = G r) := by
 refine bz Try.func158 rfl rfl ?_
 simp only [aQ]
 refine run ?_
 refine bc (fun m s L => ∃ p5 p6, slices_Chunk_l4 N fy a1 a2 m p5 p6 = some r ∧ s = [(0, .func (.yield l) #[] #[]), (1, pV B1 0), (2, pV B3 0), (4, iV p5)] ∧ L = aF A2 n2 c2 a1 :: bY B1 25 [.slice A2 n2 c2] :: bY B3 3 [iV a2] :: (G p6)) N _ _ ⟨0, s0, h, rfl, rfl⟩ sA (ab [1, 0, 2] 3 rfl rfl) ?_
 rintro (_ | m4) _ _ ⟨p5, p6, h, rfl, rfl⟩
 ·exact aA h
 rw [slices_Chunk_l4.eq_2] at h
 refine av ?_
 refine run ?_
 refine gR (bJ 1 rfl rfl ft rfl) ?_
 refine gR (az 0 rfl ai rfl Try.underlying25) ?_
 refine run ?_
 refine ar rfl (fun g7 => ?_) (fun g7 => ?_)
 ·replace h := ag g7 h
  refine run ?_
  refine av ?_
  refine ep ?_
  refine av ?_
  refine dY (by kernel_rfl) _ (ac _) ?_
  refine bL 0 rfl (by kernel_rfl) (bJ 2 rfl rfl dv rfl) rfl rfl ?_
  refine bL 1 rfl (by kernel_rfl) (bJ 1 rfl rfl ft rfl) rfl rfl ?_
  refine aW 2 rfl (by kernel_rfl) (aI rfl) rfl rfl ?_
  obtain ⟨q8, h⟩ := ao h
  refine CP 0 rfl (l := p5.toNat) (h := a1.length) q8.2.1 q8.2.2 ?_
  rintro A9 n9 c9 e9
  refine bL 3 rfl (by kernel_rfl) (th 1 rfl e9 rfl Try.underlying25 aG rfl (by rw [Int.toNat_of_nonneg q8.1]; rfl) q8.2.1) rfl rfl ?_
  refine bL 4 rfl (by kernel_rfl) (az 0 rfl ai rfl Try.underlying25) rfl rfl ?_
  refine aW 5 rfl (by kernel_rfl) (pA rfl rfl Try.underlying3 Try.underlying3) rfl rfl ?_
  refine aW 6 rfl (by kernel_rfl) (bP rfl) rfl rfl ?_
  refine dX (by kernel_rfl) ?_
  refine run ?_
  refine gR (bJ 2 rfl rfl ft rfl) ?_
  refine run ?_
  obtain ⟨q10, h⟩ := ao h
  refine gE (aN rfl rfl q10.1 q10.2) ?_
  refine run ?_
  obtain ⟨q11, h⟩ := ao h
  refine gE (aN rfl rfl q11.1 q11.2) ?_
  obtain ⟨q12, h⟩ := ao h
  refine Al 1 rfl (l := p5.toNat) (h := (p5 + (min a2 (((a1.drop p5.toNat).take (a1.length - p5.toNat)).length : Int))).toNat) q12.2.2.1 q12.2.2.2 ?_
  rintro A13 n13 c13 e13
  refine gR (wP 2 rfl e13 rfl Try.underlying25 aG rfl (by rw [Int.toNat_of_nonneg q12.1]; rfl) (by rw [Int.toNat_of_nonneg q12.2.1]; rfl) (by rw [Int.toNat_of_nonneg q12.2.1]; rfl) q12.2.2.1 q12.2.2.2) ?_
  obtain ⟨y14, hy14, h⟩ := aa h
  refine gD (ss (a := (a1.drop p5.toNat).take ((p5 + (min a2 (((a1.drop p5.toNat).take (a1.length - p5.toNat)).length : Int))).toNat - p5.toNat)) [aF A13 n13 c13 ((a1.drop p5.toNat).take ((p5 + (min a2 (((a1.drop p5.toNat).take (a1.length - p5.toNat)).length : Int))).toNat - p5.toNat)), aF A9 n9 c9 ((a1.drop p5.toNat).take (a1.length - p5.toNat)), aF A2 n2 c2 a1, bY B1 25 [.slice A2 n2 c2], bY B3 3 [iV a2]] hY hy14 rfl rfl ⟨_, _, _, rfl, rfl⟩ (cA 0 rfl rfl)) ?_
  rintro _ _ ⟨rfl, rfl⟩
  refine run ?_
  refine ar rfl (fun g15 => ?_) (fun g15 => ?_)
  ·replace h := ag g15 h
   refine run ?_
   obtain rfl := ak h
   exact vb rfl (ab [] 5 rfl rfl) ⟨rfl, rfl⟩
  replace h := ah g15 h
  refine run ?_
  refine gR (bJ 4 rfl rfl dv rfl) ?_
  obtain ⟨q16, h⟩ := ao h
  refine gE (aN rfl rfl q16.1 q16.2) ?_
  refine run ?_
  exact ⟨m4, _, _, Nat.lt_succ_self _, ⟨p5 + a2, y14.2, h, rfl, rfl⟩, sA, ab [2, 3, 4] 5 rfl rfl⟩
 replace h := ah g7 h
 refine run ?_
 obtain rfl := ak h
 exact nJ rfl (ab [] 3 rfl rfl) ⟨rfl, rfl⟩
def eh (N : Nat) (a0 : (List DValue)) (a1 : Int) : Option Unit :=
 bif decide (a1 < 1) then none else (some ())
theorem mU {N : Nat} {a0 : (List DValue)} {a1 : Int} {r : Unit} (h : eh N a0 a1 = some r) : Okc Try.prog 157 [.slice A1 n1 c1, iV a1] ([aF A1 n1 c1 a0]) (fun u post => ∃ B900 B901, u = .func (.func 158) #[] #[pV B900 0, pV B901 0] ∧ post = [aq B900 25 [.slice A1 n1 c1], aq B901 3 [iV a1]]) := by
 refine bz Try.func157 rfl rfl ?_
 simp only [aQ]
 refine run ?_
 refine gD (aU rfl rfl) ?_
 rintro _ _ ⟨B2, rfl, rfl⟩
 refine gD (aU rfl rfl) ?_
 rintro _ _ ⟨B3, rfl, rfl⟩
 refine run ?_
 refine av ?_
 refine run ?_
 refine ar rfl (fun g4 => ?_) (fun g4 => ?_)
 ·replace h := ag g4 h
  exact aA h
 replace h := ah g4 h
 refine run ?_
 refine gE (eW rfl) ?_
 refine run ?_
 obtain rfl := ak h
 exact aB rfl rfl (ab [1, 0] 3 rfl rfl) ⟨_, _, rfl, rfl⟩
theorem lx {a1 : Int} {A1 : Option Addr} {n1 : Nat} {c1 : Nat} : ∀ v post, ((fun (u : Value) (post : List Chunk) => ∃ B900 B901, u = .func (.func 158) #[] #[pV B900 0, pV B901 0] ∧ post = [aq B900 25 [.slice A1 n1 c1], aq B901 3 [iV a1]])) v post → ∀ c ∈ post, bX c := by
 rintro _ _ ⟨_, _, rfl, rfl⟩; exact mem_cons lZ (mem_cons lZ (aj))
def bi (N : Nat) (a1 : Int) (x9 : (List DValue)) : (Unit) → Option (Option Exit × Unit)
 |() => (aH x9 0).bind fun x12 => (bif !decide (x12.Kind = 7) then (some true) else ((aH x9 1).bind fun x14 => some (decide (x14.Kind = 8)))).bind fun b13 => bif b13 then (some (some .ret, ())) else ((bif decide (a1 = 4) then ((aH x9 2).bind fun x17 => (cZ N x17 7).bind fun y18 => (bif !y18 then (some true) else ((aH x9 3).bind fun x20 => (da N x20 0 9007199254740992).bind fun y21 => some (!y21))).bind fun b19 => some b19) else (some false)).bind fun b16 => bif b16 then (some (some .ret, ())) else (some (none, ())))
def bZ (N : Nat) (a0 : (List DValue)) (a1 : Int) : Option Bool :=
 bD (a1 ≠ 0) (bif !decide ((a0.length : Int).tmod a1 = 0) then (some false) else ((eh N a0 a1).bind fun y6 => (i5 N a0 a1 (cm (fun x st => bi N a1 x st)) (none, ())).bind fun y11 => oW y11.1 (some true) (some false) (fun _ => none)))
theorem ij {N : Nat} {a0 : (List DValue)} {a1 : Int} {r : Bool} (h : bZ N a0 a1 = some r) : Okc Try.prog 155 [.slice A1 n1 c1, iV a1] ([aF A1 n1 c1 a0]) (fun u post => u = .bool r ∧ post = []) := by
 refine bz Try.func155 rfl rfl ?_
 simp only [aQ]
 refine run ?_
 refine gD (aU rfl rfl) ?_
 rintro _ _ ⟨B2, rfl, rfl⟩
 refine gD (aS uh rfl) ?_
 rintro _ _ ⟨B3, rfl, rfl⟩
 refine run ?_
 refine av ?_
 refine run ?_
 refine gR (az 2 rfl ai rfl Try.underlying25) ?_
 refine run ?_
 obtain ⟨q4, h⟩ := ao h
 refine gE (mg rfl rfl q4) ?_
 refine run ?_
 refine ar rfl (fun g5 => ?_) (fun g5 => ?_)
 ·replace h := ag g5 h
  refine run ?_
  refine gO (ay (us := [.bool false]) (cs' := [.bool false]) 0 rfl rfl rfl rfl qL rfl rfl rfl) ?_
  rintro _ _ rfl
  refine run ?_
  obtain rfl := ak h
  exact eX (rs := [.cell 4 4]) (vs := [.bool false]) rfl (.cons (mD 0 rfl rfl vW) .nil) rfl (ab [] 3 rfl rfl) ⟨rfl, rfl⟩
 replace h := ah g5 h
 refine run ?_
 refine av ?_
 refine run ?_
 obtain ⟨y6, hy6, h⟩ := aa h
 refine gD (al (mU hy6) Ba rfl (mem_cons (am (i := 2) rfl rfl) aj) lx) ?_
 rintro _ _ ⟨_, ⟨B7, B8, rfl, rfl⟩, rfl⟩
 refine o3 ?_
 refine kO ?_
 refine fb ?_ cI (fZ 0 rfl)
 refine fb ?_ cI (fZ 1 rfl)
 refine qv ([bY B7 25 [.slice A1 n1 c1], bY B8 3 [iV a1], aq B3 4 [.bool false], aq B2 3 [iV a1], aF A1 n1 c1 a0]) rfl ?_
 obtain ⟨y11, hy11, h⟩ := aa h
 refine sV (R := (fun (x : (List DValue)) vs cs => ∃ A0 n0 c0, vs = [.slice A0 n0 c0] ∧ cs = [aF A0 n0 c0 x])) (fun x st => bi N a1 x st) (fun (st : Unit) (mz : Unit) => [aq B2 3 [iV a1], aq B3 4 [.bool false]]) [bY B7 25 [.slice A1 n1 c1], aF A1 n1 c1 a0, bY B8 3 [iV a1]] (()) (()) rfl rfl AZ rfl (by rintro _ _ _ ⟨_, _, _, rfl, rfl⟩; rfl) (fun l G hY => (qf hy11 hY).mono fun _ _ hh => hh.2) (bO [0, 4, 1] [] [3, 2] 5 rfl) h ?_ ?_ ?_ ?_
 ·rintro l x9 _ je sr9 _ h _ _ ⟨A10, n10, c10, rfl, rfl⟩
  replace h : bi N a1 x9 () = some (je, sr9) := h
  simp only [qn, List.zip_cons_cons, List.zip_nil_left, List.zip_nil_right, List.reverse_cons, List.reverse_nil, List.nil_append, List.cons_append]
  refine run ?_
  refine av ?_
  refine run ?_
  obtain ⟨x12, hx12, h⟩ := aa h
  obtain ⟨lx12, ux12, hx12⟩ := ap hx12
  refine gR (aC 0 rfl ai rfl rfl Try.underlying25 aG lx12 ux12) ?_
  refine gR (iq 0 rfl ai rfl (bU lx12 ux12) ei) ?_
  refine gR (aX (u := iV x12.Kind) 0 rfl ai rfl hx12 dv (fun _ _ _ h => by rw [show _ = _ from h]; rfl)) ?_
  refine run ?_
  obtain ⟨b13, hb13, h⟩ := aa h
  refine aw 6 26 b13 ?_ ?_
  ·clear h
   refine ax 20 rfl (fun g13 => ?_) (fun g13 => ?_)
   ·have h := ag g13 hb13
    refine run ?_
    obtain rfl := ak h
    exact ad sA (ab [0, 1, 2] 3 rfl rfl)
   have h := ah g13 hb13
   refine run ?_
   obtain ⟨x14, hx14, h⟩ := aa h
   obtain ⟨lx14, ux14, hx14⟩ := ap hx14
   refine aZ (aC 0 rfl ai rfl rfl Try.underlying25 aG lx14 ux14) rfl (cO g13 rfl) rfl ?_
   refine aZ (iq 0 rfl ai rfl (bU lx14 ux14) ei) rfl (cO g13 rfl) rfl ?_
   refine aZ (aX (u := iV x14.Kind) 0 rfl ai rfl hx14 dv (fun _ _ _ h => by rw [show _ = _ from h]; rfl)) rfl (cO g13 rfl) rfl ?_
   refine run ?_
   obtain rfl := ak h
   exact ad sA (ab [0, 1, 2] 3 rfl rfl)
  refine run ?_
  refine ar rfl (fun g15 => ?_) (fun g15 => ?_)
  ·replace h := ag g15 h
   refine run ?_
   refine gO (ay (us := [.bool false]) (cs' := [.bool false]) 2 rfl rfl rfl rfl qL rfl rfl rfl) ?_
   rintro _ _ rfl
   refine run ?_
   obtain ⟨rfl, rfl⟩ := Prod.mk.inj (Option.some.inj h)
   exact wF ((ab [1, 2] 3 rfl rfl).trans (dq () rfl))
  replace h := ah g15 h
  refine run ?_
  obtain ⟨b16, hb16, h⟩ := aa h
  refine aw 13 42 b16 ?_ ?_
  ·clear h
   refine ax 29 rfl (fun g16 => ?_) (fun g16 => ?_)
   ·have h := ag g16 hb16
    refine run ?_
    obtain ⟨x17, hx17, h⟩ := aa h
    obtain ⟨lx17, ux17, hx17⟩ := ap hx17
    refine aZ (aC 0 rfl ai rfl rfl Try.underlying25 aG lx17 ux17) rfl (aJ g16 rfl) rfl ?_
    refine aZ (aO (us := [iV x17.Kind, iV x17.N, .string x17.S]) 0 rfl ai rfl hx17 bp (fun _ _ _ h => by rw [show _ = _ from h]; rfl)) rfl (aJ g16 rfl) rfl ?_
    obtain ⟨y18, hy18, h⟩ := aa h
    refine bM (al (d6 hy18) mN rfl (aj) dg) rfl (aJ g16 rfl) rfl ?_
    rintro _ _ ⟨_, ⟨rfl, rfl⟩, rfl⟩
    refine run ?_
    obtain ⟨b19, hb19, h⟩ := aa h
    refine aw 6 41 b19 ?_ ?_
    ·clear h
     refine ax 35 rfl (fun g19 => ?_) (fun g19 => ?_)
     ·have h := ag g19 hb19
      refine run ?_
      obtain rfl := ak h
      exact ad sA (ab [0, 1, 2] 3 rfl rfl)
     have h := ah g19 hb19
     refine run ?_
     obtain ⟨x20, hx20, h⟩ := aa h
     obtain ⟨lx20, ux20, hx20⟩ := ap hx20
     refine aZ (aC 0 rfl ai rfl rfl Try.underlying25 aG lx20 ux20) rfl (cO g19 rfl) rfl ?_
     refine aZ (aO (us := [iV x20.Kind, iV x20.N, .string x20.S]) 0 rfl ai rfl hx20 bp (fun _ _ _ h => by rw [show _ = _ from h]; rfl)) rfl (cO g19 rfl) rfl ?_
     obtain ⟨y21, hy21, h⟩ := aa h
     refine bM (al (d7 hy21) mM rfl (aj) dh) rfl (cO g19 rfl) rfl ?_
     rintro _ _ ⟨_, ⟨rfl, rfl⟩, rfl⟩
     refine run ?_
     obtain rfl := ak h
     exact ad sA (ab [0, 1, 2] 3 rfl rfl)
    refine run ?_
    obtain rfl := ak h
    exact ad sA (ab [0, 1, 2] 3 rfl rfl)
   have h := ah g16 hb16
   refine run ?_
   obtain rfl := ak h
   exact ad sA (ab [0, 1, 2] 3 rfl rfl)
  refine run ?_
  refine ar rfl (fun g22 => ?_) (fun g22 => ?_)
  ·replace h := ag g22 h
   refine run ?_
   refine gO (ay (us := [.bool false]) (cs' := [.bool false]) 2 rfl rfl rfl rfl qL rfl rfl rfl) ?_
   rintro _ _ rfl
   refine run ?_
   obtain ⟨rfl, rfl⟩ := Prod.mk.inj (Option.some.inj h)
   exact wF ((ab [1, 2] 3 rfl rfl).trans (dq () rfl))
  replace h := ah g22 h
  refine run ?_
  obtain ⟨rfl, rfl⟩ := Prod.mk.inj (Option.some.inj h)
  exact sb ((ab [1, 2] 3 rfl rfl).trans (dq () rfl))
 ·rintro _ h
  refine jO ([aq B2 3 [iV a1], aq B3 4 [.bool false]]) rfl ?_
  refine run ?_
  refine gO (ay (us := [.bool true]) (cs' := [.bool true]) 1 rfl rfl rfl rfl qL rfl rfl rfl) ?_
  rintro _ _ rfl
  refine ck ([aq B2 3 [iV a1], aq B3 4 [.bool true]]) rfl ?_
  refine run ?_
  obtain rfl := ak h
  exact eX (rs := [.cell 4 4]) (vs := [.bool true]) rfl (.cons (mD 1 rfl rfl vW) .nil) rfl (ab [] 2 rfl rfl) ⟨rfl, rfl⟩
 ·rintro _ h
  refine jO ([aq B2 3 [iV a1], aq B3 4 [.bool false]]) rfl ?_
  refine run ?_
  obtain rfl := ak h
  exact eX (rs := [.cell 4 4]) (vs := [.bool false]) rfl (.cons (mD 1 rfl rfl vW) .nil) rfl (ab [] 2 rfl rfl) ⟨rfl, rfl⟩
 rintro i _ h
 exact aA h
theorem gv {r : Bool} : ∀ v post, ((fun (u : Value) (post : List Chunk) => u = .bool r ∧ post = [])) v post → ∀ c ∈ post, bX c := by
 rintro _ _ ⟨rfl, rfl⟩; exact aj
def eL (N : Nat) (a0 : Int) (a1 : (List DValue)) (p5 : Bool) : Option Bool :=
 bif p5 then (some (decide ((a1.length : Int) = 0))) else (bif decide (a0 = 3) then ((bif decide ((a1.length : Int) = 3) then ((aH a1 0).bind fun x10 => (da N x10 0 9007199254740992).bind fun y11 => some y11) else (some false)).bind fun b9 => (bif b9 then ((aH a1 1).bind fun x13 => (cZ N x13 9).bind fun y14 => some y14) else (some false)).bind fun b12 => some b12) else (bif decide (a0 = 4) then ((bif decide (1 ≤ (a1.length : Int)) then (some (decide ((a1.length : Int) ≤ 4097))) else (some false)).bind fun b16 => (bif b16 then ((aH a1 0).bind fun x18 => (cZ N x18 9).bind fun y19 => some y19) else (some false)).bind fun b17 => some b17) else (bif decide (a0 = 6) then ((bif decide ((a1.length : Int) = 2) then ((aH a1 0).bind fun x22 => (da N x22 0 3).bind fun y23 => some y23) else (some false)).bind fun b21 => (bif b21 then ((aH a1 1).bind fun x25 => (cZ N x25 9).bind fun y26 => some y26) else (some false)).bind fun b24 => some b24) else (bif decide (a0 = 7) then ((bif decide (4 ≤ (a1.length : Int)) then ((aH a1 2).bind fun x29 => (da N x29 0 1).bind fun y30 => some y30) else (some false)).bind fun b28 => (bif b28 then ((aH a1 3).bind fun x32 => (da N x32 0 9007199254740992).bind fun y33 => some y33) else (some false)).bind fun b31 => some b31) else (bif decide (a0 = 8) then ((bZ N a1 2).bind fun y35 => some y35) else (bif decide (a0 = 10) then ((bif decide (1 ≤ (a1.length : Int)) then ((aH a1 0).bind fun x38 => some (decide (x38.Kind = 7))) else (some false)).bind fun b37 => (bif b37 then (bD ((0 : Int) ≤ 1 ∧ (1 : Int).toNat ≤ a1.length ∧ a1.length ≤ a1.length) ((bZ N ((a1.drop ((1 : Int).toNat)).take (a1.length - (1 : Int).toNat)) 4).bind fun y42 => some y42)) else (some false)).bind fun b39 => some b39) else (bif decide (a0 = 9) then ((bif decide (2 ≤ (a1.length : Int)) then ((aH a1 0).bind fun x45 => (da N x45 0 2).bind fun y46 => some y46) else (some false)).bind fun b44 => some b44) else (some true))))))))
def d8 (N : Nat) (a0 : Int) (a1 : (List DValue)) : Option Bool :=
 bif decide (1048576 < (a1.length : Int)) then (some false) else (bif decide (a0 = 2) then (some (decide ((a1.length : Int) ≤ 4096))) else (bif decide (a0 = 1) then (eL N a0 a1 (decide (a0 = 1))) else (eL N a0 a1 (decide (a0 = 5)))))
set_option maxHeartbeats 4000000 in
theorem oU {N : Nat} {a0 : Int} {a1 : (List DValue)} {r : Bool} (h : d8 N a0 a1 = some r) : Okc Try.prog 139 [iV a0, .slice A1 n1 c1] ([aF A1 n1 c1 a1]) (fun u post => u = .bool r ∧ post = []) := by
 refine bz Try.func139 rfl rfl ?_
 simp only [aQ]
 refine run ?_
 refine av ?_
 refine run ?_
 refine gR (az 0 rfl ai rfl Try.underlying25) ?_
 refine run ?_
 refine ar rfl (fun g2 => ?_) (fun g2 => ?_)
 ·replace h := ag g2 h
  refine run ?_
  obtain rfl := ak h
  exact aB rfl rfl (ab [] 1 rfl rfl) ⟨rfl, rfl⟩
 replace h := ah g2 h
 refine run ?_
 refine av ?_
 refine run ?_
 refine ar rfl (fun g3 => ?_) (fun g3 => ?_)
 ·replace h := ag g3 h
  refine run ?_
  refine gR (az 0 rfl ai rfl Try.underlying25) ?_
  refine run ?_
  obtain rfl := ak h
  exact aB rfl rfl (ab [] 1 rfl rfl) ⟨rfl, rfl⟩
 replace h := ah g3 h
 refine aL (fun s L => ∃ p5, eL N a0 a1 p5 = some r ∧ s = [(1, .slice A1 n1 c1), (4, .bool false), (8, iV a0), (14, .bool p5)] ∧ L = [aF A1 n1 c1 a1]) ?_ ?_
 ·refine run ?_
  refine ar rfl (fun g6 => ?_) (fun g6 => ?_)
  ·replace h := ag g6 h
   refine run ?_
   exact ⟨_, _, ⟨decide (a0 = 1), h, rfl, rfl⟩, sA, ab [0] 1 rfl rfl⟩
  replace h := ah g6 h
  refine run ?_
  exact ⟨_, _, ⟨decide (a0 = 5), h, rfl, rfl⟩, sA, ab [0] 1 rfl rfl⟩
 rintro _ _ ⟨p5, h, rfl, rfl⟩
 refine ar rfl (fun g7 => ?_) (fun g7 => ?_)
 ·replace h := ag g7 h
  refine run ?_
  refine gR (az 0 rfl ai rfl Try.underlying25) ?_
  refine run ?_
  obtain rfl := ak h
  exact aB rfl rfl (ab [] 1 rfl rfl) ⟨rfl, rfl⟩
 replace h := ah g7 h
 refine run ?_
 refine ar rfl (fun g8 => ?_) (fun g8 => ?_)
 ·replace h := ag g8 h
  refine run ?_
  refine gR (az 0 rfl ai rfl Try.underlying25) ?_
  refine run ?_
  obtain ⟨b9, hb9, h⟩ := aa h
  refine aw 5 30 b9 ?_ ?_
  ·clear h
   refine ax 25 rfl (fun g9 => ?_) (fun g9 => ?_)
   ·have h := ag g9 hb9
    refine run ?_
    obtain ⟨x10, hx10, h⟩ := aa h
    obtain ⟨lx10, ux10, hx10⟩ := ap hx10
    refine aZ (aC 0 rfl ai rfl rfl Try.underlying25 aG lx10 ux10) rfl (aJ g9 rfl) rfl ?_
    refine aZ (aO (us := [iV x10.Kind, iV x10.N, .string x10.S]) 0 rfl ai rfl hx10 bp (fun _ _ _ h => by rw [show _ = _ from h]; rfl)) rfl (aJ g9 rfl) rfl ?_
    obtain ⟨y11, hy11, h⟩ := aa h
    refine bM (al (d7 hy11) mM rfl (aj) dh) rfl (aJ g9 rfl) rfl ?_
    rintro _ _ ⟨_, ⟨rfl, rfl⟩, rfl⟩
    refine run ?_
    obtain rfl := ak h
    exact ad sA (ab [0] 1 rfl rfl)
   have h := ah g9 hb9
   refine run ?_
   obtain rfl := ak h
   exact ad sA (ab [0] 1 rfl rfl)
  refine run ?_
  obtain ⟨b12, hb12, h⟩ := aa h
  refine aw 5 36 b12 ?_ ?_
  ·clear h
   refine ax 31 rfl (fun g12 => ?_) (fun g12 => ?_)
   ·have h := ag g12 hb12
    refine run ?_
    obtain ⟨x13, hx13, h⟩ := aa h
    obtain ⟨lx13, ux13, hx13⟩ := ap hx13
    refine aZ (aC 0 rfl ai rfl rfl Try.underlying25 aG lx13 ux13) rfl (aJ g12 rfl) rfl ?_
    refine aZ (aO (us := [iV x13.Kind, iV x13.N, .string x13.S]) 0 rfl ai rfl hx13 bp (fun _ _ _ h => by rw [show _ = _ from h]; rfl)) rfl (aJ g12 rfl) rfl ?_
    obtain ⟨y14, hy14, h⟩ := aa h
    refine bM (al (d6 hy14) mN rfl (aj) dg) rfl (aJ g12 rfl) rfl ?_
    rintro _ _ ⟨_, ⟨rfl, rfl⟩, rfl⟩
    refine run ?_
    obtain rfl := ak h
    exact ad sA (ab [0] 1 rfl rfl)
   have h := ah g12 hb12
   refine run ?_
   obtain rfl := ak h
   exact ad sA (ab [0] 1 rfl rfl)
  refine run ?_
  obtain rfl := ak h
  exact aB rfl rfl (ab [] 1 rfl rfl) ⟨rfl, rfl⟩
 replace h := ah g8 h
 refine run ?_
 refine ar rfl (fun g15 => ?_) (fun g15 => ?_)
 ·replace h := ag g15 h
  refine run ?_
  refine gR (az 0 rfl ai rfl Try.underlying25) ?_
  refine run ?_
  obtain ⟨b16, hb16, h⟩ := aa h
  refine aw 4 46 b16 ?_ ?_
  ·clear h
   refine ax 42 rfl (fun g16 => ?_) (fun g16 => ?_)
   ·have h := ag g16 hb16
    refine run ?_
    refine aZ (az 0 rfl ai rfl Try.underlying25) rfl (aJ g16 rfl) rfl ?_
    refine run ?_
    obtain rfl := ak h
    exact ad sA (ab [0] 1 rfl rfl)
   have h := ah g16 hb16
   refine run ?_
   obtain rfl := ak h
   exact ad sA (ab [0] 1 rfl rfl)
  refine run ?_
  obtain ⟨b17, hb17, h⟩ := aa h
  refine aw 5 52 b17 ?_ ?_
  ·clear h
   refine ax 47 rfl (fun g17 => ?_) (fun g17 => ?_)
   ·have h := ag g17 hb17
    refine run ?_
    obtain ⟨x18, hx18, h⟩ := aa h
    obtain ⟨lx18, ux18, hx18⟩ := ap hx18
    refine aZ (aC 0 rfl ai rfl rfl Try.underlying25 aG lx18 ux18) rfl (aJ g17 rfl) rfl ?_
    refine aZ (aO (us := [iV x18.Kind, iV x18.N, .string x18.S]) 0 rfl ai rfl hx18 bp (fun _ _ _ h => by rw [show _ = _ from h]; rfl)) rfl (aJ g17 rfl) rfl ?_
    obtain ⟨y19, hy19, h⟩ := aa h
    refine bM (al (d6 hy19) mN rfl (aj) dg) rfl (aJ g17 rfl) rfl ?_
    rintro _ _ ⟨_, ⟨rfl, rfl⟩, rfl⟩
    refine run ?_
    obtain rfl := ak h
    exact ad sA (ab [0] 1 rfl rfl)
   have h := ah g17 hb17
   refine run ?_
   obtain rfl := ak h
   exact ad sA (ab [0] 1 rfl rfl)
  refine run ?_
  obtain rfl := ak h
  exact aB rfl rfl (ab [] 1 rfl rfl) ⟨rfl, rfl⟩
 replace h := ah g15 h
 refine run ?_
 refine ar rfl (fun g20 => ?_) (fun g20 => ?_)
 ·replace h := ag g20 h
  refine run ?_
  refine gR (az 0 rfl ai rfl Try.underlying25) ?_
  refine run ?_
  obtain ⟨b21, hb21, h⟩ := aa h
  refine aw 5 63 b21 ?_ ?_
  ·clear h
   refine ax 58 rfl (fun g21 => ?_) (fun g21 => ?_)
   ·have h := ag g21 hb21
    refine run ?_
    obtain ⟨x22, hx22, h⟩ := aa h
    obtain ⟨lx22, ux22, hx22⟩ := ap hx22
    refine aZ (aC 0 rfl ai rfl rfl Try.underlying25 aG lx22 ux22) rfl (aJ g21 rfl) rfl ?_
    refine aZ (aO (us := [iV x22.Kind, iV x22.N, .string x22.S]) 0 rfl ai rfl hx22 bp (fun _ _ _ h => by rw [show _ = _ from h]; rfl)) rfl (aJ g21 rfl) rfl ?_
    obtain ⟨y23, hy23, h⟩ := aa h
    refine bM (al (d7 hy23) mM rfl (aj) dh) rfl (aJ g21 rfl) rfl ?_
    rintro _ _ ⟨_, ⟨rfl, rfl⟩, rfl⟩
    refine run ?_
    obtain rfl := ak h
    exact ad sA (ab [0] 1 rfl rfl)
   have h := ah g21 hb21
   refine run ?_
   obtain rfl := ak h
   exact ad sA (ab [0] 1 rfl rfl)
  refine run ?_
  obtain ⟨b24, hb24, h⟩ := aa h
  refine aw 5 69 b24 ?_ ?_
  ·clear h
   refine ax 64 rfl (fun g24 => ?_) (fun g24 => ?_)
   ·have h := ag g24 hb24
    refine run ?_
    obtain ⟨x25, hx25, h⟩ := aa h
    obtain ⟨lx25, ux25, hx25⟩ := ap hx25
    refine aZ (aC 0 rfl ai rfl rfl Try.underlying25 aG lx25 ux25) rfl (aJ g24 rfl) rfl ?_
    refine aZ (aO (us := [iV x25.Kind, iV x25.N, .string x25.S]) 0 rfl ai rfl hx25 bp (fun _ _ _ h => by rw [show _ = _ from h]; rfl)) rfl (aJ g24 rfl) rfl ?_
    obtain ⟨y26, hy26, h⟩ := aa h
    refine bM (al (d6 hy26) mN rfl (aj) dg) rfl (aJ g24 rfl) rfl ?_
    rintro _ _ ⟨_, ⟨rfl, rfl⟩, rfl⟩
    refine run ?_
    obtain rfl := ak h
    exact ad sA (ab [0] 1 rfl rfl)
   have h := ah g24 hb24
   refine run ?_
   obtain rfl := ak h
   exact ad sA (ab [0] 1 rfl rfl)
  refine run ?_
  obtain rfl := ak h
  exact aB rfl rfl (ab [] 1 rfl rfl) ⟨rfl, rfl⟩
 replace h := ah g20 h
 refine run ?_
 refine ar rfl (fun g27 => ?_) (fun g27 => ?_)
 ·replace h := ag g27 h
  refine run ?_
  refine gR (az 0 rfl ai rfl Try.underlying25) ?_
  refine run ?_
  obtain ⟨b28, hb28, h⟩ := aa h
  refine aw 5 80 b28 ?_ ?_
  ·clear h
   refine ax 75 rfl (fun g28 => ?_) (fun g28 => ?_)
   ·have h := ag g28 hb28
    refine run ?_
    obtain ⟨x29, hx29, h⟩ := aa h
    obtain ⟨lx29, ux29, hx29⟩ := ap hx29
    refine aZ (aC 0 rfl ai rfl rfl Try.underlying25 aG lx29 ux29) rfl (aJ g28 rfl) rfl ?_
    refine aZ (aO (us := [iV x29.Kind, iV x29.N, .string x29.S]) 0 rfl ai rfl hx29 bp (fun _ _ _ h => by rw [show _ = _ from h]; rfl)) rfl (aJ g28 rfl) rfl ?_
    obtain ⟨y30, hy30, h⟩ := aa h
    refine bM (al (d7 hy30) mM rfl (aj) dh) rfl (aJ g28 rfl) rfl ?_
    rintro _ _ ⟨_, ⟨rfl, rfl⟩, rfl⟩
    refine run ?_
    obtain rfl := ak h
    exact ad sA (ab [0] 1 rfl rfl)
   have h := ah g28 hb28
   refine run ?_
   obtain rfl := ak h
   exact ad sA (ab [0] 1 rfl rfl)
  refine run ?_
  obtain ⟨b31, hb31, h⟩ := aa h
  refine aw 5 86 b31 ?_ ?_
  ·clear h
   refine ax 81 rfl (fun g31 => ?_) (fun g31 => ?_)
   ·have h := ag g31 hb31
    refine run ?_
    obtain ⟨x32, hx32, h⟩ := aa h
    obtain ⟨lx32, ux32, hx32⟩ := ap hx32
    refine aZ (aC 0 rfl ai rfl rfl Try.underlying25 aG lx32 ux32) rfl (aJ g31 rfl) rfl ?_
    refine aZ (aO (us := [iV x32.Kind, iV x32.N, .string x32.S]) 0 rfl ai rfl hx32 bp (fun _ _ _ h => by rw [show _ = _ from h]; rfl)) rfl (aJ g31 rfl) rfl ?_
    obtain ⟨y33, hy33, h⟩ := aa h
    refine bM (al (d7 hy33) mM rfl (aj) dh) rfl (aJ g31 rfl) rfl ?_
    rintro _ _ ⟨_, ⟨rfl, rfl⟩, rfl⟩
    refine run ?_
    obtain rfl := ak h
    exact ad sA (ab [0] 1 rfl rfl)
   have h := ah g31 hb31
   refine run ?_
   obtain rfl := ak h
   exact ad sA (ab [0] 1 rfl rfl)
  refine run ?_
  obtain rfl := ak h
  exact aB rfl rfl (ab [] 1 rfl rfl) ⟨rfl, rfl⟩
 replace h := ah g27 h
 refine run ?_
 refine ar rfl (fun g34 => ?_) (fun g34 => ?_)
 ·replace h := ag g34 h
  refine run ?_
  obtain ⟨y35, hy35, h⟩ := aa h
  refine gD (al (ij hy35) xo rfl (mem_cons (am (i := 0) rfl rfl) aj) gv) ?_
  rintro _ _ ⟨_, ⟨rfl, rfl⟩, rfl⟩
  refine run ?_
  obtain rfl := ak h
  exact aB rfl rfl (ab [] 1 rfl rfl) ⟨rfl, rfl⟩
 replace h := ah g34 h
 refine run ?_
 refine ar rfl (fun g36 => ?_) (fun g36 => ?_)
 ·replace h := ag g36 h
  refine run ?_
  refine gR (az 0 rfl ai rfl Try.underlying25) ?_
  refine run ?_
  obtain ⟨b37, hb37, h⟩ := aa h
  refine aw 6 102 b37 ?_ ?_
  ·clear h
   refine ax 96 rfl (fun g37 => ?_) (fun g37 => ?_)
   ·have h := ag g37 hb37
    refine run ?_
    obtain ⟨x38, hx38, h⟩ := aa h
    obtain ⟨lx38, ux38, hx38⟩ := ap hx38
    refine aZ (aC 0 rfl ai rfl rfl Try.underlying25 aG lx38 ux38) rfl (aJ g37 rfl) rfl ?_
    refine aZ (iq 0 rfl ai rfl (bU lx38 ux38) ei) rfl (aJ g37 rfl) rfl ?_
    refine aZ (aX (u := iV x38.Kind) 0 rfl ai rfl hx38 dv (fun _ _ _ h => by rw [show _ = _ from h]; rfl)) rfl (aJ g37 rfl) rfl ?_
    refine run ?_
    obtain rfl := ak h
    exact ad sA (ab [0] 1 rfl rfl)
   have h := ah g37 hb37
   refine run ?_
   obtain rfl := ak h
   exact ad sA (ab [0] 1 rfl rfl)
  refine run ?_
  obtain ⟨b39, hb39, h⟩ := aa h
  refine aw 4 107 b39 ?_ ?_
  ·clear h
   refine ax 103 rfl (fun g39 => ?_) (fun g39 => ?_)
   ·have h := ag g39 hb39
    refine run ?_
    obtain ⟨q40, h⟩ := ao h
    refine BX 0 rfl (l := (1 : Int).toNat) (h := a1.length) q40.2.1 q40.2.2 ?_
    rintro A41 n41 c41 e41
    refine aZ (th 1 rfl e41 rfl Try.underlying25 aG rfl (by rw [Int.toNat_of_nonneg q40.1]; rfl) q40.2.1) rfl (aJ g39 rfl) rfl ?_
    obtain ⟨y42, hy42, h⟩ := aa h
    refine bM (al (ij hy42) xo rfl (mem_cons (am (i := 0) rfl rfl) aj) gv) rfl (aJ g39 rfl) rfl ?_
    rintro _ _ ⟨_, ⟨rfl, rfl⟩, rfl⟩
    refine run ?_
    obtain rfl := ak h
    exact ad sA (ab [1] 2 rfl rfl)
   have h := ah g39 hb39
   refine run ?_
   obtain rfl := ak h
   exact ad sA (ab [0] 1 rfl rfl)
  refine run ?_
  obtain rfl := ak h
  exact aB rfl rfl (ab [] 1 rfl rfl) ⟨rfl, rfl⟩
 replace h := ah g36 h
 refine run ?_
 refine ar rfl (fun g43 => ?_) (fun g43 => ?_)
 ·replace h := ag g43 h
  refine run ?_
  refine gR (az 0 rfl ai rfl Try.underlying25) ?_
  refine run ?_
  obtain ⟨b44, hb44, h⟩ := aa h
  refine aw 5 118 b44 ?_ ?_
  ·clear h
   refine ax 113 rfl (fun g44 => ?_) (fun g44 => ?_)
   ·have h := ag g44 hb44
    refine run ?_
    obtain ⟨x45, hx45, h⟩ := aa h
    obtain ⟨lx45, ux45, hx45⟩ := ap hx45
    refine aZ (aC 0 rfl ai rfl rfl Try.underlying25 aG lx45 ux45) rfl (aJ g44 rfl) rfl ?_
    refine aZ (aO (us := [iV x45.Kind, iV x45.N, .string x45.S]) 0 rfl ai rfl hx45 bp (fun _ _ _ h => by rw [show _ = _ from h]; rfl)) rfl (aJ g44 rfl) rfl ?_
    obtain ⟨y46, hy46, h⟩ := aa h
    refine bM (al (d7 hy46) mM rfl (aj) dh) rfl (aJ g44 rfl) rfl ?_
    rintro _ _ ⟨_, ⟨rfl, rfl⟩, rfl⟩
    refine run ?_
    obtain rfl := ak h
    exact ad sA (ab [0] 1 rfl rfl)
   have h := ah g44 hb44
   refine run ?_
   obtain rfl := ak h
   exact ad sA (ab [0] 1 rfl rfl)
  refine run ?_
  obtain rfl := ak h
  exact aB rfl rfl (ab [] 1 rfl rfl) ⟨rfl, rfl⟩
 replace h := ah g43 h
 refine run ?_
 obtain rfl := ak h
 exact aB rfl rfl (ab [] 1 rfl rfl) ⟨rfl, rfl⟩
theorem mX {r : Bool} : ∀ v post, ((fun (u : Value) (post : List Chunk) => u = .bool r ∧ post = [])) v post → ∀ c ∈ post, bX c := by
 rintro _ _ ⟨rfl, rfl⟩; exact aj
def cM (N : Nat) (a0 : DCell) (x14 : Bool × DValue) : (Unit) → Option (Option Exit × Unit)
 |() => (lb N x14.2).bind fun y17 => bif !y17 then (some (some .ret, ())) else (some (none, ()))
def el (N : Nat) (a0 : DCell) : Option Bool :=
 (bif decide (a0.Kind < 1) then (some true) else (some (decide (11 < a0.Kind)))).bind fun b5 => (bif b5 then (some true) else (some (decide (a0.Shape < 0)))).bind fun b6 => (bif b6 then (some true) else (some (decide (a0.Flags < 0)))).bind fun b7 => (bif b7 then (some true) else (some (decide (63 < a0.Flags)))).bind fun b8 => (bif b8 then (some true) else ((bif !decide (a0.Age = 0) then (some (!decide (a0.Age = 1))) else (some false)).bind fun b10 => some b10)).bind fun b9 => bif b9 then (some false) else ((ju N a0).bind fun y12 => (fG N a0 (cm (fun x st => cM N a0 x st)) (none, ())).bind fun y15 => oW y15.1 ((dL N a0).bind fun y19 => (bif y19 then ((d8 N a0.Kind a0.More).bind fun y21 => some y21) else (some false)).bind fun b20 => some b20) (some false) (fun _ => none))
theorem jY {N : Nat} {a0 : DCell} {r : Bool} (h : el N a0 = some r) : Okc Try.prog 98 [.agg #[iV a0.Kind, iV a0.Shape, iV a0.Flags, iV a0.Age, .slice A1 n1 c1, .slice A2 n2 c2]] ([aF A1 n1 c1 a0.Slots, aF A2 n2 c2 a0.More]) (fun u post => u = .bool r ∧ post = []) := by
 refine bz Try.func98 rfl rfl ?_
 simp only [aQ]
 refine run ?_
 refine gD (aU rfl rfl) ?_
 rintro _ _ ⟨B3, rfl, rfl⟩
 refine gD (aS uh rfl) ?_
 rintro _ _ ⟨B4, rfl, rfl⟩
 refine run ?_
 refine av ?_
 refine run ?_
 obtain ⟨b5, hb5, h⟩ := aa h
 refine aw 4 12 b5 ?_ ?_
 ·clear h
  refine ax 8 rfl (fun g5 => ?_) (fun g5 => ?_)
  ·have h := ag g5 hb5
   refine run ?_
   obtain rfl := ak h
   exact ad sA (ab [0, 1, 2, 3] 4 rfl rfl)
  have h := ah g5 hb5
  refine run ?_
  obtain rfl := ak h
  exact ad sA (ab [0, 1, 2, 3] 4 rfl rfl)
 refine run ?_
 obtain ⟨b6, hb6, h⟩ := aa h
 refine aw 4 17 b6 ?_ ?_
 ·clear h
  refine ax 13 rfl (fun g6 => ?_) (fun g6 => ?_)
  ·have h := ag g6 hb6
   refine run ?_
   obtain rfl := ak h
   exact ad sA (ab [0, 1, 2, 3] 4 rfl rfl)
  have h := ah g6 hb6
  refine run ?_
  obtain rfl := ak h
  exact ad sA (ab [0, 1, 2, 3] 4 rfl rfl)
 refine run ?_
 obtain ⟨b7, hb7, h⟩ := aa h
 refine aw 4 22 b7 ?_ ?_
 ·clear h
  refine ax 18 rfl (fun g7 => ?_) (fun g7 => ?_)
  ·have h := ag g7 hb7
   refine run ?_
   obtain rfl := ak h
   exact ad sA (ab [0, 1, 2, 3] 4 rfl rfl)
  have h := ah g7 hb7
  refine run ?_
  obtain rfl := ak h
  exact ad sA (ab [0, 1, 2, 3] 4 rfl rfl)
 refine run ?_
 obtain ⟨b8, hb8, h⟩ := aa h
 refine aw 4 27 b8 ?_ ?_
 ·clear h
  refine ax 23 rfl (fun g8 => ?_) (fun g8 => ?_)
  ·have h := ag g8 hb8
   refine run ?_
   obtain rfl := ak h
   exact ad sA (ab [0, 1, 2, 3] 4 rfl rfl)
  have h := ah g8 hb8
  refine run ?_
  obtain rfl := ak h
  exact ad sA (ab [0, 1, 2, 3] 4 rfl rfl)
 refine run ?_
 obtain ⟨b9, hb9, h⟩ := aa h
 refine aw 9 37 b9 ?_ ?_
 ·clear h
  refine ax 28 rfl (fun g9 => ?_) (fun g9 => ?_)
  ·have h := ag g9 hb9
   refine run ?_
   obtain rfl := ak h
   exact ad sA (ab [0, 1, 2, 3] 4 rfl rfl)
  have h := ah g9 hb9
  refine run ?_
  obtain ⟨b10, hb10, h⟩ := aa h
  refine aw 4 36 b10 ?_ ?_
  ·clear h
   refine ax 32 rfl (fun g10 => ?_) (fun g10 => ?_)
   ·have h := ag g10 hb10
    refine run ?_
    obtain rfl := ak h
    exact ad sA (ab [0, 1, 2, 3] 4 rfl rfl)
   have h := ah g10 hb10
   refine run ?_
   obtain rfl := ak h
   exact ad sA (ab [0, 1, 2, 3] 4 rfl rfl)
  refine run ?_
  obtain rfl := ak h
  exact ad sA (ab [0, 1, 2, 3] 4 rfl rfl)
 refine run ?_
 refine ar rfl (fun g11 => ?_) (fun g11 => ?_)
 ·replace h := ag g11 h
  refine run ?_
  refine gO (ay (us := [.bool false]) (cs' := [.bool false]) 0 rfl rfl rfl rfl qL rfl rfl rfl) ?_
  rintro _ _ rfl
  refine run ?_
  obtain rfl := ak h
  exact eX (rs := [.cell 2 4]) (vs := [.bool false]) rfl (.cons (mD 0 rfl rfl vW) .nil) rfl (ab [] 4 rfl rfl) ⟨rfl, rfl⟩
 replace h := ah g11 h
 refine run ?_
 refine av ?_
 refine run ?_
 refine gR (aE (us := [iV a0.Kind, iV a0.Shape, iV a0.Flags, iV a0.Age, .slice A1 n1 c1, .slice A2 n2 c2]) 1 rfl rfl ba rfl) ?_
 obtain ⟨y12, hy12, h⟩ := aa h
 refine gD (al (pY hy12) xr rfl (mem_cons (am (i := 2) rfl rfl) (mem_cons (am (i := 3) rfl rfl) aj)) nm) ?_
 rintro _ _ ⟨_, ⟨B13, rfl, rfl⟩, rfl⟩
 refine o3 ?_
 refine kO ?_
 refine fb ?_ cI (fZ 0 rfl)
 obtain ⟨y15, hy15, h⟩ := aa h
 refine o0 (en := (fun x => [.bool x.1, .agg #[iV x.2.Kind, iV x.2.N, .string x.2.S]])) (fun x st => cM N a0 x st) (fun (st : Unit) (mz : Unit) => [aF A1 n1 c1 a0.Slots, aF A2 n2 c2 a0.More, aq B3 42 [iV a0.Kind, iV a0.Shape, iV a0.Flags, iV a0.Age, .slice A1 n1 c1, .slice A2 n2 c2], aq B4 4 [.bool false]]) [bY B13 42 [iV a0.Kind, iV a0.Shape, iV a0.Flags, iV a0.Age, .slice A1 n1 c1, .slice A2 n2 c2], aF A1 n1 c1 a0.Slots, aF A2 n2 c2 a0.More] (()) (()) rfl rfl xp rfl (fun _ => rfl) (fun l G hY => (mm hy15 hY).mono fun _ _ hh => hh.2) (bO [0, 3, 4] [] [3, 4, 2, 1] 5 rfl) h ?_ ?_ ?_ ?_
 ·rintro l x14 _ je sr14 _ h
  replace h : cM N a0 x14 () = some (je, sr14) := h
  simp only [qn, List.zip_cons_cons, List.zip_nil_left, List.zip_nil_right, List.reverse_cons, List.reverse_nil, List.nil_append, List.cons_append]
  refine cN ?_
  refine gD (aS gz rfl) ?_
  rintro _ _ ⟨B16, rfl, rfl⟩
  refine gO (ay (us := [iV x14.2.Kind, iV x14.2.N, .string x14.2.S]) (cs' := [iV x14.2.Kind, iV x14.2.N, .string x14.2.S]) 0 rfl rfl rfl rfl aG rfl rfl rfl) ?_
  rintro _ _ rfl
  refine ck ([aq B16 38 [iV x14.2.Kind, iV x14.2.N, .string x14.2.S], aF A1 n1 c1 a0.Slots, aF A2 n2 c2 a0.More, aq B3 42 [iV a0.Kind, iV a0.Shape, iV a0.Flags, iV a0.Age, .slice A1 n1 c1, .slice A2 n2 c2], aq B4 4 [.bool false]]) rfl ?_
  refine run ?_
  refine gR (aE (us := [iV x14.2.Kind, iV x14.2.N, .string x14.2.S]) 0 rfl rfl bp rfl) ?_
  obtain ⟨y17, hy17, h⟩ := aa h
  refine gD (al (vl hy17) Bh rfl (aj) r9) ?_
  rintro _ _ ⟨_, ⟨rfl, rfl⟩, rfl⟩
  refine run ?_
  refine ar rfl (fun g18 => ?_) (fun g18 => ?_)
  ·replace h := ag g18 h
   refine run ?_
   refine gO (ay (us := [.bool false]) (cs' := [.bool false]) 4 rfl rfl rfl rfl qL rfl rfl rfl) ?_
   rintro _ _ rfl
   refine run ?_
   obtain ⟨rfl, rfl⟩ := Prod.mk.inj (Option.some.inj h)
   exact wF ((ab [1, 2, 3, 4] 5 rfl rfl).trans (dq () rfl))
  replace h := ah g18 h
  refine run ?_
  obtain ⟨rfl, rfl⟩ := Prod.mk.inj (Option.some.inj h)
  exact sb ((ab [1, 2, 3, 4] 5 rfl rfl).trans (dq () rfl))
 ·rintro _ h
  refine jO ([aF A1 n1 c1 a0.Slots, aF A2 n2 c2 a0.More, aq B3 42 [iV a0.Kind, iV a0.Shape, iV a0.Flags, iV a0.Age, .slice A1 n1 c1, .slice A2 n2 c2], aq B4 4 [.bool false]]) rfl ?_
  refine run ?_
  refine gR (aE (us := [iV a0.Kind, iV a0.Shape, iV a0.Flags, iV a0.Age, .slice A1 n1 c1, .slice A2 n2 c2]) 2 rfl rfl ba rfl) ?_
  obtain ⟨y19, hy19, h⟩ := aa h
  refine gD (al (nL hy19) Bg rfl (mem_cons (am (i := 0) rfl rfl) (mem_cons (am (i := 1) rfl rfl) aj)) ml) ?_
  rintro _ _ ⟨_, ⟨rfl, rfl⟩, rfl⟩
  refine run ?_
  obtain ⟨b20, hb20, h⟩ := aa h
  refine aw 6 53 b20 ?_ ?_
  ·clear h
   refine ax 47 rfl (fun g20 => ?_) (fun g20 => ?_)
   ·have h := ag g20 hb20
    refine run ?_
    obtain ⟨y21, hy21, h⟩ := aa h
    refine bM (al (oU hy21) Bf rfl (mem_cons (am (i := 1) rfl rfl) aj) mX) rfl (aJ g20 rfl) rfl ?_
    rintro _ _ ⟨_, ⟨rfl, rfl⟩, rfl⟩
    refine run ?_
    obtain rfl := ak h
    exact ad sA (ab [0, 1, 2, 3] 4 rfl rfl)
   have h := ah g20 hb20
   refine run ?_
   obtain rfl := ak h
   exact ad sA (ab [0, 1, 2, 3] 4 rfl rfl)
  refine gO (ay (us := [.bool b20]) (cs' := [.bool b20]) 3 rfl rfl rfl rfl qL rfl rfl rfl) ?_
  rintro _ _ rfl
  refine run ?_
  obtain rfl := ak h
  exact eX (rs := [.cell 2 4]) (vs := [.bool b20]) rfl (.cons (mD 3 rfl rfl vW) .nil) rfl (ab [] 4 rfl rfl) ⟨rfl, rfl⟩
 ·rintro _ h
  refine jO ([aF A1 n1 c1 a0.Slots, aF A2 n2 c2 a0.More, aq B3 42 [iV a0.Kind, iV a0.Shape, iV a0.Flags, iV a0.Age, .slice A1 n1 c1, .slice A2 n2 c2], aq B4 4 [.bool false]]) rfl ?_
  refine run ?_
  obtain rfl := ak h
  exact eX (rs := [.cell 2 4]) (vs := [.bool false]) rfl (.cons (mD 3 rfl rfl vW) .nil) rfl (ab [] 4 rfl rfl) ⟨rfl, rfl⟩
 rintro i _ h
 exact aA h
theorem iw {r : Bool} : ∀ v post, ((fun (u : Value) (post : List Chunk) => u = .bool r ∧ post = [])) v post → ∀ c ∈ post, bX c := by
 rintro _ _ ⟨rfl, rfl⟩; exact aj
end Go.Proofs.Ytmbaennilhdieaa
namespace Go.Proofs.Ytmbaennilhdieaa
variable {A1 A2 A3 : Option Addr} {B1 B3 c1 c2 c3 n1 n2 n3 : Nat}
open Go.RowKit Go.ChangeShapes Go.WideShapes Go.Deep
def iS (x : DValue) : Prop := (aK x.Kind) ∧ (aK x.N) ∧ (True)
set_option maxRecDepth 100000 in
theorem lL : yn Try.prog 38 bF iS := fun {_ enc w base spare held _ cs y} h hw => by
 obtain ⟨xs, m, -, hy, hl, hx, hf⟩ := DataW.trod_struct Try.underlying38 h
 have hc : Try.prog.cellsOf 38 = 3 := by kernel_rfl
 rw [hc] at hl
 match cs, hl, hf with
 | [c0, c1, c2], _, hf =>
  have k0 : DataW.trod enc Try.prog w base spare held m 3 (List.take (Try.prog.cellsOf 3) (List.drop 0 [c0, c1, c2])) = xs[0]? := hf 0 _ rfl
  have z0 : Try.prog.cellsOf 3 = 1 := by kernel_rfl
  simp only [z0, List.drop_succ_cons, List.drop_zero, List.take_succ_cons, List.take_zero] at k0
  have l0 : 0 < xs.length := by rw [hx]; decide
  obtain ⟨a0, r0, w0⟩ := (Rdr.w (mF Try.underlying3)) (k0.trans (List.getElem?_eq_getElem l0)) (dZ Try.underlying38 hy hw (i := 0) rfl (List.getElem?_eq_getElem l0))
  have k1 : DataW.trod enc Try.prog w base spare held m 3 (List.take (Try.prog.cellsOf 3) (List.drop 1 [c0, c1, c2])) = xs[1]? := hf 1 _ rfl
  have z1 : Try.prog.cellsOf 3 = 1 := by kernel_rfl
  simp only [z1, List.drop_succ_cons, List.drop_zero, List.take_succ_cons, List.take_zero] at k1
  have l1 : 1 < xs.length := by rw [hx]; decide
  obtain ⟨a1, r1, w1⟩ := (Rdr.w (mF Try.underlying3)) (k1.trans (List.getElem?_eq_getElem l1)) (dZ Try.underlying38 hy hw (i := 1) rfl (List.getElem?_eq_getElem l1))
  have k2 : DataW.trod enc Try.prog w base spare held m 9 (List.take (Try.prog.cellsOf 9) (List.drop 2 [c0, c1, c2])) = xs[2]? := hf 2 _ rfl
  have z2 : Try.prog.cellsOf 9 = 1 := by kernel_rfl
  simp only [z2, List.drop_succ_cons, List.drop_zero, List.take_succ_cons, List.take_zero] at k2
  have l2 : 2 < xs.length := by rw [hx]; decide
  obtain ⟨a2, r2, w2⟩ := (Rdr.w (Ay Try.underlying9)) (k2.trans (List.getElem?_eq_getElem l2)) (dZ Try.underlying38 hy hw (i := 2) rfl (List.getElem?_eq_getElem l2))
  obtain ⟨rfl, -⟩ := List.cons.inj (show [c0] = [_] from r0)
  obtain ⟨rfl, -⟩ := List.cons.inj (show [c1] = [_] from r1)
  obtain ⟨rfl, -⟩ := List.cons.inj (show [c2] = [_] from r2)
  exact ⟨⟨a0, a1, a2⟩, rfl, ⟨w0, w1, w2⟩⟩
def nR (x : DCell) : Prop := (aK x.Kind) ∧ (aK x.Shape) ∧ (aK x.Flags) ∧ (aK x.Age) ∧ (BU (fun z25 => iS z25) x.Slots) ∧ (BU (fun z25 => iS z25) x.More)
set_option maxRecDepth 100000 in
theorem qT : yn Try.prog 42 dl nR := fun {_ enc w base spare held _ cs y} h hw => by
 obtain ⟨xs, m, -, hy, hl, hx, hf⟩ := DataW.trod_struct Try.underlying42 h
 have hc : Try.prog.cellsOf 42 = 6 := by kernel_rfl
 rw [hc] at hl
 match cs, hl, hf with
 | [c0, c1, c2, c3, c4, c5], _, hf =>
  have k0 : DataW.trod enc Try.prog w base spare held m 3 (List.take (Try.prog.cellsOf 3) (List.drop 0 [c0, c1, c2, c3, c4, c5])) = xs[0]? := hf 0 _ rfl
  have z0 : Try.prog.cellsOf 3 = 1 := by kernel_rfl
  simp only [z0, List.drop_succ_cons, List.drop_zero, List.take_succ_cons, List.take_zero] at k0
  have l0 : 0 < xs.length := by rw [hx]; decide
  obtain ⟨a0, r0, w0⟩ := (Rdr.w (mF Try.underlying3)) (k0.trans (List.getElem?_eq_getElem l0)) (dZ Try.underlying42 hy hw (i := 0) rfl (List.getElem?_eq_getElem l0))
  have k1 : DataW.trod enc Try.prog w base spare held m 3 (List.take (Try.prog.cellsOf 3) (List.drop 1 [c0, c1, c2, c3, c4, c5])) = xs[1]? := hf 1 _ rfl
  have z1 : Try.prog.cellsOf 3 = 1 := by kernel_rfl
  simp only [z1, List.drop_succ_cons, List.drop_zero, List.take_succ_cons, List.take_zero] at k1
  have l1 : 1 < xs.length := by rw [hx]; decide
  obtain ⟨a1, r1, w1⟩ := (Rdr.w (mF Try.underlying3)) (k1.trans (List.getElem?_eq_getElem l1)) (dZ Try.underlying42 hy hw (i := 1) rfl (List.getElem?_eq_getElem l1))
  have k2 : DataW.trod enc Try.prog w base spare held m 3 (List.take (Try.prog.cellsOf 3) (List.drop 2 [c0, c1, c2, c3, c4, c5])) = xs[2]? := hf 2 _ rfl
  have z2 : Try.prog.cellsOf 3 = 1 := by kernel_rfl
  simp only [z2, List.drop_succ_cons, List.drop_zero, List.take_succ_cons, List.take_zero] at k2
  have l2 : 2 < xs.length := by rw [hx]; decide
  obtain ⟨a2, r2, w2⟩ := (Rdr.w (mF Try.underlying3)) (k2.trans (List.getElem?_eq_getElem l2)) (dZ Try.underlying42 hy hw (i := 2) rfl (List.getElem?_eq_getElem l2))
  have k3 : DataW.trod enc Try.prog w base spare held m 3 (List.take (Try.prog.cellsOf 3) (List.drop 3 [c0, c1, c2, c3, c4, c5])) = xs[3]? := hf 3 _ rfl
  have z3 : Try.prog.cellsOf 3 = 1 := by kernel_rfl
  simp only [z3, List.drop_succ_cons, List.drop_zero, List.take_succ_cons, List.take_zero] at k3
  have l3 : 3 < xs.length := by rw [hx]; decide
  obtain ⟨a3, r3, w3⟩ := (Rdr.w (mF Try.underlying3)) (k3.trans (List.getElem?_eq_getElem l3)) (dZ Try.underlying42 hy hw (i := 3) rfl (List.getElem?_eq_getElem l3))
  have k4 : DataW.trod enc Try.prog w base spare held m 25 (List.take (Try.prog.cellsOf 25) (List.drop 4 [c0, c1, c2, c3, c4, c5])) = xs[4]? := hf 4 _ rfl
  have z4 : Try.prog.cellsOf 25 = 1 := by kernel_rfl
  simp only [z4, List.drop_succ_cons, List.drop_zero, List.take_succ_cons, List.take_zero] at k4
  have l4 : 4 < xs.length := by rw [hx]; decide
  obtain ⟨a4, r4, w4⟩ := (nZ Try.underlying25 (by kernel_rfl) (by decide) (of_decide_eq_true (by kernel_rfl)) lL) (k4.trans (List.getElem?_eq_getElem l4)) (dZ Try.underlying42 hy hw (i := 4) rfl (List.getElem?_eq_getElem l4))
  have k5 : DataW.trod enc Try.prog w base spare held m 25 (List.take (Try.prog.cellsOf 25) (List.drop 5 [c0, c1, c2, c3, c4, c5])) = xs[5]? := hf 5 _ rfl
  have z5 : Try.prog.cellsOf 25 = 1 := by kernel_rfl
  simp only [z5, List.drop_succ_cons, List.drop_zero, List.take_succ_cons, List.take_zero] at k5
  have l5 : 5 < xs.length := by rw [hx]; decide
  obtain ⟨a5, r5, w5⟩ := (nZ Try.underlying25 (by kernel_rfl) (by decide) (of_decide_eq_true (by kernel_rfl)) lL) (k5.trans (List.getElem?_eq_getElem l5)) (dZ Try.underlying42 hy hw (i := 5) rfl (List.getElem?_eq_getElem l5))
  obtain ⟨rfl, -⟩ := List.cons.inj (show [c0] = [_] from r0)
  obtain ⟨rfl, -⟩ := List.cons.inj (show [c1] = [_] from r1)
  obtain ⟨rfl, -⟩ := List.cons.inj (show [c2] = [_] from r2)
  obtain ⟨rfl, -⟩ := List.cons.inj (show [c3] = [_] from r3)
  obtain ⟨v4, e4, b4⟩ := r4
  obtain ⟨rfl, -⟩ := List.cons.inj e4
  obtain ⟨A4, q4, rfl, d4⟩ := b4
  have b4 : SlR bF _ _ (.slice A4 a4.length q4) a4 := ⟨_, _, rfl, d4⟩
  obtain ⟨v5, e5, b5⟩ := r5
  obtain ⟨rfl, -⟩ := List.cons.inj e5
  obtain ⟨A5, q5, rfl, d5⟩ := b5
  have b5 : SlR bF _ _ (.slice A5 a5.length q5) a5 := ⟨_, _, rfl, d5⟩
  exact ⟨⟨a0, a1, a2, a3, a4, a5⟩, ⟨_, _, _, _, _, _, rfl, b4, b5⟩, ⟨w0, w1, w2, w3, w4, w5⟩⟩
def kB (x : DMemory) : Prop := (BU (fun z22 => nR z22) x.Young) ∧ (BU (fun z22 => nR z22) x.Old)
set_option maxRecDepth 100000 in
theorem tg : yn Try.prog 24 yK kB := fun {_ enc w base spare held _ cs y} h hw => by
 obtain ⟨xs, m, -, hy, hl, hx, hf⟩ := DataW.trod_struct Try.underlying24 h
 have hc : Try.prog.cellsOf 24 = 2 := by kernel_rfl
 rw [hc] at hl
 match cs, hl, hf with
 | [c0, c1], _, hf =>
  have k0 : DataW.trod enc Try.prog w base spare held m 22 (List.take (Try.prog.cellsOf 22) (List.drop 0 [c0, c1])) = xs[0]? := hf 0 _ rfl
  have z0 : Try.prog.cellsOf 22 = 1 := by kernel_rfl
  simp only [z0, List.drop_succ_cons, List.drop_zero, List.take_succ_cons, List.take_zero] at k0
  have l0 : 0 < xs.length := by rw [hx]; decide
  obtain ⟨a0, r0, w0⟩ := (nZ Try.underlying22 (by kernel_rfl) (by decide) (of_decide_eq_true (by kernel_rfl)) qT) (k0.trans (List.getElem?_eq_getElem l0)) (dZ Try.underlying24 hy hw (i := 0) rfl (List.getElem?_eq_getElem l0))
  have k1 : DataW.trod enc Try.prog w base spare held m 22 (List.take (Try.prog.cellsOf 22) (List.drop 1 [c0, c1])) = xs[1]? := hf 1 _ rfl
  have z1 : Try.prog.cellsOf 22 = 1 := by kernel_rfl
  simp only [z1, List.drop_succ_cons, List.drop_zero, List.take_succ_cons, List.take_zero] at k1
  have l1 : 1 < xs.length := by rw [hx]; decide
  obtain ⟨a1, r1, w1⟩ := (nZ Try.underlying22 (by kernel_rfl) (by decide) (of_decide_eq_true (by kernel_rfl)) qT) (k1.trans (List.getElem?_eq_getElem l1)) (dZ Try.underlying24 hy hw (i := 1) rfl (List.getElem?_eq_getElem l1))
  obtain ⟨v0, e0, b0⟩ := r0
  obtain ⟨rfl, -⟩ := List.cons.inj e0
  obtain ⟨A0, q0, rfl, d0⟩ := b0
  have b0 : SlR dl _ _ (.slice A0 a0.length q0) a0 := ⟨_, _, rfl, d0⟩
  obtain ⟨v1, e1, b1⟩ := r1
  obtain ⟨rfl, -⟩ := List.cons.inj e1
  obtain ⟨A1, q1, rfl, d1⟩ := b1
  have b1 : SlR dl _ _ (.slice A1 a1.length q1) a1 := ⟨_, _, rfl, d1⟩
  exact ⟨⟨a0, a1⟩, ⟨_, _, _, _, _, _, rfl, b0, b1⟩, ⟨w0, w1⟩⟩
set_option maxRecDepth 100000 in
theorem CO {H : Type} {enc : TypeId × Value → H} {W : World} {r : Reach} {b0 : Nat} {base : Nat} {spare : Nat → Bool} {held : Bool} {v : Value} {d : DataW H} {p : List MemPlace}
  (hv : Value.okWide Try.prog W r b0 24 v) (h : DataW.Trod enc Try.prog W base spare held 24 v d p) (hz : Light Try.prog 24 d) : ∃ (m : DMemory) (Aq_0 : Option Addr) (nq_0 cq_0 : Nat) (Aq_1 : Option Addr) (nq_1 cq_1 : Nat), v = .agg #[.slice Aq_0 nq_0 cq_0, .slice Aq_1 nq_1 cq_1] ∧ (kB m) ∧ (kE dl (.slice Aq_0 nq_0 cq_0) m.Young).ok (fun _ => False) (fun q => q < W.heap.size) W ∧ (kE dl (.slice Aq_1 nq_1 cq_1) m.Old).ok (fun _ => False) (fun q => q < W.heap.size) W := by
 obtain ⟨cs, rfl, -⟩ := okWide_struct Try.underlying24 hv
 obtain ⟨fuel, hf⟩ := h
 obtain ⟨m, ⟨Aq_0, nq_0, cq_0, Aq_1, nq_1, cq_1, e, hq_0, hq_1⟩, hw⟩ := tg hf hz
 obtain ⟨l⟩ := cs
 have hx : l = [.slice Aq_0 nq_0 cq_0, .slice Aq_1 nq_1 cq_1] := e
 exact ⟨m, Aq_0, nq_0, cq_0, Aq_1, nq_1, cq_1, by rw [hx], hw, hq_0, hq_1⟩
set_option maxRecDepth 100000 in
theorem CN {H : Type} {enc : TypeId × Value → H} {W : World} {r : Reach} {b0 : Nat} {base : Nat} {spare : Nat → Bool} {held : Bool} {v : Value} {d : DataW H} {p : List MemPlace}
  (hv : Value.okWide Try.prog W r b0 25 v) (h : DataW.Trod enc Try.prog W base spare held 25 v d p) (hz : Light Try.prog 25 d) : ∃ (m : (List DValue)) (Aq_0 : Option Addr) (nq_0 cq_0 : Nat), v = .slice Aq_0 nq_0 cq_0 ∧ (BU (fun z25 => iS z25) m) ∧ (kE bF (.slice Aq_0 nq_0 cq_0) m).ok (fun _ => False) (fun q => q < W.heap.size) W := by
 obtain ⟨A, n, c, rfl⟩ := okWide_slice Try.underlying25 hv
 obtain ⟨fuel, hf⟩ := h
 obtain ⟨m, ⟨u, e, h1⟩, hw⟩ := (nZ Try.underlying25 (by kernel_rfl) (by decide) (of_decide_eq_true (by kernel_rfl)) lL) hf hz
 obtain ⟨rfl, -⟩ := List.cons.inj (show [_] = [_] from e)
 exact ⟨m, A, n, c, rfl, hw, h1⟩
end Go.Proofs.Ytmbaennilhdieaa