/- Closed facts on types and functions (printed by tyfacts.py). -/
import Derived.Test.YtmiecljgcbfklaaEng7
import Derived.Test.YtmiecljgcbfklaaProg
namespace Go.Proofs.Ytmiecljgcbfklaa
theorem call6 : Callable Try.prog 6 := ⟨Try.f6, Try.func6, rfl, rfl⟩
theorem call7 : Callable Try.prog 7 := ⟨Try.f7, Try.func7, rfl, rfl⟩
theorem call8 : Callable Try.prog 8 := ⟨Try.f8, Try.func8, rfl, rfl⟩
theorem call9 : Callable Try.prog 9 := ⟨Try.f9, Try.func9, rfl, rfl⟩
theorem call10 : Callable Try.prog 10 := ⟨Try.f10, Try.func10, rfl, rfl⟩
theorem call11 : Callable Try.prog 11 := ⟨Try.f11, Try.func11, rfl, rfl⟩
theorem call12 : Callable Try.prog 12 := ⟨Try.f12, Try.func12, rfl, rfl⟩
theorem call13 : Callable Try.prog 13 := ⟨Try.f13, Try.func13, rfl, rfl⟩
theorem call14 : Callable Try.prog 14 := ⟨Try.f14, Try.func14, rfl, rfl⟩
theorem call15 : Callable Try.prog 15 := ⟨Try.f15, Try.func15, rfl, rfl⟩
theorem call16 : Callable Try.prog 16 := ⟨Try.f16, Try.func16, rfl, rfl⟩
theorem call17 : Callable Try.prog 17 := ⟨Try.f17, Try.func17, rfl, rfl⟩
theorem call18 : Callable Try.prog 18 := ⟨Try.f18, Try.func18, rfl, rfl⟩
theorem call19 : Callable Try.prog 19 := ⟨Try.f19, Try.func19, rfl, rfl⟩
theorem call20 : Callable Try.prog 20 := ⟨Try.f20, Try.func20, rfl, rfl⟩
theorem call21 : Callable Try.prog 21 := ⟨Try.f21, Try.func21, rfl, rfl⟩
theorem call22 : Callable Try.prog 22 := ⟨Try.f22, Try.func22, rfl, rfl⟩
theorem call23 : Callable Try.prog 23 := ⟨Try.f23, Try.func23, rfl, rfl⟩
theorem call24 : Callable Try.prog 24 := ⟨Try.f24, Try.func24, rfl, rfl⟩
theorem call25 : Callable Try.prog 25 := ⟨Try.f25, Try.func25, rfl, rfl⟩
theorem fa_31_0 (b o : Nat) (w : World) : (Instr.fieldAt 31 (.pointer (some ⟨b, o, none⟩)) 0).run Try.prog w = .ok (.pointer (some ⟨b, o, none⟩)) w := by kernel_rfl
theorem fa_31_1 (b o : Nat) (w : World) : (Instr.fieldAt 31 (.pointer (some ⟨b, o, none⟩)) 1).run Try.prog w = .ok (.pointer (some ⟨b, o + 1, none⟩)) w := by kernel_rfl
theorem fa_31_2 (b o : Nat) (w : World) : (Instr.fieldAt 31 (.pointer (some ⟨b, o, none⟩)) 2).run Try.prog w = .ok (.pointer (some ⟨b, o + 2, none⟩)) w := by kernel_rfl
theorem fa_33_0 (b o : Nat) (w : World) : (Instr.fieldAt 33 (.pointer (some ⟨b, o, none⟩)) 0).run Try.prog w = .ok (.pointer (some ⟨b, o, none⟩)) w := by kernel_rfl
theorem fa_33_1 (b o : Nat) (w : World) : (Instr.fieldAt 33 (.pointer (some ⟨b, o, none⟩)) 1).run Try.prog w = .ok (.pointer (some ⟨b, o + 1, none⟩)) w := by kernel_rfl
theorem fa_33_2 (b o : Nat) (w : World) : (Instr.fieldAt 33 (.pointer (some ⟨b, o, none⟩)) 2).run Try.prog w = .ok (.pointer (some ⟨b, o + 2, none⟩)) w := by kernel_rfl
theorem fa_33_3 (b o : Nat) (w : World) : (Instr.fieldAt 33 (.pointer (some ⟨b, o, none⟩)) 3).run Try.prog w = .ok (.pointer (some ⟨b, o + 5, none⟩)) w := by kernel_rfl
theorem fa_37_0 (b o : Nat) (w : World) : (Instr.fieldAt 37 (.pointer (some ⟨b, o, none⟩)) 0).run Try.prog w = .ok (.pointer (some ⟨b, o, none⟩)) w := by kernel_rfl
theorem fa_37_1 (b o : Nat) (w : World) : (Instr.fieldAt 37 (.pointer (some ⟨b, o, none⟩)) 1).run Try.prog w = .ok (.pointer (some ⟨b, o + 1, none⟩)) w := by kernel_rfl
theorem fa_37_2 (b o : Nat) (w : World) : (Instr.fieldAt 37 (.pointer (some ⟨b, o, none⟩)) 2).run Try.prog w = .ok (.pointer (some ⟨b, o + 4, none⟩)) w := by kernel_rfl
theorem fa_37_3 (b o : Nat) (w : World) : (Instr.fieldAt 37 (.pointer (some ⟨b, o, none⟩)) 3).run Try.prog w = .ok (.pointer (some ⟨b, o + 5, none⟩)) w := by kernel_rfl
theorem fa_54_0 (b o : Nat) (w : World) : (Instr.fieldAt 54 (.pointer (some ⟨b, o, none⟩)) 0).run Try.prog w = .ok (.pointer (some ⟨b, o, none⟩)) w := by kernel_rfl
theorem fa_54_1 (b o : Nat) (w : World) : (Instr.fieldAt 54 (.pointer (some ⟨b, o, none⟩)) 1).run Try.prog w = .ok (.pointer (some ⟨b, o + 1, none⟩)) w := by kernel_rfl
theorem one3 : oneB Try.prog 3 = true := by kernel_rfl
theorem one9 : oneB Try.prog 9 = true := by kernel_rfl
theorem one35 : oneB Try.prog 35 = true := by kernel_rfl
theorem one52 : oneB Try.prog 52 = true := by kernel_rfl
theorem agg31 : aggB Try.prog 31 3 = true := by kernel_rfl
theorem agg33 : aggB Try.prog 33 6 = true := by kernel_rfl
theorem agg37 : aggB Try.prog 37 6 = true := by kernel_rfl
theorem size3 : sizeB Try.prog 3 1 = true := by kernel_rfl
theorem size31 : sizeB Try.prog 31 3 = true := by kernel_rfl
theorem size33 : sizeB Try.prog 33 6 = true := by kernel_rfl
theorem size35 : sizeB Try.prog 35 1 = true := by kernel_rfl
theorem size37 : sizeB Try.prog 37 6 = true := by kernel_rfl
theorem zero31 (w : World) : (zeroValue 31).run Try.prog w = .ok (.agg #[.int .i64 0, .int .i64 0, .string ⟨#[]⟩]) w := by kernel_rfl
theorem zero37 (w : World) : (zeroValue 37).run Try.prog w = .ok (.agg #[.int .i64 0, .int .i64 0, .int .i64 0, .string ⟨#[]⟩, .int .i64 0, .int .i64 0]) w := by kernel_rfl
theorem bld_31_0_2 (x0_ : Int) (x2_ : ByteArray) (w : World) : (Instr.build 31 #[(0, .int .i64 x0_), (2, .string x2_)]).run Try.prog w = .ok (.agg #[.int .i64 x0_, .int .i64 0, .string x2_]) w := by kernel_rfl
theorem bld_31_1 (x1_ : Int) (w : World) : (Instr.build 31 #[(1, .int .i64 x1_)]).run Try.prog w = .ok (.agg #[.int .i64 0, .int .i64 x1_, .string ⟨#[]⟩]) w := by kernel_rfl
theorem bld_37_  (w : World) : (Instr.build 37 #[]).run Try.prog w = .ok (.agg #[.int .i64 0, .int .i64 0, .int .i64 0, .string ⟨#[]⟩, .int .i64 0, .int .i64 0]) w := by kernel_rfl
theorem bld_37_0 (x0_ : Int) (w : World) : (Instr.build 37 #[(0, .int .i64 x0_)]).run Try.prog w = .ok (.agg #[.int .i64 x0_, .int .i64 0, .int .i64 0, .string ⟨#[]⟩, .int .i64 0, .int .i64 0]) w := by kernel_rfl
theorem bld_37_0_1_2_3 (x0_ : Int) (x1_0_ : Int) (x1_1_ : Int) (x1_2_ : ByteArray) (x2_ : Int) (x3_ : Int) (w : World) : (Instr.build 37 #[(0, .int .i64 x0_), (1, .agg #[.int .i64 x1_0_, .int .i64 x1_1_, .string x1_2_]), (2, .int .i64 x2_), (3, .int .i64 x3_)]).run Try.prog w = .ok (.agg #[.int .i64 x0_, .int .i64 x1_0_, .int .i64 x1_1_, .string x1_2_, .int .i64 x2_, .int .i64 x3_]) w := by kernel_rfl
theorem bld_37_1_2 (x1_0_ : Int) (x1_1_ : Int) (x1_2_ : ByteArray) (x2_ : Int) (w : World) : (Instr.build 37 #[(1, .agg #[.int .i64 x1_0_, .int .i64 x1_1_, .string x1_2_]), (2, .int .i64 x2_)]).run Try.prog w = .ok (.agg #[.int .i64 0, .int .i64 x1_0_, .int .i64 x1_1_, .string x1_2_, .int .i64 x2_, .int .i64 0]) w := by kernel_rfl
theorem bld_54_0_1 (x0_a : Option Addr) (x0_n x0_c : Nat) (x1_ : Option Nat) (w : World) : (Instr.build 54 #[(0, .slice x0_a x0_n x0_c), (1, .map x1_)]).run Try.prog w = .ok (.agg #[.slice x0_a x0_n x0_c, .map x1_]) w := by kernel_rfl
theorem bld_63_0_1_2 (x0_ : Int) (x1_0_ : Int) (x1_1_ : Int) (x1_2_ : ByteArray) (x2_ : Int) (w : World) : (Instr.build 63 #[(0, .int .i64 x0_), (1, .agg #[.int .i64 x1_0_, .int .i64 x1_1_, .string x1_2_]), (2, .int .i64 x2_)]).run Try.prog w = .ok (.agg #[.int .i64 x0_, .int .i64 x1_0_, .int .i64 x1_1_, .string x1_2_, .int .i64 x2_]) w := by kernel_rfl
theorem bsl_26_1 (x0_ : Int) (w : World) : (Instr.buildSlice 26 1 #[(0, .int .i64 x0_)]).run Try.prog w = .ok (.slice (some ⟨w.heap.size, 0, none⟩) 1 1) (w.alloc (.cells #[.int .i64 x0_] 3)) := by kernel_rfl
theorem bsl_35_1 (x0_0_ : Int) (x0_1_0_ : Int) (x0_1_1_ : Int) (x0_1_2_ : ByteArray) (x0_2_ : Int) (x0_3_ : Int) (w : World) : (Instr.buildSlice 35 1 #[(0, .agg #[.int .i64 x0_0_, .int .i64 x0_1_0_, .int .i64 x0_1_1_, .string x0_1_2_, .int .i64 x0_2_, .int .i64 x0_3_])]).run Try.prog w = .ok (.slice (some ⟨w.heap.size, 0, none⟩) 1 1) (w.alloc (.cells #[.int .i64 x0_0_, .int .i64 x0_1_0_, .int .i64 x0_1_1_, .string x0_1_2_, .int .i64 x0_2_, .int .i64 x0_3_] 37)) := by kernel_rfl
theorem bsl_48_1 (x0_0_ : Int) (x0_1_ : Int) (x0_2_ : ByteArray) (w : World) : (Instr.buildSlice 48 1 #[(0, .agg #[.int .i64 x0_0_, .int .i64 x0_1_, .string x0_2_])]).run Try.prog w = .ok (.slice (some ⟨w.heap.size, 0, none⟩) 1 1) (w.alloc (.cells #[.int .i64 x0_0_, .int .i64 x0_1_, .string x0_2_] 31)) := by kernel_rfl
theorem zb3 : zeroB Try.prog 3 1 8 = true := by kernel_rfl
theorem zb31 : zeroB Try.prog 31 3 32 = true := by kernel_rfl
theorem zb37 : zeroB Try.prog 37 6 56 = true := by kernel_rfl
end Go.Proofs.Ytmiecljgcbfklaa

