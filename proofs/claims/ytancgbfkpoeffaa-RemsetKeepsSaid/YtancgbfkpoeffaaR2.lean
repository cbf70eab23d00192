/- Pure functions and contracts of Go functions (printed by all3.py). -/
import Derived.Test.YtancgbfkpoeffaaKeys
import Derived.Test.YtancgbfkpoeffaaChecked
namespace Go.Proofs.Ytancgbfkpoeffaa
open Go.RowKit
structure DSet where
  at_ : (List (Int × Bool))
  deriving DecidableEq
structure DValue where
  Kind : Int
  N : Int
  S : ByteArray
  deriving DecidableEq
def rDValue : Rep DValue := .flat 3 (fun x => [.int .i64 x.Kind, .int .i64 x.N, .string x.S]) (fun _ => rfl) (fun _ => rfl)
structure DCell where
  Kind : Int
  Shape : Int
  Flags : Int
  Age : Int
  Slots : (List DValue)
  More : (List DValue)
  deriving DecidableEq
def rDCell : Rep DCell where
  sz := 6
  rel S w vs x := ∃ A4 n4 c4 A5 n5 c5, vs = [.int .i64 x.Kind, .int .i64 x.Shape, .int .i64 x.Flags, .int .i64 x.Age, .slice A4 n4 c4, .slice A5 n5 c5] ∧ SlR rDValue S w (.slice A4 n4 c4) x.Slots ∧ SlR rDValue S w (.slice A5 n5 c5) x.More
  loc := fun h ⟨_, _, _, _, _, _, e, h4, h5⟩ => ⟨_, _, _, _, _, _, e, h4.loc h, h5.loc h⟩
  mono := fun h ⟨_, _, _, _, _, _, e, h4, h5⟩ => ⟨_, _, _, _, _, _, e, h4.mono h, h5.mono h⟩
  len := fun ⟨_, _, _, _, _, _, e, _⟩ => by rw [e]; rfl
  one := fun ⟨_, _, _, _, _, _, e, _⟩ => by rw [e]; rfl
theorem open_DCell (x : DCell) : Opens rDCell x fun vs cs => ∃ A4 n4 c4 A5 n5 c5, vs = [.int .i64 x.Kind, .int .i64 x.Shape, .int .i64 x.Flags, .int .i64 x.Age, .slice A4 n4 c4, .slice A5 n5 c5] ∧ cs = [slC rDValue (.slice A4 n4 c4) x.Slots, slC rDValue (.slice A5 n5 c5) x.More] := fun S w vs ⟨_, _, _, _, _, _, e, h4, h5⟩ => ⟨_, ⟨_, _, _, _, _, _, e, rfl⟩, mem_cons h4 (mem_cons h5 (mem_nil))⟩
structure DStep where
  Clear : Bool
  At : Int
  Cell : DCell
  deriving DecidableEq
def rDStep : Rep DStep where
  sz := 8
  rel S w vs x := ∃ A6 n6 c6 A7 n7 c7, vs = [.bool x.Clear, .int .i64 x.At, .int .i64 x.Cell.Kind, .int .i64 x.Cell.Shape, .int .i64 x.Cell.Flags, .int .i64 x.Cell.Age, .slice A6 n6 c6, .slice A7 n7 c7] ∧ SlR rDValue S w (.slice A6 n6 c6) x.Cell.Slots ∧ SlR rDValue S w (.slice A7 n7 c7) x.Cell.More
  loc := fun h ⟨_, _, _, _, _, _, e, h6, h7⟩ => ⟨_, _, _, _, _, _, e, h6.loc h, h7.loc h⟩
  mono := fun h ⟨_, _, _, _, _, _, e, h6, h7⟩ => ⟨_, _, _, _, _, _, e, h6.mono h, h7.mono h⟩
  len := fun ⟨_, _, _, _, _, _, e, _⟩ => by rw [e]; rfl
  one := fun ⟨_, _, _, _, _, _, e, _⟩ => by rw [e]; rfl
theorem open_DStep (x : DStep) : Opens rDStep x fun vs cs => ∃ A6 n6 c6 A7 n7 c7, vs = [.bool x.Clear, .int .i64 x.At, .int .i64 x.Cell.Kind, .int .i64 x.Cell.Shape, .int .i64 x.Cell.Flags, .int .i64 x.Cell.Age, .slice A6 n6 c6, .slice A7 n7 c7] ∧ cs = [slC rDValue (.slice A6 n6 c6) x.Cell.Slots, slC rDValue (.slice A7 n7 c7) x.Cell.More] := fun S w vs ⟨_, _, _, _, _, _, e, h6, h7⟩ => ⟨_, ⟨_, _, _, _, _, _, e, rfl⟩, mem_cons h6 (mem_cons h7 (mem_nil))⟩
structure DMemory where
  Young : (List DCell)
  Old : (List DCell)
  deriving DecidableEq
def rDMemory : Rep DMemory where
  sz := 2
  rel S w vs x := ∃ A0 n0 c0 A1 n1 c1, vs = [.slice A0 n0 c0, .slice A1 n1 c1] ∧ SlR rDCell S w (.slice A0 n0 c0) x.Young ∧ SlR rDCell S w (.slice A1 n1 c1) x.Old
  loc := fun h ⟨_, _, _, _, _, _, e, h0, h1⟩ => ⟨_, _, _, _, _, _, e, h0.loc h, h1.loc h⟩
  mono := fun h ⟨_, _, _, _, _, _, e, h0, h1⟩ => ⟨_, _, _, _, _, _, e, h0.mono h, h1.mono h⟩
  len := fun ⟨_, _, _, _, _, _, e, _⟩ => by rw [e]; rfl
  one := fun ⟨_, _, _, _, _, _, e, _⟩ => by rw [e]; rfl
theorem open_DMemory (x : DMemory) : Opens rDMemory x fun vs cs => ∃ A0 n0 c0 A1 n1 c1, vs = [.slice A0 n0 c0, .slice A1 n1 c1] ∧ cs = [slC rDCell (.slice A0 n0 c0) x.Young, slC rDCell (.slice A1 n1 c1) x.Old] := fun S w vs ⟨_, _, _, _, _, _, e, h0, h1⟩ => ⟨_, ⟨_, _, _, _, _, _, e, rfl⟩, mem_cons h0 (mem_cons h1 (mem_nil))⟩
theorem call9 : Callable Try.prog 9 := ⟨Try.f9, Try.func9, rfl, rfl⟩
theorem call10 : Callable Try.prog 10 := ⟨Try.f10, Try.func10, rfl, rfl⟩
theorem call11 : Callable Try.prog 11 := ⟨Try.f11, Try.func11, rfl, rfl⟩
theorem call12 : Callable Try.prog 12 := ⟨Try.f12, Try.func12, rfl, rfl⟩
theorem call13 : Callable Try.prog 13 := ⟨Try.f13, Try.func13, rfl, rfl⟩
theorem call14 : Callable Try.prog 14 := ⟨Try.f14, Try.func14, rfl, rfl⟩
theorem call15 : Callable Try.prog 15 := ⟨Try.f15, Try.func15, rfl, rfl⟩
theorem call16 : Callable Try.prog 16 := ⟨Try.f16, Try.func16, rfl, rfl⟩
theorem call17 : Callable Try.prog 17 := ⟨Try.f17, Try.func17, rfl, rfl⟩
theorem call18 : Callable Try.prog 18 := ⟨Try.f18, Try.func18, rfl, rfl⟩
theorem call19 : Callable Try.prog 19 := ⟨Try.f19, Try.func19, rfl, rfl⟩
theorem call20 : Callable Try.prog 20 := ⟨Try.f20, Try.func20, rfl, rfl⟩
theorem call21 : Callable Try.prog 21 := ⟨Try.f21, Try.func21, rfl, rfl⟩
theorem call22 : Callable Try.prog 22 := ⟨Try.f22, Try.func22, rfl, rfl⟩
theorem call23 : Callable Try.prog 23 := ⟨Try.f23, Try.func23, rfl, rfl⟩
theorem call24 : Callable Try.prog 24 := ⟨Try.f24, Try.func24, rfl, rfl⟩
theorem call25 : Callable Try.prog 25 := ⟨Try.f25, Try.func25, rfl, rfl⟩
theorem call26 : Callable Try.prog 26 := ⟨Try.f26, Try.func26, rfl, rfl⟩
theorem call27 : Callable Try.prog 27 := ⟨Try.f27, Try.func27, rfl, rfl⟩
theorem call28 : Callable Try.prog 28 := ⟨Try.f28, Try.func28, rfl, rfl⟩
theorem call29 : Callable Try.prog 29 := ⟨Try.f29, Try.func29, rfl, rfl⟩
theorem call30 : Callable Try.prog 30 := ⟨Try.f30, Try.func30, rfl, rfl⟩
theorem call31 : Callable Try.prog 31 := ⟨Try.f31, Try.func31, rfl, rfl⟩
theorem call32 : Callable Try.prog 32 := ⟨Try.f32, Try.func32, rfl, rfl⟩
theorem call33 : Callable Try.prog 33 := ⟨Try.f33, Try.func33, rfl, rfl⟩
theorem call34 : Callable Try.prog 34 := ⟨Try.f34, Try.func34, rfl, rfl⟩
theorem call35 : Callable Try.prog 35 := ⟨Try.f35, Try.func35, rfl, rfl⟩
theorem call36 : Callable Try.prog 36 := ⟨Try.f36, Try.func36, rfl, rfl⟩
theorem call40 : Callable Try.prog 40 := ⟨Try.f40, Try.func40, rfl, rfl⟩
theorem call41 : Callable Try.prog 41 := ⟨Try.f41, Try.func41, rfl, rfl⟩
theorem call42 : Callable Try.prog 42 := ⟨Try.f42, Try.func42, rfl, rfl⟩
theorem call43 : Callable Try.prog 43 := ⟨Try.f43, Try.func43, rfl, rfl⟩
theorem call44 : Callable Try.prog 44 := ⟨Try.f44, Try.func44, rfl, rfl⟩
theorem call45 : Callable Try.prog 45 := ⟨Try.f45, Try.func45, rfl, rfl⟩
theorem call49 : Callable Try.prog 49 := ⟨Try.f49, Try.func49, rfl, rfl⟩
theorem call50 : Callable Try.prog 50 := ⟨Try.f50, Try.func50, rfl, rfl⟩
theorem call51 : Callable Try.prog 51 := ⟨Try.f51, Try.func51, rfl, rfl⟩
theorem call62 : Callable Try.prog 62 := ⟨Try.f62, Try.func62, rfl, rfl⟩
theorem fa_27_0 (b o : Nat) (w : World) : (Instr.fieldAt 27 (.pointer (some ⟨b, o, none⟩)) 0).run Try.prog w = .ok (.pointer (some ⟨b, o, none⟩)) w := by kernel_rfl
theorem fa_27_4 (b o : Nat) (w : World) : (Instr.fieldAt 27 (.pointer (some ⟨b, o, none⟩)) 4).run Try.prog w = .ok (.pointer (some ⟨b, o + 4, none⟩)) w := by kernel_rfl
theorem fa_27_5 (b o : Nat) (w : World) : (Instr.fieldAt 27 (.pointer (some ⟨b, o, none⟩)) 5).run Try.prog w = .ok (.pointer (some ⟨b, o + 5, none⟩)) w := by kernel_rfl
theorem fa_29_0 (b o : Nat) (w : World) : (Instr.fieldAt 29 (.pointer (some ⟨b, o, none⟩)) 0).run Try.prog w = .ok (.pointer (some ⟨b, o, none⟩)) w := by kernel_rfl
theorem fa_29_1 (b o : Nat) (w : World) : (Instr.fieldAt 29 (.pointer (some ⟨b, o, none⟩)) 1).run Try.prog w = .ok (.pointer (some ⟨b, o + 1, none⟩)) w := by kernel_rfl
theorem fa_29_2 (b o : Nat) (w : World) : (Instr.fieldAt 29 (.pointer (some ⟨b, o, none⟩)) 2).run Try.prog w = .ok (.pointer (some ⟨b, o + 2, none⟩)) w := by kernel_rfl
theorem fa_42_0 (b o : Nat) (w : World) : (Instr.fieldAt 42 (.pointer (some ⟨b, o, none⟩)) 0).run Try.prog w = .ok (.pointer (some ⟨b, o, none⟩)) w := by kernel_rfl
theorem fa_42_1 (b o : Nat) (w : World) : (Instr.fieldAt 42 (.pointer (some ⟨b, o, none⟩)) 1).run Try.prog w = .ok (.pointer (some ⟨b, o + 1, none⟩)) w := by kernel_rfl
theorem fa_56_0 (b o : Nat) (w : World) : (Instr.fieldAt 56 (.pointer (some ⟨b, o, none⟩)) 0).run Try.prog w = .ok (.pointer (some ⟨b, o, none⟩)) w := by kernel_rfl
theorem fa_63_0 (b o : Nat) (w : World) : (Instr.fieldAt 63 (.pointer (some ⟨b, o, none⟩)) 0).run Try.prog w = .ok (.pointer (some ⟨b, o, none⟩)) w := by kernel_rfl
theorem fa_63_1 (b o : Nat) (w : World) : (Instr.fieldAt 63 (.pointer (some ⟨b, o, none⟩)) 1).run Try.prog w = .ok (.pointer (some ⟨b, o + 1, none⟩)) w := by kernel_rfl
theorem one3 : oneB Try.prog 3 = true := by kernel_rfl
theorem one4 : oneB Try.prog 4 = true := by kernel_rfl
theorem one24 : oneB Try.prog 24 = true := by kernel_rfl
theorem one25 : oneB Try.prog 25 = true := by kernel_rfl
theorem one35 : oneB Try.prog 35 = true := by kernel_rfl
theorem one54 : oneB Try.prog 54 = true := by kernel_rfl
theorem agg27 : aggB Try.prog 27 6 = true := by kernel_rfl
theorem agg42 : aggB Try.prog 42 2 = true := by kernel_rfl
theorem agg63 : aggB Try.prog 63 3 = true := by kernel_rfl
theorem size3 : sizeB Try.prog 3 1 = true := by kernel_rfl
theorem size4 : sizeB Try.prog 4 1 = true := by kernel_rfl
theorem size27 : sizeB Try.prog 27 6 = true := by kernel_rfl
theorem size29 : sizeB Try.prog 29 8 = true := by kernel_rfl
theorem size35 : sizeB Try.prog 35 1 = true := by kernel_rfl
theorem size63 : sizeB Try.prog 63 3 = true := by kernel_rfl
theorem zero27 (w : World) : (zeroValue 27).run Try.prog w = .ok (.agg #[.int .i64 0, .int .i64 0, .int .i64 0, .int .i64 0, .slice none 0 0, .slice none 0 0]) w := by kernel_rfl
theorem zero35 (w : World) : (zeroValue 35).run Try.prog w = .ok (.slice none 0 0) w := by kernel_rfl
theorem zero63 (w : World) : (zeroValue 63).run Try.prog w = .ok (.agg #[.int .i64 0, .int .i64 0, .string ⟨#[]⟩]) w := by kernel_rfl
theorem bld_27_0_4 (x0_ : Int) (x4_a : Option Addr) (x4_n x4_c : Nat) (w : World) : (Instr.build 27 #[(0, .int .i64 x0_), (4, .slice x4_a x4_n x4_c)]).run Try.prog w = .ok (.agg #[.int .i64 x0_, .int .i64 0, .int .i64 0, .int .i64 0, .slice x4_a x4_n x4_c, .slice none 0 0]) w := by kernel_rfl
theorem bld_56_0 (x0_ : Option Nat) (w : World) : (Instr.build 56 #[(0, .map x0_)]).run Try.prog w = .ok (.agg #[.map x0_]) w := by kernel_rfl
theorem bld_63_0_1 (x0_ : Int) (x1_ : Int) (w : World) : (Instr.build 63 #[(0, .int .i64 x0_), (1, .int .i64 x1_)]).run Try.prog w = .ok (.agg #[.int .i64 x0_, .int .i64 x1_, .string ⟨#[]⟩]) w := by kernel_rfl
theorem bsl_24_1 (x0_0_ : Int) (x0_1_ : Int) (x0_2_ : Int) (x0_3_ : Int) (x0_4_a : Option Addr) (x0_4_n x0_4_c : Nat) (x0_5_a : Option Addr) (x0_5_n x0_5_c : Nat) (w : World) : (Instr.buildSlice 24 1 #[(0, .agg #[.int .i64 x0_0_, .int .i64 x0_1_, .int .i64 x0_2_, .int .i64 x0_3_, .slice x0_4_a x0_4_n x0_4_c, .slice x0_5_a x0_5_n x0_5_c])]).run Try.prog w = .ok (.slice (some ⟨w.heap.size, 0, none⟩) 1 1) (w.alloc (.cells #[.int .i64 x0_0_, .int .i64 x0_1_, .int .i64 x0_2_, .int .i64 x0_3_, .slice x0_4_a x0_4_n x0_4_c, .slice x0_5_a x0_5_n x0_5_c] 27)) := by kernel_rfl
theorem bsl_25_1 (x0_0_ : Int) (x0_1_ : Int) (x0_2_ : ByteArray) (w : World) : (Instr.buildSlice 25 1 #[(0, .agg #[.int .i64 x0_0_, .int .i64 x0_1_, .string x0_2_])]).run Try.prog w = .ok (.slice (some ⟨w.heap.size, 0, none⟩) 1 1) (w.alloc (.cells #[.int .i64 x0_0_, .int .i64 x0_1_, .string x0_2_] 63)) := by kernel_rfl
theorem bsl_35_0  (w : World) : (Instr.buildSlice 35 0 #[]).run Try.prog w = .ok (.slice (some ⟨w.heap.size, 0, none⟩) 0 0) (w.alloc (.cells #[] 3)) := by kernel_rfl
theorem bsl_35_1 (x0_ : Int) (w : World) : (Instr.buildSlice 35 1 #[(0, .int .i64 x0_)]).run Try.prog w = .ok (.slice (some ⟨w.heap.size, 0, none⟩) 1 1) (w.alloc (.cells #[.int .i64 x0_] 3)) := by kernel_rfl
theorem zb3 : zeroB Try.prog 3 1 8 = true := by kernel_rfl
theorem zb27 : zeroB Try.prog 27 6 80 = true := by kernel_rfl
/-! pantomime/remset.New -/
def remset_New_O (N : Nat) : Option DSet :=
  some (⟨([] : (List (Int × Bool)))⟩ : DSet)
theorem remset_New_ok {N : Nat} {r : DSet} (h : remset_New_O N = some r) : Okc Try.prog 11 [] ([]) (fun (u : Value) (post : List Chunk) => ∃ B0 M1, u = .pointer (some ⟨B0, 0, none⟩) ∧ post = [boxC B0 56 [.map (some M1)], mapC ekI evB M1 r.at_]) := by
  refine ok_E Try.func11 rfl rfl ?_
  simp only [envOf]
  refine G_seq ?_
  refine G_region ?_
  refine G_ev (ev_assign rfl) rfl rfl rfl ?_
  refine G_nil ?_
  refine nx_n ?_
  refine G_seq ?_
  refine G_region ?_
  refine G_opd (op_makeMap (ek := ekI) (ev := evB)) rfl rfl rfl ?_
  rintro _ _ ⟨M1, rfl, rfl⟩
  refine G_ev (ev_build rfl (bld_56_0 _)) rfl rfl rfl ?_
  refine G_opd (op_box rfl rfl) rfl rfl rfl ?_
  rintro _ _ ⟨B2, rfl, rfl⟩
  refine G_ev (ev_assign rfl) rfl rfl rfl ?_
  refine G_nil ?_
  refine nx_n ?_
  refine G_ret ?_
  obtain rfl := Option.some.inj h
  exact endG1 rfl rfl (cv_sel [0, 1] 2 rfl rfl) ⟨_, _, rfl, rfl⟩
/-! pantomime/pantomimelaw21.object -/
def pantomimelaw21_object_O (N : Nat) (a0 : Int) : Option DCell :=
  some (⟨1, 0, 0, 0, ([(⟨7, a0, ⟨#[]⟩⟩ : DValue)] : List DValue), []⟩ : DCell)
theorem pantomimelaw21_object_ok {N : Nat} {a0 : Int} {r : DCell} (h : pantomimelaw21_object_O N a0 = some r) : Okc Try.prog 19 [.int .i64 a0] ([]) (fun (u : Value) (post : List Chunk) => ∃ A0 n0 c0 A1 n1 c1, u = .agg #[.int .i64 r.Kind, .int .i64 r.Shape, .int .i64 r.Flags, .int .i64 r.Age, .slice A0 n0 c0, .slice A1 n1 c1] ∧ post = [ownC rDValue 63 (.slice A0 n0 c0) r.Slots, ownC rDValue 63 (.slice A1 n1 c1) r.More]) := by
  refine ok_E Try.func19 rfl rfl ?_
  simp only [envOf]
  refine G_seq ?_
  refine G_region ?_
  refine G_opd (op_alloc zero27 rfl) rfl rfl rfl ?_
  rintro _ _ ⟨B1, rfl, rfl⟩
  refine G_nil ?_
  refine nx_n ?_
  refine G_seq ?_
  refine G_region ?_
  refine G_ev (ev_move rfl) rfl rfl rfl ?_
  refine G_ev (ev_build rfl (bld_63_0_1 _ _)) rfl rfl rfl ?_
  refine G_opd (op_bslice (R := rDValue) (vss := [[.int .i64 7, .int .i64 a0, .string (⟨#[]⟩)]]) (xs := [(⟨7, a0, ⟨#[]⟩⟩ : DValue)]) rfl (bsl_25_1 _ _ _) rfl rfl (fun _ _ hr => .cons rfl All2.nil)) rfl rfl rfl ?_
  rintro _ _ ⟨A2, n2, c2, rfl, rfl⟩
  refine G_ev (ev_build rfl (bld_27_0_4 _ _ _ _)) rfl rfl rfl ?_
  refine G_opn (op_store (us := [.int .i64 1, .int .i64 0, .int .i64 0, .int .i64 0, .slice A2 n2 c2, .slice none 0 0]) (cs' := [.int .i64 1, .int .i64 0, .int .i64 0, .int .i64 0, .slice A2 n2 c2, .slice none 0 0]) 1 rfl rfl rfl rfl size27 rfl rfl rfl) rfl rfl ?_
  rintro _ _ rfl
  refine G_norm ([ownC rDValue 63 (.slice A2 n2 c2) ([(⟨7, a0, ⟨#[]⟩⟩ : DValue)] : List DValue), boxC B1 27 [.int .i64 1, .int .i64 0, .int .i64 0, .int .i64 0, .slice A2 n2 c2, .slice none 0 0]]) rfl ?_
  refine G_nil ?_
  refine nx_n ?_
  refine G_ret ?_
  obtain rfl := Option.some.inj h
  exact endGc 1 rfl rfl rfl agg27 ((cv_nil rDValue 63 _).trans (cv_sel [1, 0] 3 rfl rfl)) ⟨_, _, _, _, _, _, rfl, rfl⟩
/-! pantomime/remset.old -/
def remset_old_O (N : Nat) (a0 : Int) : Option Bool :=
  (bif decide (0 < a0) then (some (decide (a0.tmod 2 = 0))) else (some false)).bind fun b1 => some b1
theorem remset_old_ok {N : Nat} {a0 : Int} {r : Bool} (h : remset_old_O N a0 = some r) : Okc Try.prog 24 [.int .i64 a0] ([]) (fun (u : Value) (post : List Chunk) => u = .bool r ∧ post = []) := by
  refine ok_E Try.func24 rfl rfl ?_
  simp only [envOf]
  refine G_seq ?_
  refine G_region ?_
  refine G_ev (ev_assign rfl) rfl rfl rfl ?_
  refine G_nil ?_
  refine nx_n ?_
  refine G_seq ?_
  refine G_region ?_
  refine G_ev (ev_move rfl) rfl rfl rfl ?_
  refine G_ev (ev_gt rfl rfl) rfl rfl rfl ?_
  refine G_ev (ev_move rfl) rfl rfl rfl ?_
  obtain ⟨b1, hb1, h⟩ := bind_elim h
  refine G_segb 4 9 b1 ?_ ?_
  · clear h
    refine G_case 5 rfl (fun g1 => ?_) (fun g1 => ?_)
    · have h := cond_t g1 hb1
      refine G_ev (ev_move rfl) rfl (g_tt g1 rfl) rfl ?_
      refine G_ev (ev_rem rfl rfl (by decide)) rfl (g_tt g1 rfl) rfl ?_
      refine G_ev (ev_eq rfl rfl) rfl (g_tt g1 rfl) rfl ?_
      refine G_ev (ev_pick_t' g1 rfl rfl) rfl rfl rfl ?_
      obtain rfl := Option.some.inj h
      exact G_joined (sub_cons rfl (sub_skip (sub_skip (sub_skip (sub_skip sub_refl rfl) rfl) rfl) rfl)) (cv_sel [] 0 rfl rfl)
    · have h := cond_f g1 hb1
      refine G_no (g_tf g1 rfl) rfl ?_
      refine G_no (g_tf g1 rfl) rfl ?_
      refine G_no (g_tf g1 rfl) rfl ?_
      refine G_ev (ev_pick_f' g1 rfl rfl) rfl rfl rfl ?_
      obtain rfl := Option.some.inj h
      exact G_joined (sub_cons rfl (sub_skip (sub_skip (sub_skip (sub_skip sub_refl rfl) rfl) rfl) rfl)) (cv_sel [] 0 rfl rfl)
  refine G_ev (ev_assign rfl) rfl rfl rfl ?_
  refine G_nil ?_
  refine nx_n ?_
  refine G_ret ?_
  obtain rfl := Option.some.inj h
  exact endG1 rfl rfl (cv_sel [] 0 rfl rfl) ⟨rfl, rfl⟩
theorem remset_old_free {r : Bool} : ∀ v post, ((fun (u : Value) (post : List Chunk) => u = .bool r ∧ post = [])) v post → ∀ c ∈ post, Free c := by
  rintro _ _ ⟨rfl, rfl⟩; exact mem_nil
/-! pantomime/cell.all$1 -/
def cell_all_c1_l15 (N : Nat) {σ : Type} (fy : (Bool × DValue) → σ → Option (Bool × σ)) (a1 : DCell) : Nat → Int → σ → Option σ
  | 0, _, _ => none
  | m15 + 1, p16, p17 => bif decide (p16 < (a1.More.length : Int)) then ((getE a1.More p16).bind fun x19 => (bif !decide (a1.Kind = 8) then ((bif !decide (a1.Kind = 10) then (some true) else (some (decide (p16.tmod 2 = 0)))).bind fun b22 => some b22) else (some false)).bind fun b21 => (fy (b21, x19) p17).bind fun y23 => bif !y23.1 then (some y23.2) else (req (in64 (p16 + 1)) ((cell_all_c1_l15 N fy a1 m15) (p16 + 1) y23.2))) else (some p17)
theorem cell_all_c1_l15_s {N m15 : Nat} {σ : Type} {fy : (Bool × DValue) → σ → Option (Bool × σ)} {a1 : DCell} {p16 : Int} {p17 : σ} : cell_all_c1_l15 N fy a1 (m15 + 1) p16 p17 = bif decide (p16 < (a1.More.length : Int)) then ((getE a1.More p16).bind fun x19 => (bif !decide (a1.Kind = 8) then ((bif !decide (a1.Kind = 10) then (some true) else (some (decide (p16.tmod 2 = 0)))).bind fun b22 => some b22) else (some false)).bind fun b21 => (fy (b21, x19) p17).bind fun y23 => bif !y23.1 then (some y23.2) else (req (in64 (p16 + 1)) ((cell_all_c1_l15 N fy a1 m15) (p16 + 1) y23.2))) else (some p17) := rfl
def cell_all_c1_j4 (N : Nat) {σ : Type} (fy : (Bool × DValue) → σ → Option (Bool × σ)) (a1 : DCell) (p5 : σ) : Option σ :=
  cell_all_c1_l15 N fy a1 N 0 p5
def cell_all_c1_l6 (N : Nat) {σ : Type} (fy : (Bool × DValue) → σ → Option (Bool × σ)) (a1 : DCell) : Nat → Int → σ → Option σ
  | 0, _, _ => none
  | m6 + 1, p7, p8 => bif decide (p7 < (a1.Slots.length : Int)) then ((getE a1.Slots p7).bind fun x10 => (fy (true, x10) p8).bind fun y12 => bif !y12.1 then (some y12.2) else (req (in64 (p7 + 1)) ((cell_all_c1_l6 N fy a1 m6) (p7 + 1) y12.2))) else (cell_all_c1_j4 N fy a1 p8)
theorem cell_all_c1_l6_s {N m6 : Nat} {σ : Type} {fy : (Bool × DValue) → σ → Option (Bool × σ)} {a1 : DCell} {p7 : Int} {p8 : σ} : cell_all_c1_l6 N fy a1 (m6 + 1) p7 p8 = bif decide (p7 < (a1.Slots.length : Int)) then ((getE a1.Slots p7).bind fun x10 => (fy (true, x10) p8).bind fun y12 => bif !y12.1 then (some y12.2) else (req (in64 (p7 + 1)) ((cell_all_c1_l6 N fy a1 m6) (p7 + 1) y12.2))) else (cell_all_c1_j4 N fy a1 p8) := rfl
def cell_all_c1_O (N : Nat) {σ : Type} (a1 : DCell) (fy : (Bool × DValue) → σ → Option (Bool × σ)) (s0 : σ) : Option σ :=
  cell_all_c1_l6 N fy a1 N 0 s0
theorem cell_all_c1_ok {N : Nat} {σ : Type} {a1 : DCell} {fy : (Bool × DValue) → σ → Option (Bool × σ)} {s0 : σ} {r : σ} (h : cell_all_c1_O N a1 fy s0 = some r) {B1 : Nat} {A2 : Option Addr} {n2 c2 : Nat} {A3 : Option Addr} {n3 c3 : Nat} {l : Nat} {G : σ → List Chunk} (hY : YieldOk Try.prog l G (fun x => [.bool x.1, .agg #[.int .i64 x.2.Kind, .int .i64 x.2.N, .string x.2.S]]) fy) : Okc Try.prog 62 [.func (.yield l) #[] #[], .pointer (some ⟨B1, 0, none⟩)] (rboxC B1 27 [.int .i64 a1.Kind, .int .i64 a1.Shape, .int .i64 a1.Flags, .int .i64 a1.Age, .slice A2 n2 c2, .slice A3 n3 c3] :: slC rDValue (.slice A2 n2 c2) a1.Slots :: slC rDValue (.slice A3 n3 c3) a1.More :: (G s0)) (fun (u : Value) (post : List Chunk) => u = .tuple #[] ∧ post = G r) := by
  refine ok_E Try.func62 rfl rfl ?_
  simp only [envOf]
  refine G_joinF (fun s L => ∃ (p5 : σ), cell_all_c1_j4 N fy a1 p5 = some r ∧ s = [(0, .func (.yield l) #[] #[]), (1, .pointer (some ⟨B1, 0, none⟩))] ∧ L = slC rDValue (.slice A2 n2 c2) a1.Slots :: slC rDValue (.slice A3 n3 c3) a1.More :: rboxC B1 27 [.int .i64 a1.Kind, .int .i64 a1.Shape, .int .i64 a1.Flags, .int .i64 a1.Age, .slice A2 n2 c2, .slice A3 n3 c3] :: (G p5)) ?_ ?_
  · refine G_seq ?_
    refine G_region ?_
    refine G_ev (ev_fa rfl fa_27_4) rfl rfl rfl ?_
    refine G_rd (rd_rbox1 0 rfl rfl one25 rfl) rfl rfl rfl ?_
    refine G_rd (rd_len 1 rfl els_sl rfl Try.underlying25) rfl rfl rfl ?_
    refine G_ev (ev_move rfl) rfl rfl rfl ?_
    refine G_nil ?_
    refine nx_n ?_
    refine G_block ?_
    refine G_loopF (fun m s L => ∃ (p7 : Int) (p8 : σ), cell_all_c1_l6 N fy a1 m p7 p8 = some r ∧ s = [(0, .func (.yield l) #[] #[]), (1, .pointer (some ⟨B1, 0, none⟩)), (9, .slice A2 n2 c2), (10, .int .i64 (a1.Slots.length : Int)), (11, .int .i64 p7)] ∧ L = slC rDValue (.slice A2 n2 c2) a1.Slots :: slC rDValue (.slice A3 n3 c3) a1.More :: rboxC B1 27 [.int .i64 a1.Kind, .int .i64 a1.Shape, .int .i64 a1.Flags, .int .i64 a1.Age, .slice A2 n2 c2, .slice A3 n3 c3] :: (G p8)) N _ _ ⟨0, s0, h, rfl, rfl⟩ (sub_cons rfl (sub_cons rfl (sub_cons rfl (sub_cons rfl (sub_cons rfl sub_nil))))) (cv_sel [1, 2, 0] 3 rfl rfl) ?_
    rintro (_ | m6) _ _ ⟨p7, p8, h, rfl, rfl⟩
    · exact none_some h
    rw [cell_all_c1_l6_s] at h
    refine G_seq ?_
    refine G_region ?_
    refine G_ev (ev_lt rfl rfl) rfl rfl rfl ?_
    refine G_nil ?_
    refine nx_n ?_
    refine G_seq ?_
    refine G_cond rfl (fun g9 => ?_) (fun g9 => ?_)
    · replace h := cond_t g9 h
      refine G_skip ?_
      refine nx_n ?_
      refine G_seq ?_
      refine G_block ?_
      refine G_seq ?_
      refine G_region ?_
      obtain ⟨x10, hx10, h⟩ := bind_elim h
      obtain ⟨lx10, ux10, hx10⟩ := getE_elim hx10
      refine G_rd (rd_idx 0 rfl els_sl rfl rfl Try.underlying25 size63 lx10 ux10) rfl rfl rfl ?_
      refine G_rd (rd_elemS (us := [.int .i64 x10.Kind, .int .i64 x10.N, .string x10.S]) 0 rfl els_sl rfl hx10 agg63 (fun _ _ _ h => by rw [show _ = _ from h]; rfl)) rfl rfl rfl ?_
      refine G_opd (op_alloc zero63 rfl) rfl rfl rfl ?_
      rintro _ _ ⟨B11, rfl, rfl⟩
      refine G_opn (op_store (us := [.int .i64 x10.Kind, .int .i64 x10.N, .string x10.S]) (cs' := [.int .i64 x10.Kind, .int .i64 x10.N, .string x10.S]) 0 rfl rfl rfl rfl size63 rfl rfl rfl) rfl rfl ?_
      rintro _ _ rfl
      refine G_norm (boxC B11 63 [.int .i64 x10.Kind, .int .i64 x10.N, .string x10.S] :: slC rDValue (.slice A2 n2 c2) a1.Slots :: slC rDValue (.slice A3 n3 c3) a1.More :: rboxC B1 27 [.int .i64 a1.Kind, .int .i64 a1.Shape, .int .i64 a1.Flags, .int .i64 a1.Age, .slice A2 n2 c2, .slice A3 n3 c3] :: (G p8)) rfl ?_
      refine G_nil ?_
      refine nx_n ?_
      refine G_seq ?_
      refine G_region ?_
      refine G_ev (ev_move rfl) rfl rfl rfl ?_
      refine G_rd (rd_boxS (us := [.int .i64 x10.Kind, .int .i64 x10.N, .string x10.S]) 0 rfl rfl agg63 rfl) rfl rfl rfl ?_
      obtain ⟨y12, hy12, h⟩ := bind_elim h
      refine G_opd (op_yieldE (a := (true, x10)) [boxC B11 63 [.int .i64 x10.Kind, .int .i64 x10.N, .string x10.S], slC rDValue (.slice A2 n2 c2) a1.Slots, slC rDValue (.slice A3 n3 c3) a1.More, rboxC B1 27 [.int .i64 a1.Kind, .int .i64 a1.Shape, .int .i64 a1.Flags, .int .i64 a1.Age, .slice A2 n2 c2, .slice A3 n3 c3]] hY hy12 rfl rfl) rfl rfl rfl ?_
      rintro _ _ ⟨rfl, rfl⟩
      refine G_norm (boxC B11 63 [.int .i64 x10.Kind, .int .i64 x10.N, .string x10.S] :: slC rDValue (.slice A2 n2 c2) a1.Slots :: slC rDValue (.slice A3 n3 c3) a1.More :: rboxC B1 27 [.int .i64 a1.Kind, .int .i64 a1.Shape, .int .i64 a1.Flags, .int .i64 a1.Age, .slice A2 n2 c2, .slice A3 n3 c3] :: (G y12.2)) rfl ?_
      refine G_ev (ev_not rfl) rfl rfl rfl ?_
      refine G_nil ?_
      refine nx_n ?_
      refine G_cond rfl (fun g13 => ?_) (fun g13 => ?_)
      · replace h := cond_t g13 h
        refine G_ret ?_
        refine bk_r ?_
        refine nx_r ?_
        refine nx_r ?_
        refine bk_r ?_
        refine nx_r ?_
        obtain rfl := Option.some.inj h
        exact endG0 rfl (cv_sel [] 4 rfl rfl) ⟨rfl, rfl⟩
      · replace h := cond_f g13 h
        refine G_skip ?_
        refine bk_n ?_
        refine nx_n ?_
        refine G_region ?_
        obtain ⟨q14, h⟩ := req_elim h
        refine G_ev (ev_add rfl rfl q14.1 q14.2) rfl rfl rfl ?_
        refine G_ev (ev_move rfl) rfl rfl rfl ?_
        refine G_nil ?_
        refine nx_n ?_
        exact ⟨m6, _, _, Nat.lt_succ_self _, ⟨p7 + 1, y12.2, h, rfl, rfl⟩, sub_cons rfl (sub_cons rfl (sub_cons rfl (sub_cons rfl (sub_cons rfl sub_nil)))), cv_sel [1, 2, 3] 4 rfl rfl⟩
    · replace h := cond_f g9 h
      refine G_exit ?_
      refine nx_e ?_
      refine nx_e ?_
      refine bk_x ?_
      refine nx_n ?_
      exact ⟨_, _, ⟨p8, h, rfl, rfl⟩, sub_cons rfl (sub_cons rfl sub_nil), cv_sel [0, 1, 2] 3 rfl rfl⟩
  · rintro _ _ ⟨p5, h, rfl, rfl⟩
    refine G_seq ?_
    refine G_region ?_
    refine G_ev (ev_fa rfl fa_27_5) rfl rfl rfl ?_
    refine G_rd (rd_rbox1 2 rfl rfl one25 rfl) rfl rfl rfl ?_
    refine G_rd (rd_len 1 rfl els_sl rfl Try.underlying25) rfl rfl rfl ?_
    refine G_ev (ev_move rfl) rfl rfl rfl ?_
    refine G_nil ?_
    refine nx_n ?_
    refine G_block ?_
    refine G_loopF (fun m s L => ∃ (p16 : Int) (p17 : σ), cell_all_c1_l15 N fy a1 m p16 p17 = some r ∧ s = [(0, .func (.yield l) #[] #[]), (1, .pointer (some ⟨B1, 0, none⟩)), (21, .slice A3 n3 c3), (22, .int .i64 (a1.More.length : Int)), (23, .int .i64 p16)] ∧ L = slC rDValue (.slice A3 n3 c3) a1.More :: slC rDValue (.slice A2 n2 c2) a1.Slots :: rboxC B1 27 [.int .i64 a1.Kind, .int .i64 a1.Shape, .int .i64 a1.Flags, .int .i64 a1.Age, .slice A2 n2 c2, .slice A3 n3 c3] :: (G p17)) N _ _ ⟨0, p5, h, rfl, rfl⟩ (sub_cons rfl (sub_cons rfl (sub_cons rfl (sub_cons rfl (sub_cons rfl sub_nil))))) (cv_sel [1, 0, 2] 3 rfl rfl) ?_
    rintro (_ | m15) _ _ ⟨p16, p17, h, rfl, rfl⟩
    · exact none_some h
    rw [cell_all_c1_l15_s] at h
    refine G_seq ?_
    refine G_region ?_
    refine G_ev (ev_lt rfl rfl) rfl rfl rfl ?_
    refine G_nil ?_
    refine nx_n ?_
    refine G_seq ?_
    refine G_cond rfl (fun g18 => ?_) (fun g18 => ?_)
    · replace h := cond_t g18 h
      refine G_skip ?_
      refine nx_n ?_
      refine G_seq ?_
      refine G_block ?_
      refine G_seq ?_
      refine G_region ?_
      refine G_ev (ev_move rfl) rfl rfl rfl ?_
      obtain ⟨x19, hx19, h⟩ := bind_elim h
      obtain ⟨lx19, ux19, hx19⟩ := getE_elim hx19
      refine G_rd (rd_idx 0 rfl els_sl rfl rfl Try.underlying25 size63 lx19 ux19) rfl rfl rfl ?_
      refine G_rd (rd_elemS (us := [.int .i64 x19.Kind, .int .i64 x19.N, .string x19.S]) 0 rfl els_sl rfl hx19 agg63 (fun _ _ _ h => by rw [show _ = _ from h]; rfl)) rfl rfl rfl ?_
      refine G_opd (op_alloc zero63 rfl) rfl rfl rfl ?_
      rintro _ _ ⟨B20, rfl, rfl⟩
      refine G_ev (ev_assign rfl) rfl rfl rfl ?_
      refine G_opn (op_store (us := [.int .i64 x19.Kind, .int .i64 x19.N, .string x19.S]) (cs' := [.int .i64 x19.Kind, .int .i64 x19.N, .string x19.S]) 0 rfl rfl rfl rfl size63 rfl rfl rfl) rfl rfl ?_
      rintro _ _ rfl
      refine G_norm (boxC B20 63 [.int .i64 x19.Kind, .int .i64 x19.N, .string x19.S] :: slC rDValue (.slice A3 n3 c3) a1.More :: slC rDValue (.slice A2 n2 c2) a1.Slots :: rboxC B1 27 [.int .i64 a1.Kind, .int .i64 a1.Shape, .int .i64 a1.Flags, .int .i64 a1.Age, .slice A2 n2 c2, .slice A3 n3 c3] :: (G p17)) rfl ?_
      refine G_nil ?_
      refine nx_n ?_
      refine G_seq ?_
      refine G_region ?_
      refine G_ev (ev_fa0 rfl fa_27_0) rfl rfl rfl ?_
      refine G_rd (rd_rbox1 3 rfl rfl one3 rfl) rfl rfl rfl ?_
      refine G_ev (ev_ne rfl rfl) rfl rfl rfl ?_
      refine G_ev (ev_move rfl) rfl rfl rfl ?_
      obtain ⟨b21, hb21, h⟩ := bind_elim h
      refine G_segb 9 40 b21 ?_ ?_
      · clear h
        refine G_case 31 rfl (fun g21 => ?_) (fun g21 => ?_)
        · have h := cond_t g21 hb21
          refine G_ev (ev_fa0 rfl fa_27_0) rfl (g_tt g21 rfl) rfl ?_
          refine G_rd (rd_rbox1 3 rfl rfl one3 rfl) rfl (g_tt g21 rfl) rfl ?_
          refine G_ev (ev_ne rfl rfl) rfl (g_tt g21 rfl) rfl ?_
          refine G_ev (ev_move rfl) rfl (g_tt g21 rfl) rfl ?_
          obtain ⟨b22, hb22, h⟩ := bind_elim h
          refine G_segb 4 39 b22 ?_ ?_
          · clear h
            refine G_case 35 rfl (fun g22 => ?_) (fun g22 => ?_)
            · have h := cond_t g22 hb22
              refine G_no (g_ft g22 rfl) rfl ?_
              refine G_no (g_ft g22 rfl) rfl ?_
              refine G_no (g_ft g22 rfl) rfl ?_
              refine G_ev (ev_pick_t' g22 rfl rfl) rfl (g_tt g21 rfl) rfl ?_
              obtain rfl := Option.some.inj h
              exact G_joined (sub_cons rfl (sub_skip (sub_skip (sub_skip (sub_skip sub_refl rfl) rfl) rfl) rfl)) (cv_sel [0, 1, 2, 3] 4 rfl rfl)
            · have h := cond_f g22 hb22
              refine G_ev (ev_move rfl) rfl (g_ff g22 rfl) rfl ?_
              refine G_ev (ev_rem rfl rfl (by decide)) rfl (g_ff g22 rfl) rfl ?_
              refine G_ev (ev_eq rfl rfl) rfl (g_ff g22 rfl) rfl ?_
              refine G_ev (ev_pick_f' g22 rfl rfl) rfl (g_tt g21 rfl) rfl ?_
              obtain rfl := Option.some.inj h
              exact G_joined (sub_cons rfl (sub_skip (sub_skip (sub_skip (sub_skip sub_refl rfl) rfl) rfl) rfl)) (cv_sel [0, 1, 2, 3] 4 rfl rfl)
          refine G_ev (ev_pick_t' g21 rfl rfl) rfl rfl rfl ?_
          obtain rfl := Option.some.inj h
          exact G_joined (sub_cons rfl (sub_skip (sub_skip (sub_skip (sub_skip (sub_skip (sub_skip sub_refl rfl) rfl) rfl) rfl) rfl) rfl)) (cv_sel [0, 1, 2, 3] 4 rfl rfl)
        · have h := cond_f g21 hb21
          refine G_no (g_tf g21 rfl) rfl ?_
          refine G_no (g_tf g21 rfl) rfl ?_
          refine G_no (g_tf g21 rfl) rfl ?_
          refine G_no (g_tf g21 rfl) rfl ?_
          refine G_no rfl rfl ?_
          refine G_no rfl rfl ?_
          refine G_no rfl rfl ?_
          refine G_no (g_tf g21 rfl) rfl ?_
          refine G_ev (ev_pick_f' g21 rfl rfl) rfl rfl rfl ?_
          obtain rfl := Option.some.inj h
          exact G_joined (sub_cons rfl (sub_skip (sub_skip (sub_skip (sub_skip (sub_skip (sub_skip (sub_skip (sub_skip (sub_skip sub_refl rfl) rfl) rfl) rfl) rfl) rfl) rfl) rfl) rfl)) (cv_sel [0, 1, 2, 3] 4 rfl rfl)
      refine G_ev (ev_assign rfl) rfl rfl rfl ?_
      refine G_nil ?_
      refine nx_n ?_
      refine G_seq ?_
      refine G_region ?_
      refine G_ev (ev_move rfl) rfl rfl rfl ?_
      refine G_ev (ev_move rfl) rfl rfl rfl ?_
      refine G_rd (rd_boxS (us := [.int .i64 x19.Kind, .int .i64 x19.N, .string x19.S]) 0 rfl rfl agg63 rfl) rfl rfl rfl ?_
      obtain ⟨y23, hy23, h⟩ := bind_elim h
      refine G_opd (op_yieldE (a := (b21, x19)) [boxC B20 63 [.int .i64 x19.Kind, .int .i64 x19.N, .string x19.S], slC rDValue (.slice A3 n3 c3) a1.More, slC rDValue (.slice A2 n2 c2) a1.Slots, rboxC B1 27 [.int .i64 a1.Kind, .int .i64 a1.Shape, .int .i64 a1.Flags, .int .i64 a1.Age, .slice A2 n2 c2, .slice A3 n3 c3]] hY hy23 rfl rfl) rfl rfl rfl ?_
      rintro _ _ ⟨rfl, rfl⟩
      refine G_norm (boxC B20 63 [.int .i64 x19.Kind, .int .i64 x19.N, .string x19.S] :: slC rDValue (.slice A3 n3 c3) a1.More :: slC rDValue (.slice A2 n2 c2) a1.Slots :: rboxC B1 27 [.int .i64 a1.Kind, .int .i64 a1.Shape, .int .i64 a1.Flags, .int .i64 a1.Age, .slice A2 n2 c2, .slice A3 n3 c3] :: (G y23.2)) rfl ?_
      refine G_ev (ev_not rfl) rfl rfl rfl ?_
      refine G_nil ?_
      refine nx_n ?_
      refine G_cond rfl (fun g24 => ?_) (fun g24 => ?_)
      · replace h := cond_t g24 h
        refine G_ret ?_
        refine bk_r ?_
        refine nx_r ?_
        refine nx_r ?_
        refine bk_r ?_
        obtain rfl := Option.some.inj h
        exact endG0 rfl (cv_sel [] 4 rfl rfl) ⟨rfl, rfl⟩
      · replace h := cond_f g24 h
        refine G_skip ?_
        refine bk_n ?_
        refine nx_n ?_
        refine G_region ?_
        obtain ⟨q25, h⟩ := req_elim h
        refine G_ev (ev_add rfl rfl q25.1 q25.2) rfl rfl rfl ?_
        refine G_ev (ev_move rfl) rfl rfl rfl ?_
        refine G_nil ?_
        refine nx_n ?_
        exact ⟨m15, _, _, Nat.lt_succ_self _, ⟨p16 + 1, y23.2, h, rfl, rfl⟩, sub_cons rfl (sub_cons rfl (sub_cons rfl (sub_cons rfl (sub_cons rfl sub_nil)))), cv_sel [1, 2, 3] 4 rfl rfl⟩
    · replace h := cond_f g18 h
      refine G_exit ?_
      refine nx_e ?_
      refine nx_e ?_
      refine bk_x ?_
      obtain rfl := Option.some.inj h
      exact endG0n rfl (cv_sel [] 3 rfl rfl) ⟨rfl, rfl⟩
/-! pantomime/cell.all -/
def cell_all_O (N : Nat) (a0 : DCell) : Option Unit :=
  some ()
theorem cell_all_ok {N : Nat} {a0 : DCell} {r : Unit} (h : cell_all_O N a0 = some r) {A1 : Option Addr} {n1 c1 : Nat} {A2 : Option Addr} {n2 c2 : Nat} : Okc Try.prog 50 [.agg #[.int .i64 a0.Kind, .int .i64 a0.Shape, .int .i64 a0.Flags, .int .i64 a0.Age, .slice A1 n1 c1, .slice A2 n2 c2]] ([slC rDValue (.slice A1 n1 c1) a0.Slots, slC rDValue (.slice A2 n2 c2) a0.More]) (fun (u : Value) (post : List Chunk) => ∃ B900, u = .func (.func 62) #[] #[.pointer (some ⟨B900, 0, none⟩)] ∧ post = [boxC B900 27 [.int .i64 a0.Kind, .int .i64 a0.Shape, .int .i64 a0.Flags, .int .i64 a0.Age, .slice A1 n1 c1, .slice A2 n2 c2]]) := by
  refine ok_E Try.func50 rfl rfl ?_
  simp only [envOf]
  refine G_seq ?_
  refine G_region ?_
  refine G_opd (op_box rfl rfl) rfl rfl rfl ?_
  rintro _ _ ⟨B3, rfl, rfl⟩
  refine G_ev (ev_assign rfl) rfl rfl rfl ?_
  refine G_nil ?_
  refine nx_n ?_
  refine G_seq ?_
  refine G_region ?_
  refine G_ev (ev_makeFunc rfl) rfl rfl rfl ?_
  refine G_ev (ev_assign rfl) rfl rfl rfl ?_
  refine G_nil ?_
  refine nx_n ?_
  refine G_ret ?_
  obtain rfl := Option.some.inj h
  exact endG1 rfl rfl (cv_sel [0] 3 rfl rfl) ⟨_, rfl, rfl⟩
theorem cell_all_free {a0 : DCell} {A1 : Option Addr} {n1 c1 : Nat} {A2 : Option Addr} {n2 c2 : Nat} : ∀ v post, ((fun (u : Value) (post : List Chunk) => ∃ B900, u = .func (.func 62) #[] #[.pointer (some ⟨B900, 0, none⟩)] ∧ post = [boxC B900 27 [.int .i64 a0.Kind, .int .i64 a0.Shape, .int .i64 a0.Flags, .int .i64 a0.Age, .slice A1 n1 c1, .slice A2 n2 c2]])) v post → ∀ c ∈ post, Free c := by
  rintro _ _ ⟨_, rfl, rfl⟩; exact mem_cons free_box (mem_nil)
/-! pantomime/cell.leads -/
def cell_leads_O (N : Nat) (a0 : DValue) : Option Bool :=
  (bif decide (a0.Kind = 7) then (some true) else (some (decide (a0.Kind = 9)))).bind fun b2 => some b2
theorem cell_leads_ok {N : Nat} {a0 : DValue} {r : Bool} (h : cell_leads_O N a0 = some r) : Okc Try.prog 51 [.agg #[.int .i64 a0.Kind, .int .i64 a0.N, .string a0.S]] ([]) (fun (u : Value) (post : List Chunk) => u = .bool r ∧ post = []) := by
  refine ok_E Try.func51 rfl rfl ?_
  simp only [envOf]
  refine G_seq ?_
  refine G_region ?_
  refine G_opd (op_box rfl rfl) rfl rfl rfl ?_
  rintro _ _ ⟨B1, rfl, rfl⟩
  refine G_ev (ev_assign rfl) rfl rfl rfl ?_
  refine G_nil ?_
  refine nx_n ?_
  refine G_seq ?_
  refine G_region ?_
  refine G_ev (ev_fa0 rfl fa_63_0) rfl rfl rfl ?_
  refine G_rd (rd_box1 0 rfl rfl one3 rfl) rfl rfl rfl ?_
  refine G_ev (ev_eq rfl rfl) rfl rfl rfl ?_
  refine G_ev (ev_move rfl) rfl rfl rfl ?_
  obtain ⟨b2, hb2, h⟩ := bind_elim h
  refine G_segb 4 10 b2 ?_ ?_
  · clear h
    refine G_case 6 rfl (fun g2 => ?_) (fun g2 => ?_)
    · have h := cond_t g2 hb2
      refine G_no (g_ft g2 rfl) rfl ?_
      refine G_no (g_ft g2 rfl) rfl ?_
      refine G_no (g_ft g2 rfl) rfl ?_
      refine G_ev (ev_pick_t' g2 rfl rfl) rfl rfl rfl ?_
      obtain rfl := Option.some.inj h
      exact G_joined (sub_cons rfl (sub_skip (sub_skip (sub_skip (sub_skip sub_refl rfl) rfl) rfl) rfl)) (cv_sel [0] 1 rfl rfl)
    · have h := cond_f g2 hb2
      refine G_ev (ev_fa0 rfl fa_63_0) rfl (g_ff g2 rfl) rfl ?_
      refine G_rd (rd_box1 0 rfl rfl one3 rfl) rfl (g_ff g2 rfl) rfl ?_
      refine G_ev (ev_eq rfl rfl) rfl (g_ff g2 rfl) rfl ?_
      refine G_ev (ev_pick_f' g2 rfl rfl) rfl rfl rfl ?_
      obtain rfl := Option.some.inj h
      exact G_joined (sub_cons rfl (sub_skip (sub_skip (sub_skip (sub_skip sub_refl rfl) rfl) rfl) rfl)) (cv_sel [0] 1 rfl rfl)
  refine G_ev (ev_assign rfl) rfl rfl rfl ?_
  refine G_nil ?_
  refine nx_n ?_
  refine G_ret ?_
  obtain rfl := Option.some.inj h
  exact endG1 rfl rfl (cv_sel [] 1 rfl rfl) ⟨rfl, rfl⟩
theorem cell_leads_free {r : Bool} : ∀ v post, ((fun (u : Value) (post : List Chunk) => u = .bool r ∧ post = [])) v post → ∀ c ∈ post, Free c := by
  rintro _ _ ⟨rfl, rfl⟩; exact mem_nil
/-! pantomime/cell.addresses -/
def cell_addresses_b8 (N : Nat) (a1 : Bool) (x8 : Bool × DValue) : ((List Int)) → Option (Option Exit × (List Int))
  | p9 => (bif x8.1 == a1 then ((cell_leads_O N x8.2).bind fun y14 => some y14) else (some false)).bind fun b13 => bif b13 then (req (fitsL (p9.length + ([x8.2.N] : List Int).length)) (some (none, p9 ++ ([x8.2.N] : List Int)))) else (some (none, p9))
def cell_addresses_O (N : Nat) (a0 : DCell) (a1 : Bool) : Option (List Int) :=
  (cell_all_O N a0).bind fun y6 => (cell_all_c1_O N a0 (liftR (fun x st => cell_addresses_b8 N a1 x st)) (none, [])).bind fun y10 => req (y10.1 = none) (some y10.2)
theorem cell_addresses_ok {N : Nat} {a0 : DCell} {a1 : Bool} {r : (List Int)} (h : cell_addresses_O N a0 a1 = some r) {A1 : Option Addr} {n1 c1 : Nat} {A2 : Option Addr} {n2 c2 : Nat} : Okc Try.prog 45 [.agg #[.int .i64 a0.Kind, .int .i64 a0.Shape, .int .i64 a0.Flags, .int .i64 a0.Age, .slice A1 n1 c1, .slice A2 n2 c2], .bool a1] ([slC rDValue (.slice A1 n1 c1) a0.Slots, slC rDValue (.slice A2 n2 c2) a0.More]) (fun (u : Value) (post : List Chunk) => ∃ A0 n0 c0, u = .slice A0 n0 c0 ∧ post = [ownC (rInt .i64) 3 (.slice A0 n0 c0) r]) := by
  refine ok_E Try.func45 rfl rfl ?_
  simp only [envOf]
  refine G_seq ?_
  refine G_region ?_
  refine G_opd (op_box rfl rfl) rfl rfl rfl ?_
  rintro _ _ ⟨B3, rfl, rfl⟩
  refine G_opd (op_box rfl rfl) rfl rfl rfl ?_
  rintro _ _ ⟨B4, rfl, rfl⟩
  refine G_ev (ev_assign rfl) rfl rfl rfl ?_
  refine G_nil ?_
  refine nx_n ?_
  refine G_seq ?_
  refine G_region ?_
  refine G_opd (op_alloc zero35 rfl) rfl rfl rfl ?_
  rintro _ _ ⟨B5, rfl, rfl⟩
  refine G_nil ?_
  refine nx_n ?_
  refine G_seq ?_
  refine G_seq ?_
  refine G_region ?_
  refine G_rd (rd_boxS (us := [.int .i64 a0.Kind, .int .i64 a0.Shape, .int .i64 a0.Flags, .int .i64 a0.Age, .slice A1 n1 c1, .slice A2 n2 c2]) 2 rfl rfl agg27 rfl) rfl rfl rfl ?_
  obtain ⟨y6, hy6, h⟩ := bind_elim h
  refine G_opd (op_callR (cell_all_ok hy6) call50 rfl (mem_cons (lent_ro (i := 3) rfl rfl) (mem_cons (lent_ro (i := 4) rfl rfl) mem_nil)) cell_all_free) rfl rfl rfl ?_
  rintro _ _ ⟨_, ⟨B7, rfl, rfl⟩, rfl⟩
  refine G_nil ?_
  refine nx_n ?_
  refine G_sub ?_ sub_refl (cv_frzbox 0 rfl)
  refine Wq_norm ([rboxC B7 27 [.int .i64 a0.Kind, .int .i64 a0.Shape, .int .i64 a0.Flags, .int .i64 a0.Age, .slice A1 n1 c1, .slice A2 n2 c2], boxC B5 35 [.slice none 0 0], boxC B4 4 [.bool a1], boxC B3 27 [.int .i64 a0.Kind, .int .i64 a0.Shape, .int .i64 a0.Flags, .int .i64 a0.Age, .slice A1 n1 c1, .slice A2 n2 c2], slC rDValue (.slice A1 n1 c1) a0.Slots, slC rDValue (.slice A2 n2 c2) a0.More]) rfl ?_
  obtain ⟨y10, hy10, h⟩ := bind_elim h
  obtain ⟨hjy10, h⟩ := req_elim h
  refine G_rangeS (en := (fun x => [.bool x.1, .agg #[.int .i64 x.2.Kind, .int .i64 x.2.N, .string x.2.S]])) (fun x st => cell_addresses_b8 N a1 x st) (fun (st : (List Int)) (mz : ((Option Addr × Nat × Nat))) => [boxC B4 4 [.bool a1], ownC (rInt .i64) 3 (.slice mz.1 mz.2.1 mz.2.2) st, boxC B5 35 [.slice mz.1 mz.2.1 mz.2.2]]) [rboxC B7 27 [.int .i64 a0.Kind, .int .i64 a0.Shape, .int .i64 a0.Flags, .int .i64 a0.Age, .slice A1 n1 c1, .slice A2 n2 c2], slC rDValue (.slice A1 n1 c1) a0.Slots, slC rDValue (.slice A2 n2 c2) a0.More] ([]) ((none, 0, 0)) rfl rfl call62 rfl (fun _ => rfl) (fun l G hY => (cell_all_c1_ok hy10 hY).mono fun _ _ hh => hh.2) ((cv_nil (rInt .i64) 3 _).trans (cv_take [1, 5, 6] [] [3, 0, 2] 7 rfl)) ?_ hjy10 ?_
  · rintro l x8 p9 je sr8 ⟨A9, n9, c9⟩ h
    replace h : cell_addresses_b8 N a1 x8 p9 = some (je, sr8) := h
    simp only [envR, List.zip_cons_cons, List.zip_nil_left, List.zip_nil_right, List.reverse_cons, List.reverse_nil, List.nil_append, List.cons_append]
    refine G_seq ?_
    refine G_region ?_
    refine G_ev (ev_assign rfl) rfl rfl rfl ?_
    refine G_nil ?_
    refine nx_n ?_
    refine G_region ?_
    refine G_opd (op_alloc zero63 rfl) rfl rfl rfl ?_
    rintro _ _ ⟨B12, rfl, rfl⟩
    refine G_opn (op_store (us := [.int .i64 x8.2.Kind, .int .i64 x8.2.N, .string x8.2.S]) (cs' := [.int .i64 x8.2.Kind, .int .i64 x8.2.N, .string x8.2.S]) 0 rfl rfl rfl rfl size63 rfl rfl rfl) rfl rfl ?_
    rintro _ _ rfl
    refine G_norm ([boxC B12 63 [.int .i64 x8.2.Kind, .int .i64 x8.2.N, .string x8.2.S], boxC B4 4 [.bool a1], ownC (rInt .i64) 3 (.slice A9 n9 c9) p9, boxC B5 35 [.slice A9 n9 c9]]) rfl ?_
    refine G_nil ?_
    refine nx_n ?_
    refine G_block ?_
    refine G_seq ?_
    refine G_region ?_
    refine G_ev (ev_move rfl) rfl rfl rfl ?_
    refine G_rd (rd_box1 1 rfl rfl one4 rfl) rfl rfl rfl ?_
    refine G_ev (ev_beq rfl rfl Try.underlying4) rfl rfl rfl ?_
    refine G_ev (ev_move rfl) rfl rfl rfl ?_
    obtain ⟨b13, hb13, h⟩ := bind_elim h
    refine G_segb 3 18 b13 ?_ ?_
    · clear h
      refine G_case 15 rfl (fun g13 => ?_) (fun g13 => ?_)
      · have h := cond_t g13 hb13
        refine G_rd (rd_boxS (us := [.int .i64 x8.2.Kind, .int .i64 x8.2.N, .string x8.2.S]) 0 rfl rfl agg63 rfl) rfl (g_tt g13 rfl) rfl ?_
        obtain ⟨y14, hy14, h⟩ := bind_elim h
        refine G_opd (op_callR (cell_leads_ok hy14) call51 rfl (mem_nil) cell_leads_free) rfl (g_tt g13 rfl) rfl ?_
        rintro _ _ ⟨_, ⟨rfl, rfl⟩, rfl⟩
        refine G_ev (ev_pick_t' g13 rfl rfl) rfl rfl rfl ?_
        obtain rfl := Option.some.inj h
        exact G_joined (sub_cons rfl (sub_skip (sub_skip (sub_skip sub_refl rfl) rfl) rfl)) (cv_sel [0, 1, 2, 3] 4 rfl rfl)
      · have h := cond_f g13 hb13
        refine G_no (g_tf g13 rfl) rfl ?_
        refine G_no (g_tf g13 rfl) rfl ?_
        refine G_ev (ev_pick_f' g13 rfl rfl) rfl rfl rfl ?_
        obtain rfl := Option.some.inj h
        exact G_joined (sub_cons rfl (sub_skip (sub_skip (sub_skip sub_refl rfl) rfl) rfl)) (cv_sel [0, 1, 2, 3] 4 rfl rfl)
    refine G_nil ?_
    refine nx_n ?_
    refine G_cond rfl (fun g15 => ?_) (fun g15 => ?_)
    · replace h := cond_t g15 h
      refine G_region ?_
      refine G_rd (rd_box1 3 rfl rfl one35 rfl) rfl rfl rfl ?_
      refine G_ev (ev_fa rfl fa_63_1) rfl rfl rfl ?_
      refine G_rd (rd_box1 0 rfl rfl one3 rfl) rfl rfl rfl ?_
      refine G_opd (op_bslice (R := (rInt .i64)) (vss := [[.int .i64 x8.2.N]]) (xs := [x8.2.N]) rfl (bsl_35_1 _) rfl rfl (fun _ _ hr => .cons rfl All2.nil)) rfl rfl rfl ?_
      rintro _ _ ⟨A16, n16, c16, rfl, rfl⟩
      obtain ⟨q17, h⟩ := req_elim h
      refine G_opd (op_append 3 0 rfl rfl els_own rfl rfl Try.underlying35 zb3 rfl rfl q17) rfl rfl rfl ?_
      rintro _ _ ⟨A18, n18, c18, rfl, rfl⟩
      refine G_norm ([ownC (rInt .i64) 3 (.slice A16 n16 c16) ([x8.2.N] : List Int), boxC B12 63 [.int .i64 x8.2.Kind, .int .i64 x8.2.N, .string x8.2.S], boxC B4 4 [.bool a1], ownC (rInt .i64) 3 (.slice A18 n18 c18) (p9 ++ ([x8.2.N] : List Int)), boxC B5 35 [.slice A9 n9 c9]]) rfl ?_
      refine G_opn (op_store (us := [.slice A18 n18 c18]) (cs' := [.slice A18 n18 c18]) 4 rfl rfl rfl rfl size35 rfl rfl rfl) rfl rfl ?_
      rintro _ _ rfl
      refine G_norm ([ownC (rInt .i64) 3 (.slice A16 n16 c16) ([x8.2.N] : List Int), boxC B12 63 [.int .i64 x8.2.Kind, .int .i64 x8.2.N, .string x8.2.S], boxC B4 4 [.bool a1], ownC (rInt .i64) 3 (.slice A18 n18 c18) (p9 ++ ([x8.2.N] : List Int)), boxC B5 35 [.slice A18 n18 c18]]) rfl ?_
      refine G_nil ?_
      refine bk_n ?_
      obtain ⟨rfl, rfl⟩ := Prod.mk.inj (Option.some.inj h)
      exact ⟨.inl ⟨rfl, rfl⟩, (cv_sel [2, 3, 4] 5 rfl rfl).trans (cv_pack1 (A18, n18, c18) rfl)⟩
    · replace h := cond_f g15 h
      refine G_skip ?_
      refine bk_n ?_
      obtain ⟨rfl, rfl⟩ := Prod.mk.inj (Option.some.inj h)
      exact ⟨.inl ⟨rfl, rfl⟩, (cv_sel [1, 2, 3] 4 rfl rfl).trans (cv_pack1 (A9, n9, c9) rfl)⟩
  refine nx_n ?_
  refine G_unpack ?_
  rintro ⟨A9, n9, c9⟩
  refine Wq_norm ([boxC B4 4 [.bool a1], ownC (rInt .i64) 3 (.slice A9 n9 c9) y10.2, boxC B5 35 [.slice A9 n9 c9]]) rfl ?_
  refine G_seq ?_
  refine G_region ?_
  refine G_rd (rd_box1 2 rfl rfl one35 rfl) rfl rfl rfl ?_
  refine G_ev (ev_assign rfl) rfl rfl rfl ?_
  refine G_nil ?_
  refine nx_n ?_
  refine G_ret ?_
  obtain rfl := Option.some.inj h
  exact endG1 rfl rfl (cv_sel [1] 3 rfl rfl) ⟨_, _, _, rfl, rfl⟩
theorem cell_addresses_free {r : (List Int)} : ∀ v post, ((fun (u : Value) (post : List Chunk) => ∃ A0 n0 c0, u = .slice A0 n0 c0 ∧ post = [ownC (rInt .i64) 3 (.slice A0 n0 c0) r])) v post → ∀ c ∈ post, Free c := by
  rintro _ _ ⟨_, _, _, rfl, rfl⟩; exact mem_cons free_own (mem_nil)
/-! pantomime/cell.Leads -/
def cell_Leads_O (N : Nat) (a0 : DCell) : Option (List Int) :=
  (cell_addresses_O N a0 true).bind fun y4 => some y4
theorem cell_Leads_ok {N : Nat} {a0 : DCell} {r : (List Int)} (h : cell_Leads_O N a0 = some r) {A1 : Option Addr} {n1 c1 : Nat} {A2 : Option Addr} {n2 c2 : Nat} : Okc Try.prog 34 [.agg #[.int .i64 a0.Kind, .int .i64 a0.Shape, .int .i64 a0.Flags, .int .i64 a0.Age, .slice A1 n1 c1, .slice A2 n2 c2]] ([slC rDValue (.slice A1 n1 c1) a0.Slots, slC rDValue (.slice A2 n2 c2) a0.More]) (fun (u : Value) (post : List Chunk) => ∃ A0 n0 c0, u = .slice A0 n0 c0 ∧ post = [ownC (rInt .i64) 3 (.slice A0 n0 c0) r]) := by
  refine ok_E Try.func34 rfl rfl ?_
  simp only [envOf]
  refine G_seq ?_
  refine G_region ?_
  refine G_opd (op_box rfl rfl) rfl rfl rfl ?_
  rintro _ _ ⟨B3, rfl, rfl⟩
  refine G_ev (ev_assign rfl) rfl rfl rfl ?_
  refine G_nil ?_
  refine nx_n ?_
  refine G_seq ?_
  refine G_region ?_
  refine G_rd (rd_boxS (us := [.int .i64 a0.Kind, .int .i64 a0.Shape, .int .i64 a0.Flags, .int .i64 a0.Age, .slice A1 n1 c1, .slice A2 n2 c2]) 0 rfl rfl agg27 rfl) rfl rfl rfl ?_
  obtain ⟨y4, hy4, h⟩ := bind_elim h
  refine G_opd (op_callR (cell_addresses_ok hy4) call45 rfl (mem_cons (lent_ro (i := 1) rfl rfl) (mem_cons (lent_ro (i := 2) rfl rfl) mem_nil)) cell_addresses_free) rfl rfl rfl ?_
  rintro _ _ ⟨_, ⟨A5, n5, c5, rfl, rfl⟩, rfl⟩
  refine G_ev (ev_assign rfl) rfl rfl rfl ?_
  refine G_nil ?_
  refine nx_n ?_
  refine G_ret ?_
  obtain rfl := Option.some.inj h
  exact endG1 rfl rfl (cv_sel [0] 4 rfl rfl) ⟨_, _, _, rfl, rfl⟩
theorem cell_Leads_free {r : (List Int)} : ∀ v post, ((fun (u : Value) (post : List Chunk) => ∃ A0 n0 c0, u = .slice A0 n0 c0 ∧ post = [ownC (rInt .i64) 3 (.slice A0 n0 c0) r])) v post → ∀ c ∈ post, Free c := by
  rintro _ _ ⟨_, _, _, rfl, rfl⟩; exact mem_cons free_own (mem_nil)
/-! slices.IndexFunc[[]int,int] -/
def slices_IndexFunc_j2 (N : Nat) (ff : Int → Option Bool) : Option Int :=
  some (-1)
def slices_IndexFunc_l3 (N : Nat) (ff : Int → Option Bool) (a0 : (List Int)) : Nat → Int → Option Int
  | 0, _ => none
  | m3 + 1, p4 => bif decide (p4 < (a0.length : Int)) then ((getE a0 p4).bind fun x6 => (ff x6).bind fun y7 => bif y7 then (some p4) else (req (in64 (p4 + 1)) ((slices_IndexFunc_l3 N ff a0 m3) (p4 + 1)))) else (slices_IndexFunc_j2 N ff)
theorem slices_IndexFunc_l3_s {N m3 : Nat} {ff : Int → Option Bool} {a0 : (List Int)} {p4 : Int} : slices_IndexFunc_l3 N ff a0 (m3 + 1) p4 = bif decide (p4 < (a0.length : Int)) then ((getE a0 p4).bind fun x6 => (ff x6).bind fun y7 => bif y7 then (some p4) else (req (in64 (p4 + 1)) ((slices_IndexFunc_l3 N ff a0 m3) (p4 + 1)))) else (slices_IndexFunc_j2 N ff) := rfl
def slices_IndexFunc_O (N : Nat) (a0 : (List Int)) (ff : Int → Option Bool) : Option Int :=
  slices_IndexFunc_l3 N ff a0 N 0
theorem slices_IndexFunc_ok {N : Nat} {a0 : (List Int)} {ff : Int → Option Bool} {r : Int} (h : slices_IndexFunc_O N a0 ff = some r) {A1 : Option Addr} {n1 c1 : Nat} {vf : Value} {G : List Chunk} (hf : FnOk Try.prog vf G (fun x => [.int .i64 x]) (fun r => .bool r) ff) : Okc Try.prog 44 [.slice A1 n1 c1, vf] (slC (rInt .i64) (.slice A1 n1 c1) a0 :: G) (fun (u : Value) (post : List Chunk) => u = .int .i64 r ∧ post = []) := by
  refine ok_E Try.func44 rfl rfl ?_
  simp only [envOf]
  refine G_seq ?_
  refine G_region ?_
  refine G_ev (ev_assign rfl) rfl rfl rfl ?_
  refine G_nil ?_
  refine nx_n ?_
  refine G_joinF (fun s L => slices_IndexFunc_j2 N ff = some r ∧ s = [(4, .int .i64 0)] ∧ L = G) ?_ ?_
  · refine G_seq ?_
    refine G_region ?_
    refine G_ev (ev_move rfl) rfl rfl rfl ?_
    refine G_rd (rd_len 0 rfl els_sl rfl Try.underlying35) rfl rfl rfl ?_
    refine G_ev (ev_move rfl) rfl rfl rfl ?_
    refine G_nil ?_
    refine nx_n ?_
    refine G_block ?_
    refine G_loopF (fun m s L => ∃ (p4 : Int), slices_IndexFunc_l3 N ff a0 m p4 = some r ∧ s = [(0, .slice A1 n1 c1), (1, vf), (4, .int .i64 0), (7, .int .i64 (a0.length : Int)), (8, .int .i64 p4)] ∧ L = slC (rInt .i64) (.slice A1 n1 c1) a0 :: G) N _ _ ⟨0, h, rfl, rfl⟩ (sub_cons rfl (sub_cons rfl (sub_cons rfl (sub_cons rfl (sub_cons rfl sub_nil))))) (cv_sel [0] 1 rfl rfl) ?_
    rintro (_ | m3) _ _ ⟨p4, h, rfl, rfl⟩
    · exact none_some h
    rw [slices_IndexFunc_l3_s] at h
    refine G_seq ?_
    refine G_region ?_
    refine G_ev (ev_lt rfl rfl) rfl rfl rfl ?_
    refine G_nil ?_
    refine nx_n ?_
    refine G_seq ?_
    refine G_cond rfl (fun g5 => ?_) (fun g5 => ?_)
    · replace h := cond_t g5 h
      refine G_skip ?_
      refine nx_n ?_
      refine G_seq ?_
      refine G_block ?_
      refine G_seq ?_
      refine G_region ?_
      refine G_ev (ev_move rfl) rfl rfl rfl ?_
      refine G_ev (ev_assign rfl) rfl rfl rfl ?_
      refine G_nil ?_
      refine nx_n ?_
      refine G_seq ?_
      refine G_region ?_
      refine G_ev (ev_move rfl) rfl rfl rfl ?_
      refine G_ev (ev_move rfl) rfl rfl rfl ?_
      refine G_ev (ev_move rfl) rfl rfl rfl ?_
      obtain ⟨x6, hx6, h⟩ := bind_elim h
      obtain ⟨lx6, ux6, hx6⟩ := getE_elim hx6
      refine G_rd (rd_idx 0 rfl els_sl rfl rfl Try.underlying35 size3 lx6 ux6) rfl rfl rfl ?_
      refine G_rd (rd_elem1 (u := .int .i64 x6) 0 rfl els_sl rfl hx6 one3 (fun _ _ _ h => by rw [show _ = _ from h]; rfl)) rfl rfl rfl ?_
      obtain ⟨y7, hy7, h⟩ := bind_elim h
      refine G_opd (op_callf (a := x6) [slC (rInt .i64) (.slice A1 n1 c1) a0] hf hy7 rfl rfl) rfl rfl rfl ?_
      rintro _ _ ⟨rfl, rfl⟩
      refine G_norm (slC (rInt .i64) (.slice A1 n1 c1) a0 :: G) rfl ?_
      refine G_nil ?_
      refine nx_n ?_
      refine G_cond rfl (fun g8 => ?_) (fun g8 => ?_)
      · replace h := cond_t g8 h
        refine G_seq ?_
        refine G_region ?_
        refine G_ev (ev_move rfl) rfl rfl rfl ?_
        refine G_ev (ev_assign rfl) rfl rfl rfl ?_
        refine G_nil ?_
        refine nx_n ?_
        refine G_ret ?_
        refine bk_r ?_
        refine nx_r ?_
        refine nx_r ?_
        refine bk_r ?_
        refine nx_r ?_
        obtain rfl := Option.some.inj h
        exact endG1 rfl rfl (cv_selD [] 1 rfl rfl) ⟨rfl, rfl⟩
      · replace h := cond_f g8 h
        refine G_skip ?_
        refine bk_n ?_
        refine nx_n ?_
        refine G_region ?_
        obtain ⟨q9, h⟩ := req_elim h
        refine G_ev (ev_add rfl rfl q9.1 q9.2) rfl rfl rfl ?_
        refine G_ev (ev_move rfl) rfl rfl rfl ?_
        refine G_nil ?_
        refine nx_n ?_
        exact ⟨m3, _, _, Nat.lt_succ_self _, ⟨p4 + 1, h, rfl, rfl⟩, sub_cons rfl (sub_cons rfl (sub_cons rfl (sub_cons rfl (sub_cons rfl sub_nil)))), cv_sel [0] 1 rfl rfl⟩
    · replace h := cond_f g5 h
      refine G_exit ?_
      refine nx_e ?_
      refine nx_e ?_
      refine bk_x ?_
      refine nx_n ?_
      exact ⟨_, _, ⟨h, rfl, rfl⟩, sub_cons rfl sub_nil, cv_sel [] 1 rfl rfl⟩
  · rintro _ _ ⟨h, rfl, rfl⟩
    refine G_seq ?_
    refine G_region ?_
    refine G_ev (ev_assign rfl) rfl rfl rfl ?_
    refine G_nil ?_
    refine nx_n ?_
    refine G_ret ?_
    obtain rfl := Option.some.inj h
    exact endG1 rfl rfl (cv_selD [] 0 rfl rfl) ⟨rfl, rfl⟩
theorem slices_IndexFunc_free {r : Int} : ∀ v post, ((fun (u : Value) (post : List Chunk) => u = .int .i64 r ∧ post = [])) v post → ∀ c ∈ post, Free c := by
  rintro _ _ ⟨rfl, rfl⟩; exact mem_nil
/-! slices.ContainsFunc[[]int,int] -/
def slices_ContainsFunc_O (N : Nat) (a0 : (List Int)) (ff : Int → Option Bool) : Option Bool :=
  (slices_IndexFunc_O N a0 ff).bind fun y2 => some (decide (0 ≤ y2))
theorem slices_ContainsFunc_ok {N : Nat} {a0 : (List Int)} {ff : Int → Option Bool} {r : Bool} (h : slices_ContainsFunc_O N a0 ff = some r) {A1 : Option Addr} {n1 c1 : Nat} {vf : Value} {G : List Chunk} (hf : FnOk Try.prog vf G (fun x => [.int .i64 x]) (fun r => .bool r) ff) : Okc Try.prog 33 [.slice A1 n1 c1, vf] (slC (rInt .i64) (.slice A1 n1 c1) a0 :: G) (fun (u : Value) (post : List Chunk) => u = .bool r ∧ post = []) := by
  refine ok_E Try.func33 rfl rfl ?_
  simp only [envOf]
  refine G_seq ?_
  refine G_region ?_
  refine G_ev (ev_assign rfl) rfl rfl rfl ?_
  refine G_nil ?_
  refine nx_n ?_
  refine G_seq ?_
  refine G_region ?_
  refine G_ev (ev_move rfl) rfl rfl rfl ?_
  refine G_ev (ev_move rfl) rfl rfl rfl ?_
  obtain ⟨y2, hy2, h⟩ := bind_elim h
  refine G_opd (op_callR (slices_IndexFunc_ok hy2 hf) call44 rfl (mem_cons (lent_ro (i := 0) rfl rfl) (lent_tail (E := [slC (rInt .i64) (.slice A1 n1 c1) a0]) hf.1)) slices_IndexFunc_free) rfl rfl rfl ?_
  rintro _ _ ⟨_, ⟨rfl, rfl⟩, rfl⟩
  refine G_ev (ev_ge rfl rfl) rfl rfl rfl ?_
  refine G_ev (ev_assign rfl) rfl rfl rfl ?_
  refine G_nil ?_
  refine nx_n ?_
  refine G_ret ?_
  obtain rfl := Option.some.inj h
  exact endG1 rfl rfl (cv_selD [] 1 rfl rfl) ⟨rfl, rfl⟩
theorem slices_ContainsFunc_free {r : Bool} : ∀ v post, ((fun (u : Value) (post : List Chunk) => u = .bool r ∧ post = [])) v post → ∀ c ∈ post, Free c := by
  rintro _ _ ⟨rfl, rfl⟩; exact mem_nil
/-! pantomime/remset.young -/
def remset_young_O (N : Nat) (a0 : Int) : Option Bool :=
  (bif decide (0 < a0) then (some (decide (a0.tmod 2 = 1))) else (some false)).bind fun b1 => some b1
theorem remset_young_ok {N : Nat} {a0 : Int} {r : Bool} (h : remset_young_O N a0 = some r) : Okc Try.prog 35 [.int .i64 a0] ([]) (fun (u : Value) (post : List Chunk) => u = .bool r ∧ post = []) := by
  refine ok_E Try.func35 rfl rfl ?_
  simp only [envOf]
  refine G_seq ?_
  refine G_region ?_
  refine G_ev (ev_assign rfl) rfl rfl rfl ?_
  refine G_nil ?_
  refine nx_n ?_
  refine G_seq ?_
  refine G_region ?_
  refine G_ev (ev_move rfl) rfl rfl rfl ?_
  refine G_ev (ev_gt rfl rfl) rfl rfl rfl ?_
  refine G_ev (ev_move rfl) rfl rfl rfl ?_
  obtain ⟨b1, hb1, h⟩ := bind_elim h
  refine G_segb 4 9 b1 ?_ ?_
  · clear h
    refine G_case 5 rfl (fun g1 => ?_) (fun g1 => ?_)
    · have h := cond_t g1 hb1
      refine G_ev (ev_move rfl) rfl (g_tt g1 rfl) rfl ?_
      refine G_ev (ev_rem rfl rfl (by decide)) rfl (g_tt g1 rfl) rfl ?_
      refine G_ev (ev_eq rfl rfl) rfl (g_tt g1 rfl) rfl ?_
      refine G_ev (ev_pick_t' g1 rfl rfl) rfl rfl rfl ?_
      obtain rfl := Option.some.inj h
      exact G_joined (sub_cons rfl (sub_skip (sub_skip (sub_skip (sub_skip sub_refl rfl) rfl) rfl) rfl)) (cv_sel [] 0 rfl rfl)
    · have h := cond_f g1 hb1
      refine G_no (g_tf g1 rfl) rfl ?_
      refine G_no (g_tf g1 rfl) rfl ?_
      refine G_no (g_tf g1 rfl) rfl ?_
      refine G_ev (ev_pick_f' g1 rfl rfl) rfl rfl rfl ?_
      obtain rfl := Option.some.inj h
      exact G_joined (sub_cons rfl (sub_skip (sub_skip (sub_skip (sub_skip sub_refl rfl) rfl) rfl) rfl)) (cv_sel [] 0 rfl rfl)
  refine G_ev (ev_assign rfl) rfl rfl rfl ?_
  refine G_nil ?_
  refine nx_n ?_
  refine G_ret ?_
  obtain rfl := Option.some.inj h
  exact endG1 rfl rfl (cv_sel [] 0 rfl rfl) ⟨rfl, rfl⟩
theorem remset_young_free {r : Bool} : ∀ v post, ((fun (u : Value) (post : List Chunk) => u = .bool r ∧ post = [])) v post → ∀ c ∈ post, Free c := by
  rintro _ _ ⟨rfl, rfl⟩; exact mem_nil
/-! pantomime/cell.Weakly -/
def cell_Weakly_O (N : Nat) (a0 : DCell) : Option (List Int) :=
  (cell_addresses_O N a0 false).bind fun y4 => some y4
theorem cell_Weakly_ok {N : Nat} {a0 : DCell} {r : (List Int)} (h : cell_Weakly_O N a0 = some r) {A1 : Option Addr} {n1 c1 : Nat} {A2 : Option Addr} {n2 c2 : Nat} : Okc Try.prog 36 [.agg #[.int .i64 a0.Kind, .int .i64 a0.Shape, .int .i64 a0.Flags, .int .i64 a0.Age, .slice A1 n1 c1, .slice A2 n2 c2]] ([slC rDValue (.slice A1 n1 c1) a0.Slots, slC rDValue (.slice A2 n2 c2) a0.More]) (fun (u : Value) (post : List Chunk) => ∃ A0 n0 c0, u = .slice A0 n0 c0 ∧ post = [ownC (rInt .i64) 3 (.slice A0 n0 c0) r]) := by
  refine ok_E Try.func36 rfl rfl ?_
  simp only [envOf]
  refine G_seq ?_
  refine G_region ?_
  refine G_opd (op_box rfl rfl) rfl rfl rfl ?_
  rintro _ _ ⟨B3, rfl, rfl⟩
  refine G_ev (ev_assign rfl) rfl rfl rfl ?_
  refine G_nil ?_
  refine nx_n ?_
  refine G_seq ?_
  refine G_region ?_
  refine G_rd (rd_boxS (us := [.int .i64 a0.Kind, .int .i64 a0.Shape, .int .i64 a0.Flags, .int .i64 a0.Age, .slice A1 n1 c1, .slice A2 n2 c2]) 0 rfl rfl agg27 rfl) rfl rfl rfl ?_
  obtain ⟨y4, hy4, h⟩ := bind_elim h
  refine G_opd (op_callR (cell_addresses_ok hy4) call45 rfl (mem_cons (lent_ro (i := 1) rfl rfl) (mem_cons (lent_ro (i := 2) rfl rfl) mem_nil)) cell_addresses_free) rfl rfl rfl ?_
  rintro _ _ ⟨_, ⟨A5, n5, c5, rfl, rfl⟩, rfl⟩
  refine G_ev (ev_assign rfl) rfl rfl rfl ?_
  refine G_nil ?_
  refine nx_n ?_
  refine G_ret ?_
  obtain rfl := Option.some.inj h
  exact endG1 rfl rfl (cv_sel [0] 4 rfl rfl) ⟨_, _, _, rfl, rfl⟩
theorem cell_Weakly_free {r : (List Int)} : ∀ v post, ((fun (u : Value) (post : List Chunk) => ∃ A0 n0 c0, u = .slice A0 n0 c0 ∧ post = [ownC (rInt .i64) 3 (.slice A0 n0 c0) r])) v post → ∀ c ∈ post, Free c := by
  rintro _ _ ⟨_, _, _, rfl, rfl⟩; exact mem_cons free_own (mem_nil)
/-! pantomime/remset.leads -/
def remset_leads_O (N : Nat) (a0 : DCell) : Option Bool :=
  (cell_Leads_O N a0).bind fun y4 => (slices_ContainsFunc_O N y4 (fun x => remset_young_O N x)).bind fun y6 => (bif y6 then (some true) else ((cell_Weakly_O N a0).bind fun y8 => (slices_ContainsFunc_O N y8 (fun x => remset_young_O N x)).bind fun y10 => some y10)).bind fun b7 => some b7
theorem remset_leads_ok {N : Nat} {a0 : DCell} {r : Bool} (h : remset_leads_O N a0 = some r) {A1 : Option Addr} {n1 c1 : Nat} {A2 : Option Addr} {n2 c2 : Nat} : Okc Try.prog 25 [.agg #[.int .i64 a0.Kind, .int .i64 a0.Shape, .int .i64 a0.Flags, .int .i64 a0.Age, .slice A1 n1 c1, .slice A2 n2 c2]] ([slC rDValue (.slice A1 n1 c1) a0.Slots, slC rDValue (.slice A2 n2 c2) a0.More]) (fun (u : Value) (post : List Chunk) => u = .bool r ∧ post = []) := by
  refine ok_E Try.func25 rfl rfl ?_
  simp only [envOf]
  refine G_seq ?_
  refine G_region ?_
  refine G_opd (op_box rfl rfl) rfl rfl rfl ?_
  rintro _ _ ⟨B3, rfl, rfl⟩
  refine G_ev (ev_assign rfl) rfl rfl rfl ?_
  refine G_nil ?_
  refine nx_n ?_
  refine G_seq ?_
  refine G_region ?_
  refine G_rd (rd_boxS (us := [.int .i64 a0.Kind, .int .i64 a0.Shape, .int .i64 a0.Flags, .int .i64 a0.Age, .slice A1 n1 c1, .slice A2 n2 c2]) 0 rfl rfl agg27 rfl) rfl rfl rfl ?_
  obtain ⟨y4, hy4, h⟩ := bind_elim h
  refine G_opd (op_callR (cell_Leads_ok hy4) call34 rfl (mem_cons (lent_ro (i := 1) rfl rfl) (mem_cons (lent_ro (i := 2) rfl rfl) mem_nil)) cell_Leads_free) rfl rfl rfl ?_
  rintro _ _ ⟨_, ⟨A5, n5, c5, rfl, rfl⟩, rfl⟩
  obtain ⟨y6, hy6, h⟩ := bind_elim h
  refine G_opd (op_callR (slices_ContainsFunc_ok hy6 ⟨mem_nil, 35, #[], rfl, call35, fun _ _ hh => remset_young_ok hh⟩) call33 rfl (mem_cons (lent_own (i := 0) rfl) mem_nil) slices_ContainsFunc_free) rfl rfl rfl ?_
  rintro _ _ ⟨_, ⟨rfl, rfl⟩, rfl⟩
  refine G_ev (ev_move rfl) rfl rfl rfl ?_
  obtain ⟨b7, hb7, h⟩ := bind_elim h
  refine G_segb 4 10 b7 ?_ ?_
  · clear h
    refine G_case 6 rfl (fun g7 => ?_) (fun g7 => ?_)
    · have h := cond_t g7 hb7
      refine G_no (g_ft g7 rfl) rfl ?_
      refine G_no (g_ft g7 rfl) rfl ?_
      refine G_no (g_ft g7 rfl) rfl ?_
      refine G_ev (ev_pick_t' g7 rfl rfl) rfl rfl rfl ?_
      obtain rfl := Option.some.inj h
      exact G_joined (sub_cons rfl (sub_skip (sub_skip (sub_skip (sub_skip sub_refl rfl) rfl) rfl) rfl)) (cv_sel [0, 1, 2, 3] 4 rfl rfl)
    · have h := cond_f g7 hb7
      refine G_rd (rd_boxS (us := [.int .i64 a0.Kind, .int .i64 a0.Shape, .int .i64 a0.Flags, .int .i64 a0.Age, .slice A1 n1 c1, .slice A2 n2 c2]) 1 rfl rfl agg27 rfl) rfl (g_ff g7 rfl) rfl ?_
      obtain ⟨y8, hy8, h⟩ := bind_elim h
      refine G_opd (op_callR (cell_Weakly_ok hy8) call36 rfl (mem_cons (lent_ro (i := 2) rfl rfl) (mem_cons (lent_ro (i := 3) rfl rfl) mem_nil)) cell_Weakly_free) rfl (g_ff g7 rfl) rfl ?_
      rintro _ _ ⟨_, ⟨A9, n9, c9, rfl, rfl⟩, rfl⟩
      obtain ⟨y10, hy10, h⟩ := bind_elim h
      refine G_opd (op_callR (slices_ContainsFunc_ok hy10 ⟨mem_nil, 35, #[], rfl, call35, fun _ _ hh => remset_young_ok hh⟩) call33 rfl (mem_cons (lent_own (i := 0) rfl) mem_nil) slices_ContainsFunc_free) rfl (g_ff g7 rfl) rfl ?_
      rintro _ _ ⟨_, ⟨rfl, rfl⟩, rfl⟩
      refine G_ev (ev_pick_f' g7 rfl rfl) rfl rfl rfl ?_
      obtain rfl := Option.some.inj h
      exact G_joined (sub_cons rfl (sub_skip (sub_skip (sub_skip (sub_skip sub_refl rfl) rfl) rfl) rfl)) (cv_sel [1, 2, 3, 4] 5 rfl rfl)
  refine G_ev (ev_assign rfl) rfl rfl rfl ?_
  refine G_nil ?_
  refine nx_n ?_
  refine G_ret ?_
  obtain rfl := Option.some.inj h
  exact endG1 rfl rfl (cv_sel [] 4 rfl rfl) ⟨rfl, rfl⟩
theorem remset_leads_free {r : Bool} : ∀ v post, ((fun (u : Value) (post : List Chunk) => u = .bool r ∧ post = [])) v post → ∀ c ∈ post, Free c := by
  rintro _ _ ⟨rfl, rfl⟩; exact mem_nil
/-! (*pantomime/remset.Set).Note -/
def remset_Set_Note_j10 (N : Nat) (a1 : Int) (a0 : DSet) : Option (Bool × DSet) :=
  some (true, (⟨upL a0.at_ a1 true⟩ : DSet))
def remset_Set_Note_O (N : Nat) (a0 : DSet) (a1 : Int) (a2 : DCell) : Option (Bool × DSet) :=
  (remset_old_O N a1).bind fun y6 => bif !y6 then (some (false, a0)) else ((remset_leads_O N a2).bind fun y8 => bif !y8 then (some (false, (⟨delL a0.at_ a1⟩ : DSet))) else (remset_Set_Note_j10 N a1 a0))
theorem remset_Set_Note_ok {N : Nat} {a0 : DSet} {a1 : Int} {a2 : DCell} {r : (Bool × DSet)} (h : remset_Set_Note_O N a0 a1 a2 = some r) {A3 : Option Addr} {n3 c3 : Nat} {A4 : Option Addr} {n4 c4 : Nat} {B1 : Nat} {M2 : Nat} : Okc Try.prog 12 [.pointer (some ⟨B1, 0, none⟩), .int .i64 a1, .agg #[.int .i64 a2.Kind, .int .i64 a2.Shape, .int .i64 a2.Flags, .int .i64 a2.Age, .slice A3 n3 c3, .slice A4 n4 c4]] ([slC rDValue (.slice A3 n3 c3) a2.Slots, slC rDValue (.slice A4 n4 c4) a2.More, boxC B1 56 [.map (some M2)], mapC ekI evB M2 a0.at_]) (fun (u : Value) (post : List Chunk) => ∃ M0, u = .bool r.1 ∧ post = [boxC B1 56 [.map (some M0)], mapC ekI evB M0 r.2.at_]) := by
  refine ok_E Try.func12 rfl rfl ?_
  simp only [envOf]
  refine G_seq ?_
  refine G_region ?_
  refine G_opd (op_box rfl rfl) rfl rfl rfl ?_
  rintro _ _ ⟨B5, rfl, rfl⟩
  refine G_ev (ev_assign rfl) rfl rfl rfl ?_
  refine G_nil ?_
  refine nx_n ?_
  refine G_seq ?_
  refine G_seq ?_
  refine G_region ?_
  refine G_ev (ev_move rfl) rfl rfl rfl ?_
  refine G_ev (ev_nil_eq rfl Try.underlying31) rfl rfl rfl ?_
  refine G_ev (ev_move rfl) rfl rfl rfl ?_
  refine G_ev (ev_move rfl) rfl rfl rfl ?_
  obtain ⟨y6, hy6, h⟩ := bind_elim h
  refine G_opd (op_callR (remset_old_ok hy6) call24 rfl (mem_nil) remset_old_free) rfl rfl rfl ?_
  rintro _ _ ⟨_, ⟨rfl, rfl⟩, rfl⟩
  refine G_ev (ev_not rfl) rfl rfl rfl ?_
  refine G_ev (ev_pick_f rfl rfl) rfl rfl rfl ?_
  refine G_nil ?_
  refine nx_n ?_
  refine G_cond rfl (fun g7 => ?_) (fun g7 => ?_)
  · replace h := cond_t g7 h
    refine G_seq ?_
    refine G_region ?_
    refine G_ev (ev_assign rfl) rfl rfl rfl ?_
    refine G_nil ?_
    refine nx_n ?_
    refine G_ret ?_
    refine nx_r ?_
    obtain rfl := Option.some.inj h
    exact endG1 rfl rfl (cv_sel [3, 4] 5 rfl rfl) ⟨_, rfl, rfl⟩
  · replace h := cond_f g7 h
    refine G_skip ?_
    refine nx_n ?_
    refine G_seq ?_
    refine G_seq ?_
    refine G_region ?_
    refine G_rd (rd_boxS (us := [.int .i64 a2.Kind, .int .i64 a2.Shape, .int .i64 a2.Flags, .int .i64 a2.Age, .slice A3 n3 c3, .slice A4 n4 c4]) 0 rfl rfl agg27 rfl) rfl rfl rfl ?_
    obtain ⟨y8, hy8, h⟩ := bind_elim h
    refine G_opd (op_callR (remset_leads_ok hy8) call25 rfl (mem_cons (lent_ro (i := 1) rfl rfl) (mem_cons (lent_ro (i := 2) rfl rfl) mem_nil)) remset_leads_free) rfl rfl rfl ?_
    rintro _ _ ⟨_, ⟨rfl, rfl⟩, rfl⟩
    refine G_ev (ev_not rfl) rfl rfl rfl ?_
    refine G_nil ?_
    refine nx_n ?_
    refine G_cond rfl (fun g9 => ?_) (fun g9 => ?_)
    · replace h := cond_t g9 h
      refine G_seq ?_
      refine G_region ?_
      refine G_ev (ev_move rfl) rfl rfl rfl ?_
      refine G_ev (ev_nilCheck rfl) rfl rfl rfl ?_
      refine G_ev (ev_fa0 rfl fa_56_0) rfl rfl rfl ?_
      refine G_rd (rd_box1 3 rfl rfl one54 rfl) rfl rfl rfl ?_
      refine G_ev (ev_move rfl) rfl rfl rfl ?_
      refine G_opn (op_delete (a := a1) 4 rfl rfl rfl Try.underlying54 (keyOk_int Try.underlying3)) rfl rfl ?_
      rintro _ _ rfl
      refine G_norm ([boxC B5 27 [.int .i64 a2.Kind, .int .i64 a2.Shape, .int .i64 a2.Flags, .int .i64 a2.Age, .slice A3 n3 c3, .slice A4 n4 c4], slC rDValue (.slice A3 n3 c3) a2.Slots, slC rDValue (.slice A4 n4 c4) a2.More, boxC B1 56 [.map (some M2)], mapC ekI evB M2 (delL a0.at_ a1)]) rfl ?_
      refine G_nil ?_
      refine nx_n ?_
      refine G_seq ?_
      refine G_region ?_
      refine G_ev (ev_assign rfl) rfl rfl rfl ?_
      refine G_nil ?_
      refine nx_n ?_
      refine G_ret ?_
      refine nx_r ?_
      obtain rfl := Option.some.inj h
      exact endG1 rfl rfl (cv_sel [3, 4] 5 rfl rfl) ⟨_, rfl, rfl⟩
    · replace h := cond_f g9 h
      refine G_skip ?_
      refine nx_n ?_
      refine G_joinF (fun s L => remset_Set_Note_j10 N a1 a0 = some r ∧ s = [(0, .pointer (some ⟨B1, 0, none⟩)), (1, .int .i64 a1), (6, .bool false)] ∧ L = [mapC ekI evB M2 a0.at_, boxC B1 56 [.map (some M2)]]) ?_ ?_
      · refine G_seq ?_
        refine G_region ?_
        refine G_ev (ev_move rfl) rfl rfl rfl ?_
        refine G_ev (ev_nilCheck rfl) rfl rfl rfl ?_
        refine G_ev (ev_fa0 rfl fa_56_0) rfl rfl rfl ?_
        refine G_rd (rd_box1 3 rfl rfl one54 rfl) rfl rfl rfl ?_
        refine G_ev (ev_mapnil rfl Try.underlying54) rfl rfl rfl ?_
        refine G_nil ?_
        refine nx_n ?_
        refine G_cond_f rfl ?_
        refine G_skip ?_
        refine nx_n ?_
        exact ⟨_, _, ⟨h, rfl, rfl⟩, sub_cons rfl (sub_cons rfl (sub_cons rfl sub_nil)), cv_sel [4, 3] 5 rfl rfl⟩
      · rintro _ _ ⟨h, rfl, rfl⟩
        refine G_seq ?_
        refine G_region ?_
        refine G_ev (ev_move rfl) rfl rfl rfl ?_
        refine G_ev (ev_nilCheck rfl) rfl rfl rfl ?_
        refine G_ev (ev_fa0 rfl fa_56_0) rfl rfl rfl ?_
        refine G_rd (rd_box1 1 rfl rfl one54 rfl) rfl rfl rfl ?_
        refine G_ev (ev_move rfl) rfl rfl rfl ?_
        refine G_opn (op_mapUpdate (a := a1) (b := true) 0 rfl rfl rfl rfl Try.underlying54 (keyOk_int Try.underlying3)) rfl rfl ?_
        rintro _ _ rfl
        refine G_norm ([mapC ekI evB M2 (upL a0.at_ a1 true), boxC B1 56 [.map (some M2)]]) rfl ?_
        refine G_nil ?_
        refine nx_n ?_
        refine G_seq ?_
        refine G_region ?_
        refine G_ev (ev_assign rfl) rfl rfl rfl ?_
        refine G_nil ?_
        refine nx_n ?_
        refine G_ret ?_
        obtain rfl := Option.some.inj h
        exact endG1 rfl rfl (cv_sel [1, 0] 2 rfl rfl) ⟨_, rfl, rfl⟩
def remset_Set_Note_n_O (N : Nat) (a1 : Int) (a2 : DCell) : Option Bool :=
  some false
theorem remset_Set_Note_n_ok {N : Nat} {a1 : Int} {a2 : DCell} {r : Bool} (h : remset_Set_Note_n_O N a1 a2 = some r) {A1 : Option Addr} {n1 c1 : Nat} {A2 : Option Addr} {n2 c2 : Nat} : Okc Try.prog 12 [.pointer none, .int .i64 a1, .agg #[.int .i64 a2.Kind, .int .i64 a2.Shape, .int .i64 a2.Flags, .int .i64 a2.Age, .slice A1 n1 c1, .slice A2 n2 c2]] ([slC rDValue (.slice A1 n1 c1) a2.Slots, slC rDValue (.slice A2 n2 c2) a2.More]) (fun (u : Value) (post : List Chunk) => u = .bool r ∧ post = []) := by
  refine ok_E Try.func12 rfl rfl ?_
  simp only [envOf]
  refine G_seq ?_
  refine G_region ?_
  refine G_opd (op_box rfl rfl) rfl rfl rfl ?_
  rintro _ _ ⟨B3, rfl, rfl⟩
  refine G_ev (ev_assign rfl) rfl rfl rfl ?_
  refine G_nil ?_
  refine nx_n ?_
  refine G_seq ?_
  refine G_seq ?_
  refine G_region ?_
  refine G_ev (ev_move rfl) rfl rfl rfl ?_
  refine G_ev (ev_nil_eq rfl Try.underlying31) rfl rfl rfl ?_
  refine G_ev (ev_move rfl) rfl rfl rfl ?_
  refine G_no rfl rfl ?_
  refine G_no rfl rfl ?_
  refine G_no rfl rfl ?_
  refine G_ev (ev_pick_t rfl rfl) rfl rfl rfl ?_
  refine G_nil ?_
  refine nx_n ?_
  refine G_cond_t rfl ?_
  refine G_seq ?_
  refine G_region ?_
  refine G_ev (ev_assign rfl) rfl rfl rfl ?_
  refine G_nil ?_
  refine nx_n ?_
  refine G_ret ?_
  refine nx_r ?_
  obtain rfl := Option.some.inj h
  exact endG1 rfl rfl (cv_sel [] 3 rfl rfl) ⟨rfl, rfl⟩
theorem remset_Set_Note_n_free {r : Bool} : ∀ v post, ((fun (u : Value) (post : List Chunk) => u = .bool r ∧ post = [])) v post → ∀ c ∈ post, Free c := by
  rintro _ _ ⟨rfl, rfl⟩; exact mem_nil
/-! cmp.isNaN[int] -/
def cmp_isNaN_O (N : Nat) (a0 : Int) : Option Bool :=
  some (!decide (a0 = a0))
theorem cmp_isNaN_ok {N : Nat} {a0 : Int} {r : Bool} (h : cmp_isNaN_O N a0 = some r) : Okc Try.prog 49 [.int .i64 a0] ([]) (fun (u : Value) (post : List Chunk) => u = .bool r ∧ post = []) := by
  refine ok_E Try.func49 rfl rfl ?_
  simp only [envOf]
  refine G_seq ?_
  refine G_region ?_
  refine G_ev (ev_assign rfl) rfl rfl rfl ?_
  refine G_nil ?_
  refine nx_n ?_
  refine G_seq ?_
  refine G_region ?_
  refine G_ev (ev_move rfl) rfl rfl rfl ?_
  refine G_ev (ev_move rfl) rfl rfl rfl ?_
  refine G_ev (ev_ne rfl rfl) rfl rfl rfl ?_
  refine G_ev (ev_assign rfl) rfl rfl rfl ?_
  refine G_nil ?_
  refine nx_n ?_
  refine G_ret ?_
  obtain rfl := Option.some.inj h
  exact endG1 rfl rfl (cv_sel [] 0 rfl rfl) ⟨rfl, rfl⟩
theorem cmp_isNaN_free {r : Bool} : ∀ v post, ((fun (u : Value) (post : List Chunk) => u = .bool r ∧ post = [])) v post → ∀ c ∈ post, Free c := by
  rintro _ _ ⟨rfl, rfl⟩; exact mem_nil
/-! cmp.Less[int] -/
def cmp_Less_O (N : Nat) (a0 : Int) (a1 : Int) : Option Bool :=
  (cmp_isNaN_O N a0).bind fun y1 => (bif y1 then ((cmp_isNaN_O N a1).bind fun y3 => some (!y3)) else (some false)).bind fun b2 => (bif b2 then (some true) else (some (decide (a0 < a1)))).bind fun b4 => some b4
theorem cmp_Less_ok {N : Nat} {a0 : Int} {a1 : Int} {r : Bool} (h : cmp_Less_O N a0 a1 = some r) : Okc Try.prog 40 [.int .i64 a0, .int .i64 a1] ([]) (fun (u : Value) (post : List Chunk) => u = .bool r ∧ post = []) := by
  refine ok_E Try.func40 rfl rfl ?_
  simp only [envOf]
  refine G_seq ?_
  refine G_region ?_
  refine G_ev (ev_assign rfl) rfl rfl rfl ?_
  refine G_nil ?_
  refine nx_n ?_
  refine G_seq ?_
  refine G_region ?_
  refine G_ev (ev_move rfl) rfl rfl rfl ?_
  obtain ⟨y1, hy1, h⟩ := bind_elim h
  refine G_opd (op_callR (cmp_isNaN_ok hy1) call49 rfl (mem_nil) cmp_isNaN_free) rfl rfl rfl ?_
  rintro _ _ ⟨_, ⟨rfl, rfl⟩, rfl⟩
  refine G_ev (ev_move rfl) rfl rfl rfl ?_
  obtain ⟨b2, hb2, h⟩ := bind_elim h
  refine G_segb 4 11 b2 ?_ ?_
  · clear h
    refine G_case 7 rfl (fun g2 => ?_) (fun g2 => ?_)
    · have h := cond_t g2 hb2
      refine G_ev (ev_move rfl) rfl (g_tt g2 rfl) rfl ?_
      obtain ⟨y3, hy3, h⟩ := bind_elim h
      refine G_opd (op_callR (cmp_isNaN_ok hy3) call49 rfl (mem_nil) cmp_isNaN_free) rfl (g_tt g2 rfl) rfl ?_
      rintro _ _ ⟨_, ⟨rfl, rfl⟩, rfl⟩
      refine G_ev (ev_not rfl) rfl (g_tt g2 rfl) rfl ?_
      refine G_ev (ev_pick_t' g2 rfl rfl) rfl rfl rfl ?_
      obtain rfl := Option.some.inj h
      exact G_joined (sub_cons rfl (sub_skip (sub_skip (sub_skip (sub_skip sub_refl rfl) rfl) rfl) rfl)) (cv_sel [] 0 rfl rfl)
    · have h := cond_f g2 hb2
      refine G_no (g_tf g2 rfl) rfl ?_
      refine G_no (g_tf g2 rfl) rfl ?_
      refine G_no (g_tf g2 rfl) rfl ?_
      refine G_ev (ev_pick_f' g2 rfl rfl) rfl rfl rfl ?_
      obtain rfl := Option.some.inj h
      exact G_joined (sub_cons rfl (sub_skip (sub_skip (sub_skip (sub_skip sub_refl rfl) rfl) rfl) rfl)) (cv_sel [] 0 rfl rfl)
  refine G_ev (ev_move rfl) rfl rfl rfl ?_
  obtain ⟨b4, hb4, h⟩ := bind_elim h
  refine G_segb 4 16 b4 ?_ ?_
  · clear h
    refine G_case 12 rfl (fun g4 => ?_) (fun g4 => ?_)
    · have h := cond_t g4 hb4
      refine G_no (g_ft g4 rfl) rfl ?_
      refine G_no (g_ft g4 rfl) rfl ?_
      refine G_no (g_ft g4 rfl) rfl ?_
      refine G_ev (ev_pick_t' g4 rfl rfl) rfl rfl rfl ?_
      obtain rfl := Option.some.inj h
      exact G_joined (sub_cons rfl (sub_skip (sub_skip (sub_skip (sub_skip sub_refl rfl) rfl) rfl) rfl)) (cv_sel [] 0 rfl rfl)
    · have h := cond_f g4 hb4
      refine G_ev (ev_move rfl) rfl (g_ff g4 rfl) rfl ?_
      refine G_ev (ev_move rfl) rfl (g_ff g4 rfl) rfl ?_
      refine G_ev (ev_lt rfl rfl) rfl (g_ff g4 rfl) rfl ?_
      refine G_ev (ev_pick_f' g4 rfl rfl) rfl rfl rfl ?_
      obtain rfl := Option.some.inj h
      exact G_joined (sub_cons rfl (sub_skip (sub_skip (sub_skip (sub_skip sub_refl rfl) rfl) rfl) rfl)) (cv_sel [] 0 rfl rfl)
  refine G_ev (ev_assign rfl) rfl rfl rfl ?_
  refine G_nil ?_
  refine nx_n ?_
  refine G_ret ?_
  obtain rfl := Option.some.inj h
  exact endG1 rfl rfl (cv_sel [] 0 rfl rfl) ⟨rfl, rfl⟩
theorem cmp_Less_free {r : Bool} : ∀ v post, ((fun (u : Value) (post : List Chunk) => u = .bool r ∧ post = [])) v post → ∀ c ∈ post, Free c := by
  rintro _ _ ⟨rfl, rfl⟩; exact mem_nil
/-! (*pantomime/remset.Set).List -/
def remset_Set_List_O (N : Nat) (a0 : DSet) : Option (List Int) :=
  (maps_Keys_O N a0.at_).bind fun y3 => (slices_Sorted_O N a0.at_).bind fun y5 => some y5
theorem remset_Set_List_ok {N : Nat} {a0 : DSet} {r : (List Int)} (h : remset_Set_List_O N a0 = some r) {B1 : Nat} {M2 : Nat} : Okc Try.prog 14 [.pointer (some ⟨B1, 0, none⟩)] ([rboxC B1 56 [.map (some M2)], romC ekI evB M2 a0.at_]) (fun (u : Value) (post : List Chunk) => ∃ A0 n0 c0, u = .slice A0 n0 c0 ∧ post = [ownC (rInt .i64) 3 (.slice A0 n0 c0) r]) := by
  refine ok_E Try.func14 rfl rfl ?_
  simp only [envOf]
  refine G_seq ?_
  refine G_region ?_
  refine G_ev (ev_assign rfl) rfl rfl rfl ?_
  refine G_nil ?_
  refine nx_n ?_
  refine G_seq ?_
  refine G_seq ?_
  refine G_region ?_
  refine G_ev (ev_move rfl) rfl rfl rfl ?_
  refine G_ev (ev_nil_eq rfl Try.underlying31) rfl rfl rfl ?_
  refine G_nil ?_
  refine nx_n ?_
  refine G_cond_f rfl ?_
  refine G_skip ?_
  refine nx_n ?_
  refine G_seq ?_
  refine G_region ?_
  refine G_ev (ev_move rfl) rfl rfl rfl ?_
  refine G_ev (ev_nilCheck rfl) rfl rfl rfl ?_
  refine G_ev (ev_fa0 rfl fa_56_0) rfl rfl rfl ?_
  refine G_rd (rd_rbox1 0 rfl rfl one54 rfl) rfl rfl rfl ?_
  obtain ⟨y3, hy3, h⟩ := bind_elim h
  refine G_opd (op_callR (maps_Keys_ok hy3) call27 rfl (mem_nil) maps_Keys_free) rfl rfl rfl ?_
  rintro _ _ ⟨_, ⟨B4, rfl, rfl⟩, rfl⟩
  obtain ⟨y5, hy5, h⟩ := bind_elim h
  refine G_opd (op_callR (slices_Sorted_ok hy5) call26 rfl (mem_cons (lent_box (i := 0) rfl) (mem_cons (lent_ro (i := 2) rfl rfl) mem_nil)) slices_Sorted_free) rfl rfl rfl ?_
  rintro _ _ ⟨_, ⟨A6, n6, c6, rfl, rfl⟩, rfl⟩
  refine G_ev (ev_assign rfl) rfl rfl rfl ?_
  refine G_nil ?_
  refine nx_n ?_
  refine G_ret ?_
  obtain rfl := Option.some.inj h
  exact endG1 rfl rfl (cv_sel [0] 4 rfl rfl) ⟨_, _, _, rfl, rfl⟩
theorem remset_Set_List_free {r : (List Int)} : ∀ v post, ((fun (u : Value) (post : List Chunk) => ∃ A0 n0 c0, u = .slice A0 n0 c0 ∧ post = [ownC (rInt .i64) 3 (.slice A0 n0 c0) r])) v post → ∀ c ∈ post, Free c := by
  rintro _ _ ⟨_, _, _, rfl, rfl⟩; exact mem_cons free_own (mem_nil)
def remset_Set_List_n_O (N : Nat) : Option (List Int) :=
  some []
theorem remset_Set_List_n_ok {N : Nat} {r : (List Int)} (h : remset_Set_List_n_O N = some r) : Okc Try.prog 14 [.pointer none] ([]) (fun (u : Value) (post : List Chunk) => ∃ A0 n0 c0, u = .slice A0 n0 c0 ∧ post = [ownC (rInt .i64) 3 (.slice A0 n0 c0) r]) := by
  refine ok_E Try.func14 rfl rfl ?_
  simp only [envOf]
  refine G_seq ?_
  refine G_region ?_
  refine G_ev (ev_assign rfl) rfl rfl rfl ?_
  refine G_nil ?_
  refine nx_n ?_
  refine G_seq ?_
  refine G_seq ?_
  refine G_region ?_
  refine G_ev (ev_move rfl) rfl rfl rfl ?_
  refine G_ev (ev_nil_eq rfl Try.underlying31) rfl rfl rfl ?_
  refine G_nil ?_
  refine nx_n ?_
  refine G_cond_t rfl ?_
  refine G_seq ?_
  refine G_region ?_
  refine G_ev (ev_assign rfl) rfl rfl rfl ?_
  refine G_nil ?_
  refine nx_n ?_
  refine G_ret ?_
  refine nx_r ?_
  obtain rfl := Option.some.inj h
  exact endG1 rfl rfl ((cv_nil (rInt .i64) 3 _).trans (cv_sel [0] 1 rfl rfl)) ⟨_, _, _, rfl, rfl⟩
theorem remset_Set_List_n_free {r : (List Int)} : ∀ v post, ((fun (u : Value) (post : List Chunk) => ∃ A0 n0 c0, u = .slice A0 n0 c0 ∧ post = [ownC (rInt .i64) 3 (.slice A0 n0 c0) r])) v post → ∀ c ∈ post, Free c := by
  rintro _ _ ⟨_, _, _, rfl, rfl⟩; exact mem_cons free_own (mem_nil)
/-! (*pantomime/remset.Set).Len -/
def remset_Set_Len_O (N : Nat) (a0 : DSet) : Option Int :=
  some (a0.at_.length : Int)
theorem remset_Set_Len_ok {N : Nat} {a0 : DSet} {r : Int} (h : remset_Set_Len_O N a0 = some r) {B1 : Nat} {M2 : Nat} : Okc Try.prog 15 [.pointer (some ⟨B1, 0, none⟩)] ([rboxC B1 56 [.map (some M2)], romC ekI evB M2 a0.at_]) (fun (u : Value) (post : List Chunk) => u = .int .i64 r ∧ post = []) := by
  refine ok_E Try.func15 rfl rfl ?_
  simp only [envOf]
  refine G_seq ?_
  refine G_region ?_
  refine G_ev (ev_assign rfl) rfl rfl rfl ?_
  refine G_nil ?_
  refine nx_n ?_
  refine G_seq ?_
  refine G_seq ?_
  refine G_region ?_
  refine G_ev (ev_move rfl) rfl rfl rfl ?_
  refine G_ev (ev_nil_eq rfl Try.underlying31) rfl rfl rfl ?_
  refine G_nil ?_
  refine nx_n ?_
  refine G_cond_f rfl ?_
  refine G_skip ?_
  refine nx_n ?_
  refine G_seq ?_
  refine G_region ?_
  refine G_ev (ev_move rfl) rfl rfl rfl ?_
  refine G_ev (ev_nilCheck rfl) rfl rfl rfl ?_
  refine G_ev (ev_fa0 rfl fa_56_0) rfl rfl rfl ?_
  refine G_rd (rd_rbox1 0 rfl rfl one54 rfl) rfl rfl rfl ?_
  refine G_rd (rd_maplen 1 rfl map_ro rfl Try.underlying54) rfl rfl rfl ?_
  refine G_ev (ev_assign rfl) rfl rfl rfl ?_
  refine G_nil ?_
  refine nx_n ?_
  refine G_ret ?_
  obtain rfl := Option.some.inj h
  exact endG1 rfl rfl (cv_sel [] 2 rfl rfl) ⟨rfl, rfl⟩
theorem remset_Set_Len_free {r : Int} : ∀ v post, ((fun (u : Value) (post : List Chunk) => u = .int .i64 r ∧ post = [])) v post → ∀ c ∈ post, Free c := by
  rintro _ _ ⟨rfl, rfl⟩; exact mem_nil
def remset_Set_Len_n_O (N : Nat) : Option Int :=
  some 0
theorem remset_Set_Len_n_ok {N : Nat} {r : Int} (h : remset_Set_Len_n_O N = some r) : Okc Try.prog 15 [.pointer none] ([]) (fun (u : Value) (post : List Chunk) => u = .int .i64 r ∧ post = []) := by
  refine ok_E Try.func15 rfl rfl ?_
  simp only [envOf]
  refine G_seq ?_
  refine G_region ?_
  refine G_ev (ev_assign rfl) rfl rfl rfl ?_
  refine G_nil ?_
  refine nx_n ?_
  refine G_seq ?_
  refine G_seq ?_
  refine G_region ?_
  refine G_ev (ev_move rfl) rfl rfl rfl ?_
  refine G_ev (ev_nil_eq rfl Try.underlying31) rfl rfl rfl ?_
  refine G_nil ?_
  refine nx_n ?_
  refine G_cond_t rfl ?_
  refine G_seq ?_
  refine G_region ?_
  refine G_ev (ev_assign rfl) rfl rfl rfl ?_
  refine G_nil ?_
  refine nx_n ?_
  refine G_ret ?_
  refine nx_r ?_
  obtain rfl := Option.some.inj h
  exact endG1 rfl rfl (cv_sel [] 0 rfl rfl) ⟨rfl, rfl⟩
theorem remset_Set_Len_n_free {r : Int} : ∀ v post, ((fun (u : Value) (post : List Chunk) => u = .int .i64 r ∧ post = [])) v post → ∀ c ∈ post, Free c := by
  rintro _ _ ⟨rfl, rfl⟩; exact mem_nil
/-! pantomime/pantomimelaw21.lives -/
def pantomimelaw21_lives_O (N : Nat) : Option Bool :=
  (remset_New_O N).bind fun y1 => (pantomimelaw21_object_O N 3).bind fun y4 => (remset_Set_Note_O N y1 4 y4).bind fun y7 => (remset_Set_List_O N y7.2).bind fun y9 => (pantomimelaw21_object_O N 2).bind fun y11 => (remset_Set_Note_O N y7.2 4 y11).bind fun y14 => (bif y7.1 then (some (decide ((y9.length : Int) = 1))) else (some false)).bind fun b16 => (bif b16 then ((getE y9 0).bind fun x18 => some (decide (x18 = 4))) else (some false)).bind fun b17 => (bif b17 then (some (!y14.1)) else (some false)).bind fun b19 => (bif b19 then ((remset_Set_Len_O N y14.2).bind fun y21 => some (decide (y21 = 0))) else (some false)).bind fun b20 => some b20
theorem pantomimelaw21_lives_ok {N : Nat} {r : Bool} (h : pantomimelaw21_lives_O N = some r) : Okc Try.prog 9 [] ([]) (fun (u : Value) (post : List Chunk) => u = .bool r ∧ post = []) := by
  refine ok_E Try.func9 rfl rfl ?_
  simp only [envOf]
  refine G_seq ?_
  refine G_region ?_
  refine G_ev (ev_assign rfl) rfl rfl rfl ?_
  refine G_nil ?_
  refine nx_n ?_
  refine G_seq ?_
  refine G_region ?_
  obtain ⟨y1, hy1, h⟩ := bind_elim h
  refine G_opd (op_call (remset_New_ok hy1) call11 rfl (cv_take [] [] [] 0 rfl)) rfl rfl rfl ?_
  rintro _ _ ⟨_, ⟨B2, M3, rfl, rfl⟩, rfl⟩
  refine G_norm ([boxC B2 56 [.map (some M3)], mapC ekI evB M3 y1.at_]) rfl ?_
  refine G_ev (ev_assign rfl) rfl rfl rfl ?_
  refine G_nil ?_
  refine nx_n ?_
  refine G_seq ?_
  refine G_region ?_
  refine G_ev (ev_move rfl) rfl rfl rfl ?_
  obtain ⟨y4, hy4, h⟩ := bind_elim h
  refine G_opd (op_call (pantomimelaw21_object_ok hy4) call19 rfl (cv_take [] [] [0, 1] 2 rfl)) rfl rfl rfl ?_
  rintro _ _ ⟨_, ⟨A5, n5, c5, A6, n6, c6, rfl, rfl⟩, rfl⟩
  refine G_norm ([ownC rDValue 63 (.slice A5 n5 c5) y4.Slots, ownC rDValue 63 (.slice A6 n6 c6) y4.More, boxC B2 56 [.map (some M3)], mapC ekI evB M3 y1.at_]) rfl ?_
  refine G_cv (cv_frz 0 rfl) ?_
  refine G_norm ([slC rDValue (.slice A5 n5 c5) y4.Slots, ownC rDValue 63 (.slice A6 n6 c6) y4.More, boxC B2 56 [.map (some M3)], mapC ekI evB M3 y1.at_]) rfl ?_
  refine G_cv (cv_frz 1 rfl) ?_
  refine G_norm ([slC rDValue (.slice A5 n5 c5) y4.Slots, slC rDValue (.slice A6 n6 c6) y4.More, boxC B2 56 [.map (some M3)], mapC ekI evB M3 y1.at_]) rfl ?_
  obtain ⟨y7, hy7, h⟩ := bind_elim h
  refine G_opd (op_call (remset_Set_Note_ok hy7) call12 rfl (cv_take [0, 1] [2, 3] [0, 1] 4 rfl)) rfl rfl rfl ?_
  rintro _ _ ⟨_, ⟨M8, rfl, rfl⟩, rfl⟩
  refine G_norm ([boxC B2 56 [.map (some M8)], mapC ekI evB M8 y7.2.at_, slC rDValue (.slice A5 n5 c5) y4.Slots, slC rDValue (.slice A6 n6 c6) y4.More]) rfl ?_
  refine G_ev (ev_assign rfl) rfl rfl rfl ?_
  refine G_nil ?_
  refine nx_n ?_
  refine G_seq ?_
  refine G_region ?_
  refine G_ev (ev_move rfl) rfl rfl rfl ?_
  obtain ⟨y9, hy9, h⟩ := bind_elim h
  refine G_opd (op_callR (remset_Set_List_ok hy9) call14 rfl (mem_cons (lent_box (i := 0) rfl) (mem_cons (lent_map (i := 1) rfl) mem_nil)) remset_Set_List_free) rfl rfl rfl ?_
  rintro _ _ ⟨_, ⟨A10, n10, c10, rfl, rfl⟩, rfl⟩
  refine G_ev (ev_assign rfl) rfl rfl rfl ?_
  refine G_nil ?_
  refine nx_n ?_
  refine G_seq ?_
  refine G_region ?_
  refine G_ev (ev_move rfl) rfl rfl rfl ?_
  obtain ⟨y11, hy11, h⟩ := bind_elim h
  refine G_opd (op_call (pantomimelaw21_object_ok hy11) call19 rfl (cv_take [] [] [0, 1, 2, 3, 4] 5 rfl)) rfl rfl rfl ?_
  rintro _ _ ⟨_, ⟨A12, n12, c12, A13, n13, c13, rfl, rfl⟩, rfl⟩
  refine G_norm ([ownC rDValue 63 (.slice A12 n12 c12) y11.Slots, ownC rDValue 63 (.slice A13 n13 c13) y11.More, ownC (rInt .i64) 3 (.slice A10 n10 c10) y9, boxC B2 56 [.map (some M8)], mapC ekI evB M8 y7.2.at_, slC rDValue (.slice A5 n5 c5) y4.Slots, slC rDValue (.slice A6 n6 c6) y4.More]) rfl ?_
  refine G_cv (cv_frz 0 rfl) ?_
  refine G_norm ([slC rDValue (.slice A12 n12 c12) y11.Slots, ownC rDValue 63 (.slice A13 n13 c13) y11.More, ownC (rInt .i64) 3 (.slice A10 n10 c10) y9, boxC B2 56 [.map (some M8)], mapC ekI evB M8 y7.2.at_, slC rDValue (.slice A5 n5 c5) y4.Slots, slC rDValue (.slice A6 n6 c6) y4.More]) rfl ?_
  refine G_cv (cv_frz 1 rfl) ?_
  refine G_norm ([slC rDValue (.slice A12 n12 c12) y11.Slots, slC rDValue (.slice A13 n13 c13) y11.More, ownC (rInt .i64) 3 (.slice A10 n10 c10) y9, boxC B2 56 [.map (some M8)], mapC ekI evB M8 y7.2.at_, slC rDValue (.slice A5 n5 c5) y4.Slots, slC rDValue (.slice A6 n6 c6) y4.More]) rfl ?_
  obtain ⟨y14, hy14, h⟩ := bind_elim h
  refine G_opd (op_call (remset_Set_Note_ok hy14) call12 rfl (cv_take [0, 1] [3, 4] [0, 1, 2, 5, 6] 7 rfl)) rfl rfl rfl ?_
  rintro _ _ ⟨_, ⟨M15, rfl, rfl⟩, rfl⟩
  refine G_norm ([boxC B2 56 [.map (some M15)], mapC ekI evB M15 y14.2.at_, slC rDValue (.slice A12 n12 c12) y11.Slots, slC rDValue (.slice A13 n13 c13) y11.More, ownC (rInt .i64) 3 (.slice A10 n10 c10) y9, slC rDValue (.slice A5 n5 c5) y4.Slots, slC rDValue (.slice A6 n6 c6) y4.More]) rfl ?_
  refine G_ev (ev_assign rfl) rfl rfl rfl ?_
  refine G_nil ?_
  refine nx_n ?_
  refine G_seq ?_
  refine G_region ?_
  refine G_ev (ev_move rfl) rfl rfl rfl ?_
  refine G_ev (ev_move rfl) rfl rfl rfl ?_
  obtain ⟨b16, hb16, h⟩ := bind_elim h
  refine G_segb 4 19 b16 ?_ ?_
  · clear h
    refine G_case 15 rfl (fun g16 => ?_) (fun g16 => ?_)
    · have h := cond_t g16 hb16
      refine G_ev (ev_move rfl) rfl (g_tt g16 rfl) rfl ?_
      refine G_rd (rd_len 4 rfl els_own rfl Try.underlying35) rfl (g_tt g16 rfl) rfl ?_
      refine G_ev (ev_eq rfl rfl) rfl (g_tt g16 rfl) rfl ?_
      refine G_ev (ev_pick_t' g16 rfl rfl) rfl rfl rfl ?_
      obtain rfl := Option.some.inj h
      exact G_joined (sub_cons rfl (sub_skip (sub_skip (sub_skip (sub_skip sub_refl rfl) rfl) rfl) rfl)) (cv_sel [0, 1, 2, 3, 4, 5, 6] 7 rfl rfl)
    · have h := cond_f g16 hb16
      refine G_no (g_tf g16 rfl) rfl ?_
      refine G_no (g_tf g16 rfl) rfl ?_
      refine G_no (g_tf g16 rfl) rfl ?_
      refine G_ev (ev_pick_f' g16 rfl rfl) rfl rfl rfl ?_
      obtain rfl := Option.some.inj h
      exact G_joined (sub_cons rfl (sub_skip (sub_skip (sub_skip (sub_skip sub_refl rfl) rfl) rfl) rfl)) (cv_sel [0, 1, 2, 3, 4, 5, 6] 7 rfl rfl)
  refine G_ev (ev_move rfl) rfl rfl rfl ?_
  obtain ⟨b17, hb17, h⟩ := bind_elim h
  refine G_segb 5 25 b17 ?_ ?_
  · clear h
    refine G_case 20 rfl (fun g17 => ?_) (fun g17 => ?_)
    · have h := cond_t g17 hb17
      refine G_ev (ev_move rfl) rfl (g_tt g17 rfl) rfl ?_
      obtain ⟨x18, hx18, h⟩ := bind_elim h
      obtain ⟨lx18, ux18, hx18⟩ := getE_elim hx18
      refine G_rd (rd_idx 4 rfl els_own rfl rfl Try.underlying35 size3 lx18 ux18) rfl (g_tt g17 rfl) rfl ?_
      refine G_rd (rd_elem1 (u := .int .i64 x18) 4 rfl els_own rfl hx18 one3 (fun _ _ _ h => by rw [show _ = _ from h]; rfl)) rfl (g_tt g17 rfl) rfl ?_
      refine G_ev (ev_eq rfl rfl) rfl (g_tt g17 rfl) rfl ?_
      refine G_ev (ev_pick_t' g17 rfl rfl) rfl rfl rfl ?_
      obtain rfl := Option.some.inj h
      exact G_joined (sub_cons rfl (sub_skip (sub_skip (sub_skip (sub_skip (sub_skip sub_refl rfl) rfl) rfl) rfl) rfl)) (cv_sel [0, 1, 2, 3, 4, 5, 6] 7 rfl rfl)
    · have h := cond_f g17 hb17
      refine G_no (g_tf g17 rfl) rfl ?_
      refine G_no (g_tf g17 rfl) rfl ?_
      refine G_no (g_tf g17 rfl) rfl ?_
      refine G_no (g_tf g17 rfl) rfl ?_
      refine G_ev (ev_pick_f' g17 rfl rfl) rfl rfl rfl ?_
      obtain rfl := Option.some.inj h
      exact G_joined (sub_cons rfl (sub_skip (sub_skip (sub_skip (sub_skip (sub_skip sub_refl rfl) rfl) rfl) rfl) rfl)) (cv_sel [0, 1, 2, 3, 4, 5, 6] 7 rfl rfl)
  refine G_ev (ev_move rfl) rfl rfl rfl ?_
  obtain ⟨b19, hb19, h⟩ := bind_elim h
  refine G_segb 3 29 b19 ?_ ?_
  · clear h
    refine G_case 26 rfl (fun g19 => ?_) (fun g19 => ?_)
    · have h := cond_t g19 hb19
      refine G_ev (ev_move rfl) rfl (g_tt g19 rfl) rfl ?_
      refine G_ev (ev_not rfl) rfl (g_tt g19 rfl) rfl ?_
      refine G_ev (ev_pick_t' g19 rfl rfl) rfl rfl rfl ?_
      obtain rfl := Option.some.inj h
      exact G_joined (sub_cons rfl (sub_skip (sub_skip (sub_skip sub_refl rfl) rfl) rfl)) (cv_sel [0, 1, 2, 3, 4, 5, 6] 7 rfl rfl)
    · have h := cond_f g19 hb19
      refine G_no (g_tf g19 rfl) rfl ?_
      refine G_no (g_tf g19 rfl) rfl ?_
      refine G_ev (ev_pick_f' g19 rfl rfl) rfl rfl rfl ?_
      obtain rfl := Option.some.inj h
      exact G_joined (sub_cons rfl (sub_skip (sub_skip (sub_skip sub_refl rfl) rfl) rfl)) (cv_sel [0, 1, 2, 3, 4, 5, 6] 7 rfl rfl)
  refine G_ev (ev_move rfl) rfl rfl rfl ?_
  obtain ⟨b20, hb20, h⟩ := bind_elim h
  refine G_segb 4 34 b20 ?_ ?_
  · clear h
    refine G_case 30 rfl (fun g20 => ?_) (fun g20 => ?_)
    · have h := cond_t g20 hb20
      refine G_ev (ev_move rfl) rfl (g_tt g20 rfl) rfl ?_
      obtain ⟨y21, hy21, h⟩ := bind_elim h
      refine G_opd (op_callR (remset_Set_Len_ok hy21) call15 rfl (mem_cons (lent_box (i := 0) rfl) (mem_cons (lent_map (i := 1) rfl) mem_nil)) remset_Set_Len_free) rfl (g_tt g20 rfl) rfl ?_
      rintro _ _ ⟨_, ⟨rfl, rfl⟩, rfl⟩
      refine G_ev (ev_eq rfl rfl) rfl (g_tt g20 rfl) rfl ?_
      refine G_ev (ev_pick_t' g20 rfl rfl) rfl rfl rfl ?_
      obtain rfl := Option.some.inj h
      exact G_joined (sub_cons rfl (sub_skip (sub_skip (sub_skip (sub_skip sub_refl rfl) rfl) rfl) rfl)) (cv_sel [0, 1, 2, 3, 4, 5, 6] 7 rfl rfl)
    · have h := cond_f g20 hb20
      refine G_no (g_tf g20 rfl) rfl ?_
      refine G_no (g_tf g20 rfl) rfl ?_
      refine G_no (g_tf g20 rfl) rfl ?_
      refine G_ev (ev_pick_f' g20 rfl rfl) rfl rfl rfl ?_
      obtain rfl := Option.some.inj h
      exact G_joined (sub_cons rfl (sub_skip (sub_skip (sub_skip (sub_skip sub_refl rfl) rfl) rfl) rfl)) (cv_sel [0, 1, 2, 3, 4, 5, 6] 7 rfl rfl)
  refine G_ev (ev_assign rfl) rfl rfl rfl ?_
  refine G_nil ?_
  refine nx_n ?_
  refine G_ret ?_
  obtain rfl := Option.some.inj h
  exact endG1 rfl rfl (cv_sel [] 7 rfl rfl) ⟨rfl, rfl⟩
theorem pantomimelaw21_lives_free {r : Bool} : ∀ v post, ((fun (u : Value) (post : List Chunk) => u = .bool r ∧ post = [])) v post → ∀ c ∈ post, Free c := by
  rintro _ _ ⟨rfl, rfl⟩; exact mem_nil
/-! pantomime/pantomimelaw21.few -/
def pantomimelaw21_few_j3 (N : Nat) (p4 : Int) : Option Bool :=
  some (decide (p4 ≤ 4000))
def pantomimelaw21_few_l5 (N : Nat) (a0 : (List DCell)) : Nat → Int → Int → Option Bool
  | 0, _, _ => none
  | m5 + 1, p6, p7 => bif decide (p7 < (a0.length : Int)) then ((getE a0 p7).bind fun x9 => (bif decide (1000 < (x9.Slots.length : Int)) then (some true) else ((getE a0 p7).bind fun x14 => some (decide (1000 < (x14.More.length : Int))))).bind fun b13 => bif b13 then (some false) else ((getE a0 p7).bind fun x19 => (getE a0 p7).bind fun x23 => req (in64 ((x19.Slots.length : Int) + (x23.More.length : Int))) (req (in64 (p6 + ((x19.Slots.length : Int) + (x23.More.length : Int)))) (req (in64 (p7 + 1)) ((pantomimelaw21_few_l5 N a0 m5) (p6 + ((x19.Slots.length : Int) + (x23.More.length : Int))) (p7 + 1)))))) else (pantomimelaw21_few_j3 N p6)
theorem pantomimelaw21_few_l5_s {N m5 : Nat} {a0 : (List DCell)} {p6 : Int} {p7 : Int} : pantomimelaw21_few_l5 N a0 (m5 + 1) p6 p7 = bif decide (p7 < (a0.length : Int)) then ((getE a0 p7).bind fun x9 => (bif decide (1000 < (x9.Slots.length : Int)) then (some true) else ((getE a0 p7).bind fun x14 => some (decide (1000 < (x14.More.length : Int))))).bind fun b13 => bif b13 then (some false) else ((getE a0 p7).bind fun x19 => (getE a0 p7).bind fun x23 => req (in64 ((x19.Slots.length : Int) + (x23.More.length : Int))) (req (in64 (p6 + ((x19.Slots.length : Int) + (x23.More.length : Int)))) (req (in64 (p7 + 1)) ((pantomimelaw21_few_l5 N a0 m5) (p6 + ((x19.Slots.length : Int) + (x23.More.length : Int))) (p7 + 1)))))) else (pantomimelaw21_few_j3 N p6) := rfl
def pantomimelaw21_few_O (N : Nat) (a0 : (List DCell)) : Option Bool :=
  bif decide (60 < (a0.length : Int)) then (some false) else (pantomimelaw21_few_l5 N a0 N 0 0)
theorem pantomimelaw21_few_ok {N : Nat} {a0 : (List DCell)} {r : Bool} (h : pantomimelaw21_few_O N a0 = some r) {A1 : Option Addr} {n1 c1 : Nat} : Okc Try.prog 10 [.slice A1 n1 c1] ([slC rDCell (.slice A1 n1 c1) a0]) (fun (u : Value) (post : List Chunk) => u = .bool r ∧ post = []) := by
  refine ok_E Try.func10 rfl rfl ?_
  simp only [envOf]
  refine G_seq ?_
  refine G_region ?_
  refine G_ev (ev_assign rfl) rfl rfl rfl ?_
  refine G_nil ?_
  refine nx_n ?_
  refine G_seq ?_
  refine G_seq ?_
  refine G_region ?_
  refine G_ev (ev_move rfl) rfl rfl rfl ?_
  refine G_rd (rd_len 0 rfl els_sl rfl Try.underlying24) rfl rfl rfl ?_
  refine G_ev (ev_gt rfl rfl) rfl rfl rfl ?_
  refine G_nil ?_
  refine nx_n ?_
  refine G_cond rfl (fun g2 => ?_) (fun g2 => ?_)
  · replace h := cond_t g2 h
    refine G_seq ?_
    refine G_region ?_
    refine G_ev (ev_assign rfl) rfl rfl rfl ?_
    refine G_nil ?_
    refine nx_n ?_
    refine G_ret ?_
    refine nx_r ?_
    obtain rfl := Option.some.inj h
    exact endG1 rfl rfl (cv_sel [] 1 rfl rfl) ⟨rfl, rfl⟩
  · replace h := cond_f g2 h
    refine G_skip ?_
    refine nx_n ?_
    refine G_seq ?_
    refine G_region ?_
    refine G_ev (ev_assign rfl) rfl rfl rfl ?_
    refine G_nil ?_
    refine nx_n ?_
    refine G_joinF (fun s L => ∃ (p4 : Int), pantomimelaw21_few_j3 N p4 = some r ∧ s = [(2, .bool false), (3, .int .i64 p4)] ∧ L = []) ?_ ?_
    · refine G_seq ?_
      refine G_region ?_
      refine G_ev (ev_assign rfl) rfl rfl rfl ?_
      refine G_nil ?_
      refine nx_n ?_
      refine G_block ?_
      refine G_loopF (fun m s L => ∃ (p6 : Int) (p7 : Int), pantomimelaw21_few_l5 N a0 m p6 p7 = some r ∧ s = [(0, .slice A1 n1 c1), (2, .bool false), (3, .int .i64 p6), (4, .int .i64 p7)] ∧ L = [slC rDCell (.slice A1 n1 c1) a0]) N _ _ ⟨0, 0, h, rfl, rfl⟩ (sub_cons rfl (sub_cons rfl (sub_cons rfl (sub_cons rfl sub_nil)))) (cv_sel [0] 1 rfl rfl) ?_
      rintro (_ | m5) _ _ ⟨p6, p7, h, rfl, rfl⟩
      · exact none_some h
      rw [pantomimelaw21_few_l5_s] at h
      refine G_seq ?_
      refine G_seq ?_
      refine G_region ?_
      refine G_ev (ev_move rfl) rfl rfl rfl ?_
      refine G_ev (ev_move rfl) rfl rfl rfl ?_
      refine G_rd (rd_len 0 rfl els_sl rfl Try.underlying24) rfl rfl rfl ?_
      refine G_ev (ev_lt rfl rfl) rfl rfl rfl ?_
      refine G_nil ?_
      refine nx_n ?_
      refine G_cond rfl (fun g8 => ?_) (fun g8 => ?_)
      · replace h := cond_t g8 h
        refine G_skip ?_
        refine nx_n ?_
        refine G_seq ?_
        refine G_block ?_
        refine G_seq ?_
        refine G_seq ?_
        refine G_region ?_
        refine G_ev (ev_move rfl) rfl rfl rfl ?_
        refine G_ev (ev_move rfl) rfl rfl rfl ?_
        obtain ⟨x9, hx9, h⟩ := bind_elim h
        obtain ⟨lx9, ux9, hx9⟩ := getE_elim hx9
        refine G_rd (rd_idx 0 rfl els_sl rfl rfl Try.underlying24 size27 lx9 ux9) rfl rfl rfl ?_
        refine G_rd (rd_fa 0 rfl els_sl rfl (toNat_lt lx9 ux9) fa_27_4) rfl rfl rfl ?_
        refine G_row 0 rfl hx9 (open_DCell x9) ?_
        rintro _ _ ⟨A10, n10, c10, A11, n11, c11, rfl, rfl⟩
        refine G_rd (rd_row1 0 rfl rfl one25 rfl) rfl rfl rfl ?_
        refine G_rd (rd_len 1 rfl els_sl rfl Try.underlying25) rfl rfl rfl ?_
        refine G_ev (ev_gt rfl rfl) rfl rfl rfl ?_
        refine G_ev (ev_move rfl) rfl rfl rfl ?_
        obtain ⟨b13, hb13, h⟩ := bind_elim h
        refine G_segb 8 29 b13 ?_ ?_
        · clear h
          refine G_case 21 rfl (fun g13 => ?_) (fun g13 => ?_)
          · have h := cond_t g13 hb13
            refine G_no (g_ft g13 rfl) rfl ?_
            refine G_no (g_ft g13 rfl) rfl ?_
            refine G_no (g_ft g13 rfl) rfl ?_
            refine G_no (g_ft g13 rfl) rfl ?_
            refine G_no (g_ft g13 rfl) rfl ?_
            refine G_no (g_ft g13 rfl) rfl ?_
            refine G_no (g_ft g13 rfl) rfl ?_
            refine G_ev (ev_pick_t' g13 rfl rfl) rfl rfl rfl ?_
            obtain rfl := Option.some.inj h
            exact G_joined (sub_cons rfl (sub_skip (sub_skip (sub_skip (sub_skip (sub_skip (sub_skip (sub_skip (sub_skip sub_refl rfl) rfl) rfl) rfl) rfl) rfl) rfl) rfl)) (cv_sel [0, 1, 2, 3] 4 rfl rfl)
          · have h := cond_f g13 hb13
            refine G_ev (ev_move rfl) rfl (g_ff g13 rfl) rfl ?_
            refine G_ev (ev_move rfl) rfl (g_ff g13 rfl) rfl ?_
            obtain ⟨x14, hx14, h⟩ := bind_elim h
            obtain ⟨lx14, ux14, hx14⟩ := getE_elim hx14
            refine G_rd (rd_idx 3 rfl els_sl rfl rfl Try.underlying24 size27 lx14 ux14) rfl (g_ff g13 rfl) rfl ?_
            refine G_rd (rd_fa 3 rfl els_sl rfl (toNat_lt lx14 ux14) fa_27_5) rfl (g_ff g13 rfl) rfl ?_
            refine G_row 3 rfl hx14 (open_DCell x14) ?_
            rintro _ _ ⟨A15, n15, c15, A16, n16, c16, rfl, rfl⟩
            refine G_rd (rd_row1 0 rfl rfl one25 rfl) rfl (g_ff g13 rfl) rfl ?_
            refine G_rd (rd_len 2 rfl els_sl rfl Try.underlying25) rfl (g_ff g13 rfl) rfl ?_
            refine G_ev (ev_gt rfl rfl) rfl (g_ff g13 rfl) rfl ?_
            refine G_ev (ev_pick_f' g13 rfl rfl) rfl rfl rfl ?_
            obtain rfl := Option.some.inj h
            exact G_joined (sub_cons rfl (sub_skip (sub_skip (sub_skip (sub_skip (sub_skip (sub_skip (sub_skip (sub_skip sub_refl rfl) rfl) rfl) rfl) rfl) rfl) rfl) rfl)) (cv_sel [3, 4, 5, 6] 7 rfl rfl)
        refine G_nil ?_
        refine nx_n ?_
        refine G_cond rfl (fun g18 => ?_) (fun g18 => ?_)
        · replace h := cond_t g18 h
          refine G_seq ?_
          refine G_region ?_
          refine G_ev (ev_assign rfl) rfl rfl rfl ?_
          refine G_nil ?_
          refine nx_n ?_
          refine G_ret ?_
          refine nx_r ?_
          refine bk_r ?_
          refine nx_r ?_
          refine nx_r ?_
          refine bk_r ?_
          refine nx_r ?_
          obtain rfl := Option.some.inj h
          exact endG1 rfl rfl (cv_sel [] 4 rfl rfl) ⟨rfl, rfl⟩
        · replace h := cond_f g18 h
          refine G_skip ?_
          refine nx_n ?_
          refine G_drawn (by kernel_rfl) _ (cv_refl _) ?_
          refine T3_ev 0 rfl (by kernel_rfl) (ev_move rfl) rfl rfl ?_
          refine T3_ev 1 rfl (by kernel_rfl) (ev_move rfl) rfl rfl ?_
          refine T3_ev 2 rfl (by kernel_rfl) (ev_move rfl) rfl rfl ?_
          obtain ⟨x19, hx19, h⟩ := bind_elim h
          obtain ⟨lx19, ux19, hx19⟩ := getE_elim hx19
          refine T3_rd 3 rfl (by kernel_rfl) (rd_idx 3 rfl els_sl rfl rfl Try.underlying24 size27 lx19 ux19) rfl rfl ?_
          refine T3_rd 4 rfl (by kernel_rfl) (rd_fa 3 rfl els_sl rfl (toNat_lt lx19 ux19) fa_27_4) rfl rfl ?_
          refine T3_row 3 rfl hx19 (open_DCell x19) ?_
          rintro _ _ ⟨A20, n20, c20, A21, n21, c21, rfl, rfl⟩
          refine T3_rd 5 rfl (by kernel_rfl) (rd_row1 0 rfl rfl one25 rfl) rfl rfl ?_
          refine T3_rd 6 rfl (by kernel_rfl) (rd_len 1 rfl els_sl rfl Try.underlying25) rfl rfl ?_
          refine T3_ev 7 rfl (by kernel_rfl) (ev_move rfl) rfl rfl ?_
          refine T3_ev 8 rfl (by kernel_rfl) (ev_move rfl) rfl rfl ?_
          obtain ⟨x23, hx23, h⟩ := bind_elim h
          obtain ⟨lx23, ux23, hx23⟩ := getE_elim hx23
          refine T3_rd 9 rfl (by kernel_rfl) (rd_idx 6 rfl els_sl rfl rfl Try.underlying24 size27 lx23 ux23) rfl rfl ?_
          refine T3_rd 10 rfl (by kernel_rfl) (rd_fa 6 rfl els_sl rfl (toNat_lt lx23 ux23) fa_27_5) rfl rfl ?_
          refine T3_row 6 rfl hx23 (open_DCell x23) ?_
          rintro _ _ ⟨A24, n24, c24, A25, n25, c25, rfl, rfl⟩
          refine T3_rd 11 rfl (by kernel_rfl) (rd_row1 0 rfl rfl one25 rfl) rfl rfl ?_
          refine T3_rd 12 rfl (by kernel_rfl) (rd_len 2 rfl els_sl rfl Try.underlying25) rfl rfl ?_
          obtain ⟨q27, h⟩ := req_elim h
          refine T3_ev 13 rfl (by kernel_rfl) (ev_add rfl rfl q27.1 q27.2) rfl rfl ?_
          obtain ⟨q28, h⟩ := req_elim h
          refine T3_ev 14 rfl (by kernel_rfl) (ev_add rfl rfl q28.1 q28.2) rfl rfl ?_
          refine T3_ev 15 rfl (by kernel_rfl) (ev_assign rfl) rfl rfl ?_
          refine T3_done (by kernel_rfl) ?_
          refine bk_n ?_
          refine nx_n ?_
          refine G_region ?_
          refine G_ev (ev_move rfl) rfl rfl rfl ?_
          obtain ⟨q29, h⟩ := req_elim h
          refine G_ev (ev_add rfl rfl q29.1 q29.2) rfl rfl rfl ?_
          refine G_ev (ev_assign rfl) rfl rfl rfl ?_
          refine G_nil ?_
          refine nx_n ?_
          exact ⟨m5, _, _, Nat.lt_succ_self _, ⟨p6 + ((x19.Slots.length : Int) + (x23.More.length : Int)), p7 + 1, h, rfl, rfl⟩, sub_cons rfl (sub_cons rfl (sub_cons rfl (sub_cons rfl sub_nil))), cv_sel [9] 10 rfl rfl⟩
      · replace h := cond_f g8 h
        refine G_exit ?_
        refine nx_e ?_
        refine nx_e ?_
        refine bk_x ?_
        refine nx_n ?_
        exact ⟨_, _, ⟨p6, h, rfl, rfl⟩, sub_cons rfl (sub_cons rfl sub_nil), cv_sel [] 1 rfl rfl⟩
    · rintro _ _ ⟨p4, h, rfl, rfl⟩
      refine G_seq ?_
      refine G_region ?_
      refine G_ev (ev_move rfl) rfl rfl rfl ?_
      refine G_ev (ev_le rfl rfl) rfl rfl rfl ?_
      refine G_ev (ev_assign rfl) rfl rfl rfl ?_
      refine G_nil ?_
      refine nx_n ?_
      refine G_ret ?_
      obtain rfl := Option.some.inj h
      exact endG1 rfl rfl (cv_sel [] 0 rfl rfl) ⟨rfl, rfl⟩
theorem pantomimelaw21_few_free {r : Bool} : ∀ v post, ((fun (u : Value) (post : List Chunk) => u = .bool r ∧ post = [])) v post → ∀ c ∈ post, Free c := by
  rintro _ _ ⟨rfl, rfl⟩; exact mem_nil
/-! pantomime/pantomimeref15.SameInts -/
def pantomimeref15_SameInts_j4 (N : Nat) : Option Bool :=
  some true
def pantomimeref15_SameInts_l5 (N : Nat) (a0 : (List Int)) (a1 : (List Int)) : Nat → Int → Option Bool
  | 0, _ => none
  | m5 + 1, p6 => bif decide (p6 < (a0.length : Int)) then ((getE a0 p6).bind fun x8 => (getE a1 p6).bind fun x9 => bif !decide (x8 = x9) then (some false) else (req (in64 (p6 + 1)) ((pantomimeref15_SameInts_l5 N a0 a1 m5) (p6 + 1)))) else (pantomimeref15_SameInts_j4 N)
theorem pantomimeref15_SameInts_l5_s {N m5 : Nat} {a0 : (List Int)} {a1 : (List Int)} {p6 : Int} : pantomimeref15_SameInts_l5 N a0 a1 (m5 + 1) p6 = bif decide (p6 < (a0.length : Int)) then ((getE a0 p6).bind fun x8 => (getE a1 p6).bind fun x9 => bif !decide (x8 = x9) then (some false) else (req (in64 (p6 + 1)) ((pantomimeref15_SameInts_l5 N a0 a1 m5) (p6 + 1)))) else (pantomimeref15_SameInts_j4 N) := rfl
def pantomimeref15_SameInts_O (N : Nat) (a0 : (List Int)) (a1 : (List Int)) : Option Bool :=
  bif !decide ((a0.length : Int) = (a1.length : Int)) then (some false) else (pantomimeref15_SameInts_l5 N a0 a1 N 0)
theorem pantomimeref15_SameInts_ok {N : Nat} {a0 : (List Int)} {a1 : (List Int)} {r : Bool} (h : pantomimeref15_SameInts_O N a0 a1 = some r) {A1 : Option Addr} {n1 c1 : Nat} {A2 : Option Addr} {n2 c2 : Nat} : Okc Try.prog 13 [.slice A1 n1 c1, .slice A2 n2 c2] ([slC (rInt .i64) (.slice A1 n1 c1) a0, slC (rInt .i64) (.slice A2 n2 c2) a1]) (fun (u : Value) (post : List Chunk) => u = .bool r ∧ post = []) := by
  refine ok_E Try.func13 rfl rfl ?_
  simp only [envOf]
  refine G_seq ?_
  refine G_region ?_
  refine G_ev (ev_assign rfl) rfl rfl rfl ?_
  refine G_nil ?_
  refine nx_n ?_
  refine G_seq ?_
  refine G_seq ?_
  refine G_region ?_
  refine G_ev (ev_move rfl) rfl rfl rfl ?_
  refine G_rd (rd_len 0 rfl els_sl rfl Try.underlying35) rfl rfl rfl ?_
  refine G_ev (ev_move rfl) rfl rfl rfl ?_
  refine G_rd (rd_len 1 rfl els_sl rfl Try.underlying35) rfl rfl rfl ?_
  refine G_ev (ev_ne rfl rfl) rfl rfl rfl ?_
  refine G_nil ?_
  refine nx_n ?_
  refine G_cond rfl (fun g3 => ?_) (fun g3 => ?_)
  · replace h := cond_t g3 h
    refine G_seq ?_
    refine G_region ?_
    refine G_ev (ev_assign rfl) rfl rfl rfl ?_
    refine G_nil ?_
    refine nx_n ?_
    refine G_ret ?_
    refine nx_r ?_
    obtain rfl := Option.some.inj h
    exact endG1 rfl rfl (cv_sel [] 2 rfl rfl) ⟨rfl, rfl⟩
  · replace h := cond_f g3 h
    refine G_skip ?_
    refine nx_n ?_
    refine G_joinF (fun s L => pantomimeref15_SameInts_j4 N = some r ∧ s = [(4, .bool false)] ∧ L = []) ?_ ?_
    · refine G_seq ?_
      refine G_region ?_
      refine G_ev (ev_assign rfl) rfl rfl rfl ?_
      refine G_nil ?_
      refine nx_n ?_
      refine G_block ?_
      refine G_loopF (fun m s L => ∃ (p6 : Int), pantomimeref15_SameInts_l5 N a0 a1 m p6 = some r ∧ s = [(0, .slice A1 n1 c1), (1, .slice A2 n2 c2), (4, .bool false), (5, .int .i64 p6)] ∧ L = [slC (rInt .i64) (.slice A1 n1 c1) a0, slC (rInt .i64) (.slice A2 n2 c2) a1]) N _ _ ⟨0, h, rfl, rfl⟩ (sub_cons rfl (sub_cons rfl (sub_cons rfl (sub_cons rfl sub_nil)))) (cv_sel [0, 1] 2 rfl rfl) ?_
      rintro (_ | m5) _ _ ⟨p6, h, rfl, rfl⟩
      · exact none_some h
      rw [pantomimeref15_SameInts_l5_s] at h
      refine G_seq ?_
      refine G_seq ?_
      refine G_region ?_
      refine G_ev (ev_move rfl) rfl rfl rfl ?_
      refine G_ev (ev_move rfl) rfl rfl rfl ?_
      refine G_rd (rd_len 0 rfl els_sl rfl Try.underlying35) rfl rfl rfl ?_
      refine G_ev (ev_lt rfl rfl) rfl rfl rfl ?_
      refine G_nil ?_
      refine nx_n ?_
      refine G_cond rfl (fun g7 => ?_) (fun g7 => ?_)
      · replace h := cond_t g7 h
        refine G_skip ?_
        refine nx_n ?_
        refine G_seq ?_
        refine G_block ?_
        refine G_seq ?_
        refine G_drawn (by kernel_rfl) _ (cv_refl _) ?_
        refine T3_ev 0 rfl (by kernel_rfl) (ev_move rfl) rfl rfl ?_
        refine T3_ev 1 rfl (by kernel_rfl) (ev_move rfl) rfl rfl ?_
        obtain ⟨x8, hx8, h⟩ := bind_elim h
        obtain ⟨lx8, ux8, hx8⟩ := getE_elim hx8
        refine T3_rd 2 rfl (by kernel_rfl) (rd_idx 0 rfl els_sl rfl rfl Try.underlying35 size3 lx8 ux8) rfl rfl ?_
        refine T3_rd 3 rfl (by kernel_rfl) (rd_elem1 (u := .int .i64 x8) 0 rfl els_sl rfl hx8 one3 (fun _ _ _ h => by rw [show _ = _ from h]; rfl)) rfl rfl ?_
        refine T3_ev 4 rfl (by kernel_rfl) (ev_move rfl) rfl rfl ?_
        refine T3_ev 5 rfl (by kernel_rfl) (ev_move rfl) rfl rfl ?_
        obtain ⟨x9, hx9, h⟩ := bind_elim h
        obtain ⟨lx9, ux9, hx9⟩ := getE_elim hx9
        refine T3_rd 6 rfl (by kernel_rfl) (rd_idx 1 rfl els_sl rfl rfl Try.underlying35 size3 lx9 ux9) rfl rfl ?_
        refine T3_rd 7 rfl (by kernel_rfl) (rd_elem1 (u := .int .i64 x9) 1 rfl els_sl rfl hx9 one3 (fun _ _ _ h => by rw [show _ = _ from h]; rfl)) rfl rfl ?_
        refine T3_ev 8 rfl (by kernel_rfl) (ev_ne rfl rfl) rfl rfl ?_
        refine T3_done (by kernel_rfl) ?_
        refine nx_n ?_
        refine G_cond rfl (fun g10 => ?_) (fun g10 => ?_)
        · replace h := cond_t g10 h
          refine G_seq ?_
          refine G_region ?_
          refine G_ev (ev_assign rfl) rfl rfl rfl ?_
          refine G_nil ?_
          refine nx_n ?_
          refine G_ret ?_
          refine bk_r ?_
          refine nx_r ?_
          refine nx_r ?_
          refine bk_r ?_
          refine nx_r ?_
          obtain rfl := Option.some.inj h
          exact endG1 rfl rfl (cv_sel [] 2 rfl rfl) ⟨rfl, rfl⟩
        · replace h := cond_f g10 h
          refine G_skip ?_
          refine bk_n ?_
          refine nx_n ?_
          refine G_region ?_
          refine G_ev (ev_move rfl) rfl rfl rfl ?_
          obtain ⟨q11, h⟩ := req_elim h
          refine G_ev (ev_add rfl rfl q11.1 q11.2) rfl rfl rfl ?_
          refine G_ev (ev_assign rfl) rfl rfl rfl ?_
          refine G_nil ?_
          refine nx_n ?_
          exact ⟨m5, _, _, Nat.lt_succ_self _, ⟨p6 + 1, h, rfl, rfl⟩, sub_cons rfl (sub_cons rfl (sub_cons rfl (sub_cons rfl sub_nil))), cv_sel [0, 1] 2 rfl rfl⟩
      · replace h := cond_f g7 h
        refine G_exit ?_
        refine nx_e ?_
        refine nx_e ?_
        refine bk_x ?_
        refine nx_n ?_
        exact ⟨_, _, ⟨h, rfl, rfl⟩, sub_cons rfl sub_nil, cv_sel [] 2 rfl rfl⟩
    · rintro _ _ ⟨h, rfl, rfl⟩
      refine G_seq ?_
      refine G_region ?_
      refine G_ev (ev_assign rfl) rfl rfl rfl ?_
      refine G_nil ?_
      refine nx_n ?_
      refine G_ret ?_
      obtain rfl := Option.some.inj h
      exact endG1 rfl rfl (cv_sel [] 0 rfl rfl) ⟨rfl, rfl⟩
theorem pantomimeref15_SameInts_free {r : Bool} : ∀ v post, ((fun (u : Value) (post : List Chunk) => u = .bool r ∧ post = [])) v post → ∀ c ∈ post, Free c := by
  rintro _ _ ⟨rfl, rfl⟩; exact mem_nil
/-! pantomime/pantomimelaw21.RemsetOrder -/
def pantomimelaw21_RemsetOrder_j39 (N : Nat) (p40 : (List (Int × Bool))) (p41 : (List (Int × Bool))) : Option Bool :=
  (remset_Set_List_O N (⟨p40⟩ : DSet)).bind fun y66 => (remset_Set_List_O N (⟨p41⟩ : DSet)).bind fun y68 => (pantomimeref15_SameInts_O N y66 y68).bind fun y70 => (bif y70 then ((remset_Set_Len_O N (⟨p40⟩ : DSet)).bind fun y72 => (remset_Set_Len_O N (⟨p41⟩ : DSet)).bind fun y73 => some (decide (y72 = y73))) else (some false)).bind fun b71 => (bif b71 then ((pantomimelaw21_lives_O N).bind fun y75 => some y75) else (some false)).bind fun b74 => some b74
def pantomimelaw21_RemsetOrder_l42 (N : Nat) (a0 : (List DStep)) : Nat → Int → (List (Int × Bool)) → (List (Int × Bool)) → Option Bool
  | 0, _, _, _ => none
  | m42 + 1, p43, p44, p45 => bif decide (p43 < (a0.length : Int)) then ((getE a0 p43).bind fun x47 => (getE a0 p43).bind fun x48 => (remset_Set_Note_O N (⟨p44⟩ : DSet) x47.At x48.Cell).bind fun y52 => req (in64 ((a0.length : Int) - 1)) (req (in64 (((a0.length : Int) - 1) - p43)) ((getE a0 (((a0.length : Int) - 1) - p43)).bind fun x56 => req (in64 ((a0.length : Int) - 1)) (req (in64 (((a0.length : Int) - 1) - p43)) ((getE a0 (((a0.length : Int) - 1) - p43)).bind fun x59 => (remset_Set_Note_O N (⟨p45⟩ : DSet) x56.At x59.Cell).bind fun y63 => req (in64 (p43 + 1)) ((pantomimelaw21_RemsetOrder_l42 N a0 m42) (p43 + 1) y52.2.at_ y63.2.at_)))))) else (pantomimelaw21_RemsetOrder_j39 N p44 p45)
theorem pantomimelaw21_RemsetOrder_l42_s {N m42 : Nat} {a0 : (List DStep)} {p43 : Int} {p44 : (List (Int × Bool))} {p45 : (List (Int × Bool))} : pantomimelaw21_RemsetOrder_l42 N a0 (m42 + 1) p43 p44 p45 = bif decide (p43 < (a0.length : Int)) then ((getE a0 p43).bind fun x47 => (getE a0 p43).bind fun x48 => (remset_Set_Note_O N (⟨p44⟩ : DSet) x47.At x48.Cell).bind fun y52 => req (in64 ((a0.length : Int) - 1)) (req (in64 (((a0.length : Int) - 1) - p43)) ((getE a0 (((a0.length : Int) - 1) - p43)).bind fun x56 => req (in64 ((a0.length : Int) - 1)) (req (in64 (((a0.length : Int) - 1) - p43)) ((getE a0 (((a0.length : Int) - 1) - p43)).bind fun x59 => (remset_Set_Note_O N (⟨p45⟩ : DSet) x56.At x59.Cell).bind fun y63 => req (in64 (p43 + 1)) ((pantomimelaw21_RemsetOrder_l42 N a0 m42) (p43 + 1) y52.2.at_ y63.2.at_)))))) else (pantomimelaw21_RemsetOrder_j39 N p44 p45) := rfl
def pantomimelaw21_RemsetOrder_j4 (N : Nat) (a0 : (List DStep)) (p5 : (List DCell)) : Option Bool :=
  (pantomimelaw21_few_O N p5).bind fun y30 => bif !y30 then ((pantomimelaw21_lives_O N).bind fun y32 => some y32) else ((remset_New_O N).bind fun y33 => (remset_New_O N).bind fun y36 => pantomimelaw21_RemsetOrder_l42 N a0 N 0 y33.at_ y36.at_)
def pantomimelaw21_RemsetOrder_j11 (N : Nat) (kb6 : (List DCell) → Int → Option Bool) (p8 : Int) (a0 : (List DStep)) (p12 : (List DCell)) : Option Bool :=
  req (in64 (p8 + 1)) (kb6 p12 (p8 + 1))
def pantomimelaw21_RemsetOrder_j13 (N : Nat) (kb6 : (List DCell) → Int → Option Bool) (p8 : Int) (a0 : (List DStep)) (p7 : (List DCell)) : Option Bool :=
  (getE a0 p8).bind fun x22 => req (fitsL (p7.length + ([x22.Cell] : List DCell).length)) (pantomimelaw21_RemsetOrder_j11 N kb6 p8 a0 (p7 ++ ([x22.Cell] : List DCell)))
def pantomimelaw21_RemsetOrder_l14 (N : Nat) (kb6 : (List DCell) → Int → Option Bool) (p8 : Int) (a0 : (List DStep)) (p7 : (List DCell)) : Nat → Int → Option Bool
  | 0, _ => none
  | m14 + 1, p15 => bif decide (p15 < p8) then ((getE a0 p15).bind fun x17 => (getE a0 p8).bind fun x18 => bif decide (x17.At = x18.At) then ((pantomimelaw21_lives_O N).bind fun y20 => some y20) else (req (in64 (p15 + 1)) ((pantomimelaw21_RemsetOrder_l14 N kb6 p8 a0 p7 m14) (p15 + 1)))) else (pantomimelaw21_RemsetOrder_j13 N kb6 p8 a0 p7)
theorem pantomimelaw21_RemsetOrder_l14_s {N m14 : Nat} {kb6 : (List DCell) → Int → Option Bool} {p8 : Int} {a0 : (List DStep)} {p7 : (List DCell)} {p15 : Int} : pantomimelaw21_RemsetOrder_l14 N kb6 p8 a0 p7 (m14 + 1) p15 = bif decide (p15 < p8) then ((getE a0 p15).bind fun x17 => (getE a0 p8).bind fun x18 => bif decide (x17.At = x18.At) then ((pantomimelaw21_lives_O N).bind fun y20 => some y20) else (req (in64 (p15 + 1)) ((pantomimelaw21_RemsetOrder_l14 N kb6 p8 a0 p7 m14) (p15 + 1)))) else (pantomimelaw21_RemsetOrder_j13 N kb6 p8 a0 p7) := rfl
def pantomimelaw21_RemsetOrder_l6 (N : Nat) (a0 : (List DStep)) : Nat → (List DCell) → Int → Option Bool
  | 0, _, _ => none
  | m6 + 1, p7, p8 => bif decide (p8 < (a0.length : Int)) then (pantomimelaw21_RemsetOrder_l14 N (pantomimelaw21_RemsetOrder_l6 N a0 m6) p8 a0 p7 N 0) else (pantomimelaw21_RemsetOrder_j4 N a0 p7)
theorem pantomimelaw21_RemsetOrder_l6_s {N m6 : Nat} {a0 : (List DStep)} {p7 : (List DCell)} {p8 : Int} : pantomimelaw21_RemsetOrder_l6 N a0 (m6 + 1) p7 p8 = bif decide (p8 < (a0.length : Int)) then (pantomimelaw21_RemsetOrder_l14 N (pantomimelaw21_RemsetOrder_l6 N a0 m6) p8 a0 p7 N 0) else (pantomimelaw21_RemsetOrder_j4 N a0 p7) := rfl
def pantomimelaw21_RemsetOrder_O (N : Nat) (a0 : (List DStep)) : Option Bool :=
  bif decide (60 < (a0.length : Int)) then ((pantomimelaw21_lives_O N).bind fun y3 => some y3) else (pantomimelaw21_RemsetOrder_l6 N a0 N [] 0)
theorem pantomimelaw21_RemsetOrder_ok {N : Nat} {a0 : (List DStep)} {r : Bool} (h : pantomimelaw21_RemsetOrder_O N a0 = some r) {A1 : Option Addr} {n1 c1 : Nat} : Okc Try.prog 3 [.slice A1 n1 c1] ([slC rDStep (.slice A1 n1 c1) a0]) (fun (u : Value) (post : List Chunk) => u = .bool r ∧ post = []) := by
  refine ok_E Try.func3 rfl rfl ?_
  simp only [envOf]
  refine G_seq ?_
  refine G_region ?_
  refine G_ev (ev_assign rfl) rfl rfl rfl ?_
  refine G_nil ?_
  refine nx_n ?_
  refine G_seq ?_
  refine G_seq ?_
  refine G_region ?_
  refine G_ev (ev_move rfl) rfl rfl rfl ?_
  refine G_rd (rd_len 0 rfl els_sl rfl Try.underlying22) rfl rfl rfl ?_
  refine G_ev (ev_gt rfl rfl) rfl rfl rfl ?_
  refine G_nil ?_
  refine nx_n ?_
  refine G_cond rfl (fun g2 => ?_) (fun g2 => ?_)
  · replace h := cond_t g2 h
    refine G_seq ?_
    refine G_region ?_
    obtain ⟨y3, hy3, h⟩ := bind_elim h
    refine G_opd (op_callR (pantomimelaw21_lives_ok hy3) call9 rfl (mem_nil) pantomimelaw21_lives_free) rfl rfl rfl ?_
    rintro _ _ ⟨_, ⟨rfl, rfl⟩, rfl⟩
    refine G_ev (ev_assign rfl) rfl rfl rfl ?_
    refine G_nil ?_
    refine nx_n ?_
    refine G_ret ?_
    refine nx_r ?_
    obtain rfl := Option.some.inj h
    exact endG1 rfl rfl (cv_sel [] 1 rfl rfl) ⟨rfl, rfl⟩
  · replace h := cond_f g2 h
    refine G_skip ?_
    refine nx_n ?_
    refine G_seq ?_
    refine G_region ?_
    refine G_ev (ev_assign rfl) rfl rfl rfl ?_
    refine G_nil ?_
    refine nx_n ?_
    refine G_joinF (fun s L => ∃ (p5 : (List DCell)) (A5 : Option Addr) (n5 c5 : Nat), pantomimelaw21_RemsetOrder_j4 N a0 p5 = some r ∧ s = [(0, .slice A1 n1 c1), (2, .bool false), (3, .slice A5 n5 c5)] ∧ L = [slC rDStep (.slice A1 n1 c1) a0, ownC rDCell 27 (.slice A5 n5 c5) p5]) ?_ ?_
    · refine G_seq ?_
      refine G_region ?_
      refine G_ev (ev_assign rfl) rfl rfl rfl ?_
      refine G_nil ?_
      refine nx_n ?_
      refine G_block ?_
      refine G_loopF (fun m s L => ∃ (p7 : (List DCell)) (p8 : Int) (A7 : Option Addr) (n7 c7 : Nat), pantomimelaw21_RemsetOrder_l6 N a0 m p7 p8 = some r ∧ s = [(0, .slice A1 n1 c1), (2, .bool false), (3, .slice A7 n7 c7), (4, .int .i64 p8)] ∧ L = [slC rDStep (.slice A1 n1 c1) a0, ownC rDCell 27 (.slice A7 n7 c7) p7]) N _ _ ⟨[], 0, none, 0, 0, h, rfl, rfl⟩ (sub_cons rfl (sub_cons rfl (sub_cons rfl (sub_cons rfl sub_nil)))) ((cv_nil rDCell 27 _).trans (cv_sel [1, 0] 2 rfl rfl)) ?_
      rintro (_ | m6) _ _ ⟨p7, p8, A7, n7, c7, h, rfl, rfl⟩
      · exact none_some h
      rw [pantomimelaw21_RemsetOrder_l6_s] at h
      refine G_seq ?_
      refine G_seq ?_
      refine G_region ?_
      refine G_ev (ev_move rfl) rfl rfl rfl ?_
      refine G_ev (ev_move rfl) rfl rfl rfl ?_
      refine G_rd (rd_len 0 rfl els_sl rfl Try.underlying22) rfl rfl rfl ?_
      refine G_ev (ev_lt rfl rfl) rfl rfl rfl ?_
      refine G_nil ?_
      refine nx_n ?_
      refine G_cond rfl (fun g10 => ?_) (fun g10 => ?_)
      · replace h := cond_t g10 h
        refine G_skip ?_
        refine nx_n ?_
        refine G_joinF (fun s L => ∃ (p12 : (List DCell)) (A12 : Option Addr) (n12 c12 : Nat), pantomimelaw21_RemsetOrder_j11 N (pantomimelaw21_RemsetOrder_l6 N a0 m6) p8 a0 p12 = some r ∧ s = [(0, .slice A1 n1 c1), (2, .bool false), (3, .slice A12 n12 c12), (4, .int .i64 p8)] ∧ L = [slC rDStep (.slice A1 n1 c1) a0, ownC rDCell 27 (.slice A12 n12 c12) p12]) ?_ ?_
        · refine G_block ?_
          refine G_joinF (fun s L => pantomimelaw21_RemsetOrder_j13 N (pantomimelaw21_RemsetOrder_l6 N a0 m6) p8 a0 p7 = some r ∧ s = [(0, .slice A1 n1 c1), (2, .bool false), (3, .slice A7 n7 c7), (4, .int .i64 p8)] ∧ L = [slC rDStep (.slice A1 n1 c1) a0, ownC rDCell 27 (.slice A7 n7 c7) p7]) ?_ ?_
          · refine G_seq ?_
            refine G_region ?_
            refine G_ev (ev_assign rfl) rfl rfl rfl ?_
            refine G_nil ?_
            refine nx_n ?_
            refine G_block ?_
            refine G_loopF (fun m s L => ∃ (p15 : Int), pantomimelaw21_RemsetOrder_l14 N (pantomimelaw21_RemsetOrder_l6 N a0 m6) p8 a0 p7 m p15 = some r ∧ s = [(0, .slice A1 n1 c1), (2, .bool false), (3, .slice A7 n7 c7), (4, .int .i64 p8), (5, .int .i64 p15)] ∧ L = [slC rDStep (.slice A1 n1 c1) a0, ownC rDCell 27 (.slice A7 n7 c7) p7]) N _ _ ⟨0, h, rfl, rfl⟩ (sub_cons rfl (sub_cons rfl (sub_cons rfl (sub_cons rfl (sub_cons rfl sub_nil))))) (cv_sel [0, 1] 2 rfl rfl) ?_
            rintro (_ | m14) _ _ ⟨p15, h, rfl, rfl⟩
            · exact none_some h
            rw [pantomimelaw21_RemsetOrder_l14_s] at h
            refine G_seq ?_
            refine G_seq ?_
            refine G_region ?_
            refine G_ev (ev_move rfl) rfl rfl rfl ?_
            refine G_ev (ev_move rfl) rfl rfl rfl ?_
            refine G_ev (ev_lt rfl rfl) rfl rfl rfl ?_
            refine G_nil ?_
            refine nx_n ?_
            refine G_cond rfl (fun g16 => ?_) (fun g16 => ?_)
            · replace h := cond_t g16 h
              refine G_skip ?_
              refine nx_n ?_
              refine G_seq ?_
              refine G_block ?_
              refine G_seq ?_
              refine G_drawn (by kernel_rfl) _ (cv_refl _) ?_
              refine T3_ev 0 rfl (by kernel_rfl) (ev_move rfl) rfl rfl ?_
              refine T3_ev 1 rfl (by kernel_rfl) (ev_move rfl) rfl rfl ?_
              obtain ⟨x17, hx17, h⟩ := bind_elim h
              obtain ⟨lx17, ux17, hx17⟩ := getE_elim hx17
              refine T3_rd 2 rfl (by kernel_rfl) (rd_idx 0 rfl els_sl rfl rfl Try.underlying22 size29 lx17 ux17) rfl rfl ?_
              refine T3_rd 3 rfl (by kernel_rfl) (rd_fa 0 rfl els_sl rfl (toNat_lt lx17 ux17) fa_29_1) rfl rfl ?_
              refine T3_rd 4 rfl (by kernel_rfl) (rd_elem1 (u := .int .i64 x17.At) 0 rfl els_sl rfl hx17 one3 (fun _ _ _ h => by obtain ⟨_, _, _, _, _, _, e, _⟩ := h; rw [e]; rfl)) rfl rfl ?_
              refine T3_ev 5 rfl (by kernel_rfl) (ev_move rfl) rfl rfl ?_
              refine T3_ev 6 rfl (by kernel_rfl) (ev_move rfl) rfl rfl ?_
              obtain ⟨x18, hx18, h⟩ := bind_elim h
              obtain ⟨lx18, ux18, hx18⟩ := getE_elim hx18
              refine T3_rd 7 rfl (by kernel_rfl) (rd_idx 0 rfl els_sl rfl rfl Try.underlying22 size29 lx18 ux18) rfl rfl ?_
              refine T3_rd 8 rfl (by kernel_rfl) (rd_fa 0 rfl els_sl rfl (toNat_lt lx18 ux18) fa_29_1) rfl rfl ?_
              refine T3_rd 9 rfl (by kernel_rfl) (rd_elem1 (u := .int .i64 x18.At) 0 rfl els_sl rfl hx18 one3 (fun _ _ _ h => by obtain ⟨_, _, _, _, _, _, e, _⟩ := h; rw [e]; rfl)) rfl rfl ?_
              refine T3_ev 10 rfl (by kernel_rfl) (ev_eq rfl rfl) rfl rfl ?_
              refine T3_done (by kernel_rfl) ?_
              refine nx_n ?_
              refine G_cond rfl (fun g19 => ?_) (fun g19 => ?_)
              · replace h := cond_t g19 h
                refine G_seq ?_
                refine G_region ?_
                obtain ⟨y20, hy20, h⟩ := bind_elim h
                refine G_opd (op_callR (pantomimelaw21_lives_ok hy20) call9 rfl (mem_nil) pantomimelaw21_lives_free) rfl rfl rfl ?_
                rintro _ _ ⟨_, ⟨rfl, rfl⟩, rfl⟩
                refine G_ev (ev_assign rfl) rfl rfl rfl ?_
                refine G_nil ?_
                refine nx_n ?_
                refine G_ret ?_
                refine bk_r ?_
                refine nx_r ?_
                refine nx_r ?_
                refine bk_r ?_
                refine nx_r ?_
                refine bk_r ?_
                refine nx_r ?_
                refine nx_r ?_
                refine bk_r ?_
                refine nx_r ?_
                obtain rfl := Option.some.inj h
                exact endG1 rfl rfl (cv_sel [] 2 rfl rfl) ⟨rfl, rfl⟩
              · replace h := cond_f g19 h
                refine G_skip ?_
                refine bk_n ?_
                refine nx_n ?_
                refine G_region ?_
                refine G_ev (ev_move rfl) rfl rfl rfl ?_
                obtain ⟨q21, h⟩ := req_elim h
                refine G_ev (ev_add rfl rfl q21.1 q21.2) rfl rfl rfl ?_
                refine G_ev (ev_assign rfl) rfl rfl rfl ?_
                refine G_nil ?_
                refine nx_n ?_
                exact ⟨m14, _, _, Nat.lt_succ_self _, ⟨p15 + 1, h, rfl, rfl⟩, sub_cons rfl (sub_cons rfl (sub_cons rfl (sub_cons rfl (sub_cons rfl sub_nil)))), cv_sel [0, 1] 2 rfl rfl⟩
            · replace h := cond_f g16 h
              refine G_exit ?_
              refine nx_e ?_
              refine nx_e ?_
              refine bk_x ?_
              refine nx_n ?_
              exact ⟨_, _, ⟨h, rfl, rfl⟩, sub_cons rfl (sub_cons rfl (sub_cons rfl (sub_cons rfl sub_nil))), cv_sel [0, 1] 2 rfl rfl⟩
          · rintro _ _ ⟨h, rfl, rfl⟩
            refine G_region ?_
            refine G_ev (ev_move rfl) rfl rfl rfl ?_
            refine G_ev (ev_move rfl) rfl rfl rfl ?_
            refine G_ev (ev_move rfl) rfl rfl rfl ?_
            obtain ⟨x22, hx22, h⟩ := bind_elim h
            obtain ⟨lx22, ux22, hx22⟩ := getE_elim hx22
            refine G_rd (rd_idx 0 rfl els_sl rfl rfl Try.underlying22 size29 lx22 ux22) rfl rfl rfl ?_
            refine G_rd (rd_fa 0 rfl els_sl rfl (toNat_lt lx22 ux22) fa_29_2) rfl rfl rfl ?_
            refine G_row 0 rfl hx22 (open_DStep x22) ?_
            rintro _ _ ⟨A23, n23, c23, A24, n24, c24, rfl, rfl⟩
            refine G_rd (rd_rowS (us := [.int .i64 x22.Cell.Kind, .int .i64 x22.Cell.Shape, .int .i64 x22.Cell.Flags, .int .i64 x22.Cell.Age, .slice A23 n23 c23, .slice A24 n24 c24]) 0 rfl rfl agg27 rfl) rfl rfl rfl ?_
            refine G_opd (op_bslice (R := rDCell) (vss := [[.int .i64 x22.Cell.Kind, .int .i64 x22.Cell.Shape, .int .i64 x22.Cell.Flags, .int .i64 x22.Cell.Age, .slice A23 n23 c23, .slice A24 n24 c24]]) (xs := [x22.Cell]) rfl (bsl_24_1 _ _ _ _ _ _ _ _ _ _) rfl rfl (fun _ _ hr => .cons (⟨_, _, _, _, _, _, rfl, hr 1 _ rfl rfl, hr 2 _ rfl rfl⟩) All2.nil)) rfl rfl rfl ?_
            rintro _ _ ⟨A26, n26, c26, rfl, rfl⟩
            obtain ⟨q27, h⟩ := req_elim h
            refine G_opd (op_append 5 0 rfl rfl els_own rfl rfl Try.underlying24 zb27 rfl rfl q27) rfl rfl rfl ?_
            rintro _ _ ⟨A28, n28, c28, rfl, rfl⟩
            refine G_norm ([ownC rDCell 27 (.slice A26 n26 c26) ([x22.Cell] : List DCell), rowC (elemQ (.slice A1 n1 c1) p8.toNat 8 0) [.bool x22.Clear, .int .i64 x22.At, .int .i64 x22.Cell.Kind, .int .i64 x22.Cell.Shape, .int .i64 x22.Cell.Flags, .int .i64 x22.Cell.Age, .slice A23 n23 c23, .slice A24 n24 c24], slC rDValue (.slice A23 n23 c23) x22.Cell.Slots, slC rDValue (.slice A24 n24 c24) x22.Cell.More, slC rDStep (.slice A1 n1 c1) a0, ownC rDCell 27 (.slice A28 n28 c28) (p7 ++ ([x22.Cell] : List DCell))]) rfl ?_
            refine G_ev (ev_assign rfl) rfl rfl rfl ?_
            refine G_nil ?_
            refine bk_n ?_
            refine nx_n ?_
            exact ⟨_, _, ⟨p7 ++ ([x22.Cell] : List DCell), A28, n28, c28, h, rfl, rfl⟩, sub_cons rfl (sub_cons rfl (sub_cons rfl (sub_cons rfl sub_nil))), cv_sel [4, 5] 6 rfl rfl⟩
        · rintro _ _ ⟨p12, A12, n12, c12, h, rfl, rfl⟩
          refine G_region ?_
          refine G_ev (ev_move rfl) rfl rfl rfl ?_
          obtain ⟨q29, h⟩ := req_elim h
          refine G_ev (ev_add rfl rfl q29.1 q29.2) rfl rfl rfl ?_
          refine G_ev (ev_assign rfl) rfl rfl rfl ?_
          refine G_nil ?_
          refine nx_n ?_
          exact ⟨m6, _, _, Nat.lt_succ_self _, ⟨p12, p8 + 1, A12, n12, c12, h, rfl, rfl⟩, sub_cons rfl (sub_cons rfl (sub_cons rfl (sub_cons rfl sub_nil))), cv_sel [0, 1] 2 rfl rfl⟩
      · replace h := cond_f g10 h
        refine G_exit ?_
        refine nx_e ?_
        refine nx_e ?_
        refine bk_x ?_
        refine nx_n ?_
        exact ⟨_, _, ⟨p7, A7, n7, c7, h, rfl, rfl⟩, sub_cons rfl (sub_cons rfl (sub_cons rfl sub_nil)), cv_sel [0, 1] 2 rfl rfl⟩
    · rintro _ _ ⟨p5, A5, n5, c5, h, rfl, rfl⟩
      refine G_seq ?_
      refine G_seq ?_
      refine G_region ?_
      refine G_ev (ev_move rfl) rfl rfl rfl ?_
      obtain ⟨y30, hy30, h⟩ := bind_elim h
      refine G_opd (op_callR (pantomimelaw21_few_ok hy30) call10 rfl (mem_cons (lent_own (i := 1) rfl) mem_nil) pantomimelaw21_few_free) rfl rfl rfl ?_
      rintro _ _ ⟨_, ⟨rfl, rfl⟩, rfl⟩
      refine G_ev (ev_not rfl) rfl rfl rfl ?_
      refine G_nil ?_
      refine nx_n ?_
      refine G_cond rfl (fun g31 => ?_) (fun g31 => ?_)
      · replace h := cond_t g31 h
        refine G_seq ?_
        refine G_region ?_
        obtain ⟨y32, hy32, h⟩ := bind_elim h
        refine G_opd (op_callR (pantomimelaw21_lives_ok hy32) call9 rfl (mem_nil) pantomimelaw21_lives_free) rfl rfl rfl ?_
        rintro _ _ ⟨_, ⟨rfl, rfl⟩, rfl⟩
        refine G_ev (ev_assign rfl) rfl rfl rfl ?_
        refine G_nil ?_
        refine nx_n ?_
        refine G_ret ?_
        refine nx_r ?_
        obtain rfl := Option.some.inj h
        exact endG1 rfl rfl (cv_sel [] 2 rfl rfl) ⟨rfl, rfl⟩
      · replace h := cond_f g31 h
        refine G_skip ?_
        refine nx_n ?_
        refine G_seq ?_
        refine G_region ?_
        obtain ⟨y33, hy33, h⟩ := bind_elim h
        refine G_opd (op_call (remset_New_ok hy33) call11 rfl (cv_take [] [] [0, 1] 2 rfl)) rfl rfl rfl ?_
        rintro _ _ ⟨_, ⟨B34, M35, rfl, rfl⟩, rfl⟩
        refine G_norm ([boxC B34 56 [.map (some M35)], mapC ekI evB M35 y33.at_, slC rDStep (.slice A1 n1 c1) a0, ownC rDCell 27 (.slice A5 n5 c5) p5]) rfl ?_
        obtain ⟨y36, hy36, h⟩ := bind_elim h
        refine G_opd (op_call (remset_New_ok hy36) call11 rfl (cv_take [] [] [0, 1, 2, 3] 4 rfl)) rfl rfl rfl ?_
        rintro _ _ ⟨_, ⟨B37, M38, rfl, rfl⟩, rfl⟩
        refine G_norm ([boxC B37 56 [.map (some M38)], mapC ekI evB M38 y36.at_, boxC B34 56 [.map (some M35)], mapC ekI evB M35 y33.at_, slC rDStep (.slice A1 n1 c1) a0, ownC rDCell 27 (.slice A5 n5 c5) p5]) rfl ?_
        refine G_ev (ev_assign rfl) rfl rfl rfl ?_
        refine G_ev (ev_assign rfl) rfl rfl rfl ?_
        refine G_nil ?_
        refine nx_n ?_
        refine G_joinF (fun s L => ∃ (p40 : (List (Int × Bool))) (p41 : (List (Int × Bool))) (M40 : Nat) (M41 : Nat), pantomimelaw21_RemsetOrder_j39 N p40 p41 = some r ∧ s = [(2, .bool false), (6, .pointer (some ⟨B34, 0, none⟩)), (7, .pointer (some ⟨B37, 0, none⟩))] ∧ L = [mapC ekI evB M40 p40, boxC B34 56 [.map (some M40)], mapC ekI evB M41 p41, boxC B37 56 [.map (some M41)]]) ?_ ?_
        · refine G_seq ?_
          refine G_region ?_
          refine G_ev (ev_assign rfl) rfl rfl rfl ?_
          refine G_nil ?_
          refine nx_n ?_
          refine G_block ?_
          refine G_loopF (fun m s L => ∃ (p43 : Int) (p44 : (List (Int × Bool))) (p45 : (List (Int × Bool))) (M44 : Nat) (M45 : Nat), pantomimelaw21_RemsetOrder_l42 N a0 m p43 p44 p45 = some r ∧ s = [(0, .slice A1 n1 c1), (2, .bool false), (6, .pointer (some ⟨B34, 0, none⟩)), (7, .pointer (some ⟨B37, 0, none⟩)), (8, .int .i64 p43)] ∧ L = [slC rDStep (.slice A1 n1 c1) a0, mapC ekI evB M44 p44, boxC B34 56 [.map (some M44)], mapC ekI evB M45 p45, boxC B37 56 [.map (some M45)]]) N _ _ ⟨0, y33.at_, y36.at_, M35, M38, h, rfl, rfl⟩ (sub_cons rfl (sub_cons rfl (sub_cons rfl (sub_cons rfl (sub_cons rfl sub_nil))))) (cv_sel [4, 3, 2, 1, 0] 6 rfl rfl) ?_
          rintro (_ | m42) _ _ ⟨p43, p44, p45, M44, M45, h, rfl, rfl⟩
          · exact none_some h
          rw [pantomimelaw21_RemsetOrder_l42_s] at h
          refine G_seq ?_
          refine G_seq ?_
          refine G_region ?_
          refine G_ev (ev_move rfl) rfl rfl rfl ?_
          refine G_ev (ev_move rfl) rfl rfl rfl ?_
          refine G_rd (rd_len 0 rfl els_sl rfl Try.underlying22) rfl rfl rfl ?_
          refine G_ev (ev_lt rfl rfl) rfl rfl rfl ?_
          refine G_nil ?_
          refine nx_n ?_
          refine G_cond rfl (fun g46 => ?_) (fun g46 => ?_)
          · replace h := cond_t g46 h
            refine G_skip ?_
            refine nx_n ?_
            refine G_seq ?_
            refine G_block ?_
            refine G_seq ?_
            refine G_drawn (by kernel_rfl) ([slC rDStep (.slice A1 n1 c1) a0, mapC ekI evB M45 p45, boxC B37 56 [.map (some M45)]]) (cv_sel [0, 3, 4] 5 rfl rfl) ?_
            refine T3_ev 0 rfl (by kernel_rfl) (ev_move rfl) rfl rfl ?_
            refine T3_ev 1 rfl (by kernel_rfl) (ev_move rfl) rfl rfl ?_
            refine T3_ev 2 rfl (by kernel_rfl) (ev_move rfl) rfl rfl ?_
            obtain ⟨x47, hx47, h⟩ := bind_elim h
            obtain ⟨lx47, ux47, hx47⟩ := getE_elim hx47
            refine T3_rd 3 rfl (by kernel_rfl) (rd_idx 0 rfl els_sl rfl rfl Try.underlying22 size29 lx47 ux47) rfl rfl ?_
            refine T3_rd 4 rfl (by kernel_rfl) (rd_fa 0 rfl els_sl rfl (toNat_lt lx47 ux47) fa_29_1) rfl rfl ?_
            refine T3_rd 5 rfl (by kernel_rfl) (rd_elem1 (u := .int .i64 x47.At) 0 rfl els_sl rfl hx47 one3 (fun _ _ _ h => by obtain ⟨_, _, _, _, _, _, e, _⟩ := h; rw [e]; rfl)) rfl rfl ?_
            refine T3_ev 6 rfl (by kernel_rfl) (ev_move rfl) rfl rfl ?_
            refine T3_ev 7 rfl (by kernel_rfl) (ev_move rfl) rfl rfl ?_
            obtain ⟨x48, hx48, h⟩ := bind_elim h
            obtain ⟨lx48, ux48, hx48⟩ := getE_elim hx48
            refine T3_rd 8 rfl (by kernel_rfl) (rd_idx 0 rfl els_sl rfl rfl Try.underlying22 size29 lx48 ux48) rfl rfl ?_
            refine T3_rd 9 rfl (by kernel_rfl) (rd_fa 0 rfl els_sl rfl (toNat_lt lx48 ux48) fa_29_2) rfl rfl ?_
            refine T3_row 0 rfl hx48 (open_DStep x48) ?_
            rintro _ _ ⟨A49, n49, c49, A50, n50, c50, rfl, rfl⟩
            refine T3_rd 10 rfl (by kernel_rfl) (rd_rowS (us := [.int .i64 x48.Cell.Kind, .int .i64 x48.Cell.Shape, .int .i64 x48.Cell.Flags, .int .i64 x48.Cell.Age, .slice A49 n49 c49, .slice A50 n50 c50]) 0 rfl rfl agg27 rfl) rfl rfl ?_
            obtain ⟨y52, hy52, h⟩ := bind_elim h
            refine T3_opd 11 rfl (by kernel_rfl) (op_call (remset_Set_Note_ok hy52) call12 rfl (cv_take [1, 2] [5, 4] [0, 1, 2, 3, 6, 7] 8 rfl)) rfl rfl rfl ?_
            rintro _ _ ⟨_, ⟨M53, rfl, rfl⟩, rfl⟩
            refine ⟨[rowC (elemQ (.slice A1 n1 c1) p43.toNat 8 0) [.bool x48.Clear, .int .i64 x48.At, .int .i64 x48.Cell.Kind, .int .i64 x48.Cell.Shape, .int .i64 x48.Cell.Flags, .int .i64 x48.Cell.Age, .slice A49 n49 c49, .slice A50 n50 c50], slC rDValue (.slice A49 n49 c49) x48.Cell.Slots, slC rDValue (.slice A50 n50 c50) x48.Cell.More, slC rDStep (.slice A1 n1 c1) a0, mapC ekI evB M45 p45, boxC B37 56 [.map (some M45)]], cv_sel [2, 3, 4, 5, 6, 7] 8 rfl rfl, cv_refl _, ?_⟩
            refine T3_norm ([boxC B34 56 [.map (some M53)], mapC ekI evB M53 y52.2.at_, rowC (elemQ (.slice A1 n1 c1) p43.toNat 8 0) [.bool x48.Clear, .int .i64 x48.At, .int .i64 x48.Cell.Kind, .int .i64 x48.Cell.Shape, .int .i64 x48.Cell.Flags, .int .i64 x48.Cell.Age, .slice A49 n49 c49, .slice A50 n50 c50], slC rDValue (.slice A49 n49 c49) x48.Cell.Slots, slC rDValue (.slice A50 n50 c50) x48.Cell.More, slC rDStep (.slice A1 n1 c1) a0, mapC ekI evB M45 p45, boxC B37 56 [.map (some M45)]]) rfl ?_
            refine T3_done (by kernel_rfl) ?_
            refine nx_n ?_
            refine G_drawn (by kernel_rfl) ([boxC B34 56 [.map (some M53)], mapC ekI evB M53 y52.2.at_, rowC (elemQ (.slice A1 n1 c1) p43.toNat 8 0) [.bool x48.Clear, .int .i64 x48.At, .int .i64 x48.Cell.Kind, .int .i64 x48.Cell.Shape, .int .i64 x48.Cell.Flags, .int .i64 x48.Cell.Age, .slice A49 n49 c49, .slice A50 n50 c50], slC rDValue (.slice A49 n49 c49) x48.Cell.Slots, slC rDValue (.slice A50 n50 c50) x48.Cell.More, slC rDStep (.slice A1 n1 c1) a0]) (cv_sel [0, 1, 2, 3, 4, 5] 8 rfl rfl) ?_
            refine T3_ev 0 rfl (by kernel_rfl) (ev_move rfl) rfl rfl ?_
            refine T3_ev 1 rfl (by kernel_rfl) (ev_move rfl) rfl rfl ?_
            refine T3_ev 2 rfl (by kernel_rfl) (ev_move rfl) rfl rfl ?_
            refine T3_rd 3 rfl (by kernel_rfl) (rd_len 5 rfl els_sl rfl Try.underlying22) rfl rfl ?_
            obtain ⟨q54, h⟩ := req_elim h
            refine T3_ev 4 rfl (by kernel_rfl) (ev_sub rfl rfl q54.1 q54.2) rfl rfl ?_
            refine T3_ev 5 rfl (by kernel_rfl) (ev_move rfl) rfl rfl ?_
            obtain ⟨q55, h⟩ := req_elim h
            refine T3_ev 6 rfl (by kernel_rfl) (ev_sub rfl rfl q55.1 q55.2) rfl rfl ?_
            obtain ⟨x56, hx56, h⟩ := bind_elim h
            obtain ⟨lx56, ux56, hx56⟩ := getE_elim hx56
            refine T3_rd 7 rfl (by kernel_rfl) (rd_idx 5 rfl els_sl rfl rfl Try.underlying22 size29 lx56 ux56) rfl rfl ?_
            refine T3_rd 8 rfl (by kernel_rfl) (rd_fa 5 rfl els_sl rfl (toNat_lt lx56 ux56) fa_29_1) rfl rfl ?_
            refine T3_rd 9 rfl (by kernel_rfl) (rd_elem1 (u := .int .i64 x56.At) 5 rfl els_sl rfl hx56 one3 (fun _ _ _ h => by obtain ⟨_, _, _, _, _, _, e, _⟩ := h; rw [e]; rfl)) rfl rfl ?_
            refine T3_ev 10 rfl (by kernel_rfl) (ev_move rfl) rfl rfl ?_
            refine T3_ev 11 rfl (by kernel_rfl) (ev_move rfl) rfl rfl ?_
            refine T3_rd 12 rfl (by kernel_rfl) (rd_len 5 rfl els_sl rfl Try.underlying22) rfl rfl ?_
            obtain ⟨q57, h⟩ := req_elim h
            refine T3_ev 13 rfl (by kernel_rfl) (ev_sub rfl rfl q57.1 q57.2) rfl rfl ?_
            refine T3_ev 14 rfl (by kernel_rfl) (ev_move rfl) rfl rfl ?_
            obtain ⟨q58, h⟩ := req_elim h
            refine T3_ev 15 rfl (by kernel_rfl) (ev_sub rfl rfl q58.1 q58.2) rfl rfl ?_
            obtain ⟨x59, hx59, h⟩ := bind_elim h
            obtain ⟨lx59, ux59, hx59⟩ := getE_elim hx59
            refine T3_rd 16 rfl (by kernel_rfl) (rd_idx 5 rfl els_sl rfl rfl Try.underlying22 size29 lx59 ux59) rfl rfl ?_
            refine T3_rd 17 rfl (by kernel_rfl) (rd_fa 5 rfl els_sl rfl (toNat_lt lx59 ux59) fa_29_2) rfl rfl ?_
            refine T3_row 5 rfl hx59 (open_DStep x59) ?_
            rintro _ _ ⟨A60, n60, c60, A61, n61, c61, rfl, rfl⟩
            refine T3_rd 18 rfl (by kernel_rfl) (rd_rowS (us := [.int .i64 x59.Cell.Kind, .int .i64 x59.Cell.Shape, .int .i64 x59.Cell.Flags, .int .i64 x59.Cell.Age, .slice A60 n60 c60, .slice A61 n61 c61]) 0 rfl rfl agg27 rfl) rfl rfl ?_
            obtain ⟨y63, hy63, h⟩ := bind_elim h
            refine T3_opd 19 rfl (by kernel_rfl) (op_call (remset_Set_Note_ok hy63) call12 rfl (cv_take [1, 2] [10, 9] [0, 1, 2, 3, 4, 5, 6, 7, 8] 11 rfl)) rfl rfl rfl ?_
            rintro _ _ ⟨_, ⟨M64, rfl, rfl⟩, rfl⟩
            refine ⟨[rowC (elemQ (.slice A1 n1 c1) ((((a0.length : Int) - 1) - p43).toNat) 8 0) [.bool x59.Clear, .int .i64 x59.At, .int .i64 x59.Cell.Kind, .int .i64 x59.Cell.Shape, .int .i64 x59.Cell.Flags, .int .i64 x59.Cell.Age, .slice A60 n60 c60, .slice A61 n61 c61], slC rDValue (.slice A60 n60 c60) x59.Cell.Slots, slC rDValue (.slice A61 n61 c61) x59.Cell.More, boxC B34 56 [.map (some M53)], mapC ekI evB M53 y52.2.at_, rowC (elemQ (.slice A1 n1 c1) p43.toNat 8 0) [.bool x48.Clear, .int .i64 x48.At, .int .i64 x48.Cell.Kind, .int .i64 x48.Cell.Shape, .int .i64 x48.Cell.Flags, .int .i64 x48.Cell.Age, .slice A49 n49 c49, .slice A50 n50 c50], slC rDValue (.slice A49 n49 c49) x48.Cell.Slots, slC rDValue (.slice A50 n50 c50) x48.Cell.More, slC rDStep (.slice A1 n1 c1) a0], cv_sel [2, 3, 4, 5, 6, 7, 8, 9, 10] 11 rfl rfl, cv_refl _, ?_⟩
            refine T3_norm ([boxC B37 56 [.map (some M64)], mapC ekI evB M64 y63.2.at_, rowC (elemQ (.slice A1 n1 c1) ((((a0.length : Int) - 1) - p43).toNat) 8 0) [.bool x59.Clear, .int .i64 x59.At, .int .i64 x59.Cell.Kind, .int .i64 x59.Cell.Shape, .int .i64 x59.Cell.Flags, .int .i64 x59.Cell.Age, .slice A60 n60 c60, .slice A61 n61 c61], slC rDValue (.slice A60 n60 c60) x59.Cell.Slots, slC rDValue (.slice A61 n61 c61) x59.Cell.More, boxC B34 56 [.map (some M53)], mapC ekI evB M53 y52.2.at_, rowC (elemQ (.slice A1 n1 c1) p43.toNat 8 0) [.bool x48.Clear, .int .i64 x48.At, .int .i64 x48.Cell.Kind, .int .i64 x48.Cell.Shape, .int .i64 x48.Cell.Flags, .int .i64 x48.Cell.Age, .slice A49 n49 c49, .slice A50 n50 c50], slC rDValue (.slice A49 n49 c49) x48.Cell.Slots, slC rDValue (.slice A50 n50 c50) x48.Cell.More, slC rDStep (.slice A1 n1 c1) a0]) rfl ?_
            refine T3_done (by kernel_rfl) ?_
            refine bk_n ?_
            refine nx_n ?_
            refine G_region ?_
            refine G_ev (ev_move rfl) rfl rfl rfl ?_
            obtain ⟨q65, h⟩ := req_elim h
            refine G_ev (ev_add rfl rfl q65.1 q65.2) rfl rfl rfl ?_
            refine G_ev (ev_assign rfl) rfl rfl rfl ?_
            refine G_nil ?_
            refine nx_n ?_
            exact ⟨m42, _, _, Nat.lt_succ_self _, ⟨p43 + 1, y52.2.at_, y63.2.at_, M53, M64, h, rfl, rfl⟩, sub_cons rfl (sub_cons rfl (sub_cons rfl (sub_cons rfl (sub_cons rfl sub_nil)))), cv_sel [10, 6, 5, 1, 0] 11 rfl rfl⟩
          · replace h := cond_f g46 h
            refine G_exit ?_
            refine nx_e ?_
            refine nx_e ?_
            refine bk_x ?_
            refine nx_n ?_
            exact ⟨_, _, ⟨p44, p45, M44, M45, h, rfl, rfl⟩, sub_cons rfl (sub_cons rfl (sub_cons rfl sub_nil)), cv_sel [1, 2, 3, 4] 5 rfl rfl⟩
        · rintro _ _ ⟨p40, p41, M40, M41, h, rfl, rfl⟩
          refine G_seq ?_
          refine G_region ?_
          refine G_ev (ev_move rfl) rfl rfl rfl ?_
          obtain ⟨y66, hy66, h⟩ := bind_elim h
          refine G_opd (op_callR (remset_Set_List_ok hy66) call14 rfl (mem_cons (lent_box (i := 1) rfl) (mem_cons (lent_map (i := 0) rfl) mem_nil)) remset_Set_List_free) rfl rfl rfl ?_
          rintro _ _ ⟨_, ⟨A67, n67, c67, rfl, rfl⟩, rfl⟩
          refine G_ev (ev_move rfl) rfl rfl rfl ?_
          obtain ⟨y68, hy68, h⟩ := bind_elim h
          refine G_opd (op_callR (remset_Set_List_ok hy68) call14 rfl (mem_cons (lent_box (i := 4) rfl) (mem_cons (lent_map (i := 3) rfl) mem_nil)) remset_Set_List_free) rfl rfl rfl ?_
          rintro _ _ ⟨_, ⟨A69, n69, c69, rfl, rfl⟩, rfl⟩
          obtain ⟨y70, hy70, h⟩ := bind_elim h
          refine G_opd (op_callR (pantomimeref15_SameInts_ok hy70) call13 rfl (mem_cons (lent_own (i := 1) rfl) (mem_cons (lent_own (i := 0) rfl) mem_nil)) pantomimeref15_SameInts_free) rfl rfl rfl ?_
          rintro _ _ ⟨_, ⟨rfl, rfl⟩, rfl⟩
          refine G_ev (ev_move rfl) rfl rfl rfl ?_
          obtain ⟨b71, hb71, h⟩ := bind_elim h
          refine G_segb 6 99 b71 ?_ ?_
          · clear h
            refine G_case 93 rfl (fun g71 => ?_) (fun g71 => ?_)
            · have h := cond_t g71 hb71
              refine G_ev (ev_move rfl) rfl (g_tt g71 rfl) rfl ?_
              obtain ⟨y72, hy72, h⟩ := bind_elim h
              refine G_opd (op_callR (remset_Set_Len_ok hy72) call15 rfl (mem_cons (lent_box (i := 3) rfl) (mem_cons (lent_map (i := 2) rfl) mem_nil)) remset_Set_Len_free) rfl (g_tt g71 rfl) rfl ?_
              rintro _ _ ⟨_, ⟨rfl, rfl⟩, rfl⟩
              refine G_ev (ev_move rfl) rfl (g_tt g71 rfl) rfl ?_
              obtain ⟨y73, hy73, h⟩ := bind_elim h
              refine G_opd (op_callR (remset_Set_Len_ok hy73) call15 rfl (mem_cons (lent_box (i := 5) rfl) (mem_cons (lent_map (i := 4) rfl) mem_nil)) remset_Set_Len_free) rfl (g_tt g71 rfl) rfl ?_
              rintro _ _ ⟨_, ⟨rfl, rfl⟩, rfl⟩
              refine G_ev (ev_eq rfl rfl) rfl (g_tt g71 rfl) rfl ?_
              refine G_ev (ev_pick_t' g71 rfl rfl) rfl rfl rfl ?_
              obtain rfl := Option.some.inj h
              exact G_joined (sub_cons rfl (sub_skip (sub_skip (sub_skip (sub_skip (sub_skip (sub_skip sub_refl rfl) rfl) rfl) rfl) rfl) rfl)) (cv_sel [0, 1, 2, 3, 4, 5] 6 rfl rfl)
            · have h := cond_f g71 hb71
              refine G_no (g_tf g71 rfl) rfl ?_
              refine G_no (g_tf g71 rfl) rfl ?_
              refine G_no (g_tf g71 rfl) rfl ?_
              refine G_no (g_tf g71 rfl) rfl ?_
              refine G_no (g_tf g71 rfl) rfl ?_
              refine G_ev (ev_pick_f' g71 rfl rfl) rfl rfl rfl ?_
              obtain rfl := Option.some.inj h
              exact G_joined (sub_cons rfl (sub_skip (sub_skip (sub_skip (sub_skip (sub_skip (sub_skip sub_refl rfl) rfl) rfl) rfl) rfl) rfl)) (cv_sel [0, 1, 2, 3, 4, 5] 6 rfl rfl)
          refine G_ev (ev_move rfl) rfl rfl rfl ?_
          obtain ⟨b74, hb74, h⟩ := bind_elim h
          refine G_segb 2 102 b74 ?_ ?_
          · clear h
            refine G_case 100 rfl (fun g74 => ?_) (fun g74 => ?_)
            · have h := cond_t g74 hb74
              obtain ⟨y75, hy75, h⟩ := bind_elim h
              refine G_opd (op_callR (pantomimelaw21_lives_ok hy75) call9 rfl (mem_nil) pantomimelaw21_lives_free) rfl (g_tt g74 rfl) rfl ?_
              rintro _ _ ⟨_, ⟨rfl, rfl⟩, rfl⟩
              refine G_ev (ev_pick_t' g74 rfl rfl) rfl rfl rfl ?_
              obtain rfl := Option.some.inj h
              exact G_joined (sub_cons rfl (sub_skip (sub_skip sub_refl rfl) rfl)) (cv_sel [0, 1, 2, 3, 4, 5] 6 rfl rfl)
            · have h := cond_f g74 hb74
              refine G_no (g_tf g74 rfl) rfl ?_
              refine G_ev (ev_pick_f' g74 rfl rfl) rfl rfl rfl ?_
              obtain rfl := Option.some.inj h
              exact G_joined (sub_cons rfl (sub_skip (sub_skip sub_refl rfl) rfl)) (cv_sel [0, 1, 2, 3, 4, 5] 6 rfl rfl)
          refine G_ev (ev_assign rfl) rfl rfl rfl ?_
          refine G_nil ?_
          refine nx_n ?_
          refine G_ret ?_
          obtain rfl := Option.some.inj h
          exact endG1 rfl rfl (cv_sel [] 6 rfl rfl) ⟨rfl, rfl⟩
theorem pantomimelaw21_RemsetOrder_free {r : Bool} : ∀ v post, ((fun (u : Value) (post : List Chunk) => u = .bool r ∧ post = [])) v post → ∀ c ∈ post, Free c := by
  rintro _ _ ⟨rfl, rfl⟩; exact mem_nil
/-! (*pantomime/remset.Set).Clear -/
def remset_Set_Clear_O (N : Nat) (a0 : DSet) : Option DSet :=
  some (⟨[]⟩ : DSet)
theorem remset_Set_Clear_ok {N : Nat} {a0 : DSet} {r : DSet} (h : remset_Set_Clear_O N a0 = some r) {B1 : Nat} {M2 : Nat} : Okc Try.prog 16 [.pointer (some ⟨B1, 0, none⟩)] ([boxC B1 56 [.map (some M2)], mapC ekI evB M2 a0.at_]) (fun (u : Value) (post : List Chunk) => ∃ M0, u = .tuple #[] ∧ post = [boxC B1 56 [.map (some M0)], mapC ekI evB M0 r.at_]) := by
  refine ok_E Try.func16 rfl rfl ?_
  simp only [envOf]
  refine G_seq ?_
  refine G_region ?_
  refine G_ev (ev_move rfl) rfl rfl rfl ?_
  refine G_ev (ev_nil_ne rfl Try.underlying31) rfl rfl rfl ?_
  refine G_nil ?_
  refine nx_n ?_
  refine G_cond_t rfl ?_
  refine G_region ?_
  refine G_ev (ev_move rfl) rfl rfl rfl ?_
  refine G_ev (ev_nilCheck rfl) rfl rfl rfl ?_
  refine G_ev (ev_fa0 rfl fa_56_0) rfl rfl rfl ?_
  refine G_rd (rd_box1 0 rfl rfl one54 rfl) rfl rfl rfl ?_
  refine G_opn (op_clear 1 rfl rfl Try.underlying54) rfl rfl ?_
  rintro _ _ rfl
  refine G_norm ([boxC B1 56 [.map (some M2)], mapC ekI evB M2 []]) rfl ?_
  refine G_nil ?_
  obtain rfl := Option.some.inj h
  exact endG0n rfl (cv_sel [0, 1] 2 rfl rfl) ⟨_, rfl, rfl⟩
def remset_Set_Clear_n_O (N : Nat) : Option Unit :=
  some ()
theorem remset_Set_Clear_n_ok {N : Nat} {r : Unit} (h : remset_Set_Clear_n_O N = some r) : Okc Try.prog 16 [.pointer none] ([]) (fun (u : Value) (post : List Chunk) => u = .tuple #[] ∧ post = []) := by
  refine ok_E Try.func16 rfl rfl ?_
  simp only [envOf]
  refine G_seq ?_
  refine G_region ?_
  refine G_ev (ev_move rfl) rfl rfl rfl ?_
  refine G_ev (ev_nil_ne rfl Try.underlying31) rfl rfl rfl ?_
  refine G_nil ?_
  refine nx_n ?_
  refine G_cond_f rfl ?_
  refine G_skip ?_
  obtain rfl := Option.some.inj h
  exact endG0n rfl (cv_sel [] 0 rfl rfl) ⟨rfl, rfl⟩
theorem remset_Set_Clear_n_free : ∀ v post, ((fun (u : Value) (post : List Chunk) => u = .tuple #[] ∧ post = [])) v post → ∀ c ∈ post, Free c := by
  rintro _ _ ⟨rfl, rfl⟩; exact mem_nil
/-! pantomime/pantomimeref21.old -/
def pantomimeref21_old_O (N : Nat) (a0 : Int) : Option Bool :=
  (bif decide (0 < a0) then (some (decide (a0.tmod 2 = 0))) else (some false)).bind fun b1 => some b1
theorem pantomimeref21_old_ok {N : Nat} {a0 : Int} {r : Bool} (h : pantomimeref21_old_O N a0 = some r) : Okc Try.prog 28 [.int .i64 a0] ([]) (fun (u : Value) (post : List Chunk) => u = .bool r ∧ post = []) := by
  refine ok_E Try.func28 rfl rfl ?_
  simp only [envOf]
  refine G_seq ?_
  refine G_region ?_
  refine G_ev (ev_assign rfl) rfl rfl rfl ?_
  refine G_nil ?_
  refine nx_n ?_
  refine G_seq ?_
  refine G_region ?_
  refine G_ev (ev_move rfl) rfl rfl rfl ?_
  refine G_ev (ev_gt rfl rfl) rfl rfl rfl ?_
  refine G_ev (ev_move rfl) rfl rfl rfl ?_
  obtain ⟨b1, hb1, h⟩ := bind_elim h
  refine G_segb 4 9 b1 ?_ ?_
  · clear h
    refine G_case 5 rfl (fun g1 => ?_) (fun g1 => ?_)
    · have h := cond_t g1 hb1
      refine G_ev (ev_move rfl) rfl (g_tt g1 rfl) rfl ?_
      refine G_ev (ev_rem rfl rfl (by decide)) rfl (g_tt g1 rfl) rfl ?_
      refine G_ev (ev_eq rfl rfl) rfl (g_tt g1 rfl) rfl ?_
      refine G_ev (ev_pick_t' g1 rfl rfl) rfl rfl rfl ?_
      obtain rfl := Option.some.inj h
      exact G_joined (sub_cons rfl (sub_skip (sub_skip (sub_skip (sub_skip sub_refl rfl) rfl) rfl) rfl)) (cv_sel [] 0 rfl rfl)
    · have h := cond_f g1 hb1
      refine G_no (g_tf g1 rfl) rfl ?_
      refine G_no (g_tf g1 rfl) rfl ?_
      refine G_no (g_tf g1 rfl) rfl ?_
      refine G_ev (ev_pick_f' g1 rfl rfl) rfl rfl rfl ?_
      obtain rfl := Option.some.inj h
      exact G_joined (sub_cons rfl (sub_skip (sub_skip (sub_skip (sub_skip sub_refl rfl) rfl) rfl) rfl)) (cv_sel [] 0 rfl rfl)
  refine G_ev (ev_assign rfl) rfl rfl rfl ?_
  refine G_nil ?_
  refine nx_n ?_
  refine G_ret ?_
  obtain rfl := Option.some.inj h
  exact endG1 rfl rfl (cv_sel [] 0 rfl rfl) ⟨rfl, rfl⟩
theorem pantomimeref21_old_free {r : Bool} : ∀ v post, ((fun (u : Value) (post : List Chunk) => u = .bool r ∧ post = [])) v post → ∀ c ∈ post, Free c := by
  rintro _ _ ⟨rfl, rfl⟩; exact mem_nil
/-! pantomime/pantomimeref15.has -/
def pantomimeref15_has_O (N : Nat) (a0 : DValue) : Option Bool :=
  (bif decide (a0.Kind = 7) then (some true) else (some (decide (a0.Kind = 9)))).bind fun b2 => some b2
theorem pantomimeref15_has_ok {N : Nat} {a0 : DValue} {r : Bool} (h : pantomimeref15_has_O N a0 = some r) : Okc Try.prog 42 [.agg #[.int .i64 a0.Kind, .int .i64 a0.N, .string a0.S]] ([]) (fun (u : Value) (post : List Chunk) => u = .bool r ∧ post = []) := by
  refine ok_E Try.func42 rfl rfl ?_
  simp only [envOf]
  refine G_seq ?_
  refine G_region ?_
  refine G_opd (op_box rfl rfl) rfl rfl rfl ?_
  rintro _ _ ⟨B1, rfl, rfl⟩
  refine G_ev (ev_assign rfl) rfl rfl rfl ?_
  refine G_nil ?_
  refine nx_n ?_
  refine G_seq ?_
  refine G_region ?_
  refine G_ev (ev_fa0 rfl fa_63_0) rfl rfl rfl ?_
  refine G_rd (rd_box1 0 rfl rfl one3 rfl) rfl rfl rfl ?_
  refine G_ev (ev_eq rfl rfl) rfl rfl rfl ?_
  refine G_ev (ev_move rfl) rfl rfl rfl ?_
  obtain ⟨b2, hb2, h⟩ := bind_elim h
  refine G_segb 4 10 b2 ?_ ?_
  · clear h
    refine G_case 6 rfl (fun g2 => ?_) (fun g2 => ?_)
    · have h := cond_t g2 hb2
      refine G_no (g_ft g2 rfl) rfl ?_
      refine G_no (g_ft g2 rfl) rfl ?_
      refine G_no (g_ft g2 rfl) rfl ?_
      refine G_ev (ev_pick_t' g2 rfl rfl) rfl rfl rfl ?_
      obtain rfl := Option.some.inj h
      exact G_joined (sub_cons rfl (sub_skip (sub_skip (sub_skip (sub_skip sub_refl rfl) rfl) rfl) rfl)) (cv_sel [0] 1 rfl rfl)
    · have h := cond_f g2 hb2
      refine G_ev (ev_fa0 rfl fa_63_0) rfl (g_ff g2 rfl) rfl ?_
      refine G_rd (rd_box1 0 rfl rfl one3 rfl) rfl (g_ff g2 rfl) rfl ?_
      refine G_ev (ev_eq rfl rfl) rfl (g_ff g2 rfl) rfl ?_
      refine G_ev (ev_pick_f' g2 rfl rfl) rfl rfl rfl ?_
      obtain rfl := Option.some.inj h
      exact G_joined (sub_cons rfl (sub_skip (sub_skip (sub_skip (sub_skip sub_refl rfl) rfl) rfl) rfl)) (cv_sel [0] 1 rfl rfl)
  refine G_ev (ev_assign rfl) rfl rfl rfl ?_
  refine G_nil ?_
  refine nx_n ?_
  refine G_ret ?_
  obtain rfl := Option.some.inj h
  exact endG1 rfl rfl (cv_sel [] 1 rfl rfl) ⟨rfl, rfl⟩
theorem pantomimeref15_has_free {r : Bool} : ∀ v post, ((fun (u : Value) (post : List Chunk) => u = .bool r ∧ post = [])) v post → ∀ c ∈ post, Free c := by
  rintro _ _ ⟨rfl, rfl⟩; exact mem_nil
/-! pantomime/pantomimeref15.weak -/
def pantomimeref15_weak_O (N : Nat) (a0 : Int) (a1 : Int) : Option Bool :=
  (bif decide (a0 = 8) then (some true) else ((bif decide (a0 = 10) then (some (decide (0 < a1))) else (some false)).bind fun b2 => (bif b2 then (req (in64 (a1 - 1)) (some (decide (((a1 - 1).tmod 4).tmod 2 = 0)))) else (some false)).bind fun b3 => some b3)).bind fun b1 => some b1
theorem pantomimeref15_weak_ok {N : Nat} {a0 : Int} {a1 : Int} {r : Bool} (h : pantomimeref15_weak_O N a0 a1 = some r) : Okc Try.prog 43 [.int .i64 a0, .int .i64 a1] ([]) (fun (u : Value) (post : List Chunk) => u = .bool r ∧ post = []) := by
  refine ok_E Try.func43 rfl rfl ?_
  simp only [envOf]
  refine G_seq ?_
  refine G_region ?_
  refine G_ev (ev_assign rfl) rfl rfl rfl ?_
  refine G_nil ?_
  refine nx_n ?_
  refine G_seq ?_
  refine G_region ?_
  refine G_ev (ev_move rfl) rfl rfl rfl ?_
  refine G_ev (ev_eq rfl rfl) rfl rfl rfl ?_
  refine G_ev (ev_move rfl) rfl rfl rfl ?_
  obtain ⟨b1, hb1, h⟩ := bind_elim h
  refine G_segb 14 21 b1 ?_ ?_
  · clear h
    refine G_case 7 rfl (fun g1 => ?_) (fun g1 => ?_)
    · have h := cond_t g1 hb1
      refine G_no (g_ft g1 rfl) rfl ?_
      refine G_no (g_ft g1 rfl) rfl ?_
      refine G_no (g_ft g1 rfl) rfl ?_
      refine G_no rfl rfl ?_
      refine G_no rfl rfl ?_
      refine G_no (g_ft g1 rfl) rfl ?_
      refine G_no (g_ft g1 rfl) rfl ?_
      refine G_no rfl rfl ?_
      refine G_no rfl rfl ?_
      refine G_no rfl rfl ?_
      refine G_no rfl rfl ?_
      refine G_no rfl rfl ?_
      refine G_no (g_ft g1 rfl) rfl ?_
      refine G_ev (ev_pick_t' g1 rfl rfl) rfl rfl rfl ?_
      obtain rfl := Option.some.inj h
      exact G_joined (sub_cons rfl (sub_skip (sub_skip (sub_skip (sub_skip (sub_skip (sub_skip (sub_skip (sub_skip (sub_skip (sub_skip (sub_skip (sub_skip (sub_skip (sub_skip sub_refl rfl) rfl) rfl) rfl) rfl) rfl) rfl) rfl) rfl) rfl) rfl) rfl) rfl) rfl)) (cv_sel [] 0 rfl rfl)
    · have h := cond_f g1 hb1
      refine G_ev (ev_move rfl) rfl (g_ff g1 rfl) rfl ?_
      refine G_ev (ev_eq rfl rfl) rfl (g_ff g1 rfl) rfl ?_
      refine G_ev (ev_move rfl) rfl (g_ff g1 rfl) rfl ?_
      obtain ⟨b2, hb2, h⟩ := bind_elim h
      refine G_segb 3 13 b2 ?_ ?_
      · clear h
        refine G_case 10 rfl (fun g2 => ?_) (fun g2 => ?_)
        · have h := cond_t g2 hb2
          refine G_ev (ev_move rfl) rfl (g_tt g2 rfl) rfl ?_
          refine G_ev (ev_gt rfl rfl) rfl (g_tt g2 rfl) rfl ?_
          refine G_ev (ev_pick_t' g2 rfl rfl) rfl (g_ff g1 rfl) rfl ?_
          obtain rfl := Option.some.inj h
          exact G_joined (sub_cons rfl (sub_skip (sub_skip (sub_skip sub_refl rfl) rfl) rfl)) (cv_sel [] 0 rfl rfl)
        · have h := cond_f g2 hb2
          refine G_no (g_tf g2 rfl) rfl ?_
          refine G_no (g_tf g2 rfl) rfl ?_
          refine G_ev (ev_pick_f' g2 rfl rfl) rfl (g_ff g1 rfl) rfl ?_
          obtain rfl := Option.some.inj h
          exact G_joined (sub_cons rfl (sub_skip (sub_skip (sub_skip sub_refl rfl) rfl) rfl)) (cv_sel [] 0 rfl rfl)
      refine G_ev (ev_move rfl) rfl (g_ff g1 rfl) rfl ?_
      obtain ⟨b3, hb3, h⟩ := bind_elim h
      refine G_segb 6 20 b3 ?_ ?_
      · clear h
        refine G_case 14 rfl (fun g3 => ?_) (fun g3 => ?_)
        · have h := cond_t g3 hb3
          refine G_ev (ev_move rfl) rfl (g_tt g3 rfl) rfl ?_
          obtain ⟨q4, h⟩ := req_elim h
          refine G_ev (ev_sub rfl rfl q4.1 q4.2) rfl (g_tt g3 rfl) rfl ?_
          refine G_ev (ev_rem rfl rfl (by decide)) rfl (g_tt g3 rfl) rfl ?_
          refine G_ev (ev_rem rfl rfl (by decide)) rfl (g_tt g3 rfl) rfl ?_
          refine G_ev (ev_eq rfl rfl) rfl (g_tt g3 rfl) rfl ?_
          refine G_ev (ev_pick_t' g3 rfl rfl) rfl (g_ff g1 rfl) rfl ?_
          obtain rfl := Option.some.inj h
          exact G_joined (sub_cons rfl (sub_skip (sub_skip (sub_skip (sub_skip (sub_skip (sub_skip sub_refl rfl) rfl) rfl) rfl) rfl) rfl)) (cv_sel [] 0 rfl rfl)
        · have h := cond_f g3 hb3
          refine G_no (g_tf g3 rfl) rfl ?_
          refine G_no (g_tf g3 rfl) rfl ?_
          refine G_no (g_tf g3 rfl) rfl ?_
          refine G_no (g_tf g3 rfl) rfl ?_
          refine G_no (g_tf g3 rfl) rfl ?_
          refine G_ev (ev_pick_f' g3 rfl rfl) rfl (g_ff g1 rfl) rfl ?_
          obtain rfl := Option.some.inj h
          exact G_joined (sub_cons rfl (sub_skip (sub_skip (sub_skip (sub_skip (sub_skip (sub_skip sub_refl rfl) rfl) rfl) rfl) rfl) rfl)) (cv_sel [] 0 rfl rfl)
      refine G_ev (ev_pick_f' g1 rfl rfl) rfl rfl rfl ?_
      obtain rfl := Option.some.inj h
      exact G_joined (sub_cons rfl (sub_skip (sub_skip (sub_skip (sub_skip (sub_skip (sub_skip (sub_skip sub_refl rfl) rfl) rfl) rfl) rfl) rfl) rfl)) (cv_sel [] 0 rfl rfl)
  refine G_ev (ev_assign rfl) rfl rfl rfl ?_
  refine G_nil ?_
  refine nx_n ?_
  refine G_ret ?_
  obtain rfl := Option.some.inj h
  exact endG1 rfl rfl (cv_sel [] 0 rfl rfl) ⟨rfl, rfl⟩
theorem pantomimeref15_weak_free {r : Bool} : ∀ v post, ((fun (u : Value) (post : List Chunk) => u = .bool r ∧ post = [])) v post → ∀ c ∈ post, Free c := by
  rintro _ _ ⟨rfl, rfl⟩; exact mem_nil
/-! pantomime/pantomimeref15.Leads -/
def pantomimeref15_Leads_j21 (N : Nat) (p22 : (List Int)) : Option (List Int) :=
  some p22
def pantomimeref15_Leads_j27 (N : Nat) (kb23 : (List Int) → Int → Option (List Int)) (p25 : Int) (a0 : DCell) (p28 : (List Int)) : Option (List Int) :=
  req (in64 (p25 + 1)) (kb23 p28 (p25 + 1))
def pantomimeref15_Leads_l23 (N : Nat) (a0 : DCell) : Nat → (List Int) → Int → Option (List Int)
  | 0, _, _ => none
  | m23 + 1, p24, p25 => bif decide (p25 < (a0.More.length : Int)) then ((getE a0.More p25).bind fun x29 => (pantomimeref15_has_O N x29).bind fun y30 => (bif y30 then ((pantomimeref15_weak_O N a0.Kind p25).bind fun y32 => some (!y32)) else (some false)).bind fun b31 => bif b31 then ((getE a0.More p25).bind fun x34 => req (fitsL (p24.length + ([x34.N] : List Int).length)) (pantomimeref15_Leads_j27 N (pantomimeref15_Leads_l23 N a0 m23) p25 a0 (p24 ++ ([x34.N] : List Int)))) else (pantomimeref15_Leads_j27 N (pantomimeref15_Leads_l23 N a0 m23) p25 a0 p24)) else (pantomimeref15_Leads_j21 N p24)
theorem pantomimeref15_Leads_l23_s {N m23 : Nat} {a0 : DCell} {p24 : (List Int)} {p25 : Int} : pantomimeref15_Leads_l23 N a0 (m23 + 1) p24 p25 = bif decide (p25 < (a0.More.length : Int)) then ((getE a0.More p25).bind fun x29 => (pantomimeref15_has_O N x29).bind fun y30 => (bif y30 then ((pantomimeref15_weak_O N a0.Kind p25).bind fun y32 => some (!y32)) else (some false)).bind fun b31 => bif b31 then ((getE a0.More p25).bind fun x34 => req (fitsL (p24.length + ([x34.N] : List Int).length)) (pantomimeref15_Leads_j27 N (pantomimeref15_Leads_l23 N a0 m23) p25 a0 (p24 ++ ([x34.N] : List Int)))) else (pantomimeref15_Leads_j27 N (pantomimeref15_Leads_l23 N a0 m23) p25 a0 p24)) else (pantomimeref15_Leads_j21 N p24) := rfl
def pantomimeref15_Leads_j4 (N : Nat) (a0 : DCell) (p5 : (List Int)) : Option (List Int) :=
  pantomimeref15_Leads_l23 N a0 N p5 0
def pantomimeref15_Leads_j11 (N : Nat) (kb6 : (List Int) → Int → Option (List Int)) (p8 : Int) (a0 : DCell) (p12 : (List Int)) : Option (List Int) :=
  req (in64 (p8 + 1)) (kb6 p12 (p8 + 1))
def pantomimeref15_Leads_l6 (N : Nat) (a0 : DCell) : Nat → (List Int) → Int → Option (List Int)
  | 0, _, _ => none
  | m6 + 1, p7, p8 => bif decide (p8 < (a0.Slots.length : Int)) then ((getE a0.Slots p8).bind fun x13 => (pantomimeref15_has_O N x13).bind fun y14 => bif y14 then ((getE a0.Slots p8).bind fun x16 => req (fitsL (p7.length + ([x16.N] : List Int).length)) (pantomimeref15_Leads_j11 N (pantomimeref15_Leads_l6 N a0 m6) p8 a0 (p7 ++ ([x16.N] : List Int)))) else (pantomimeref15_Leads_j11 N (pantomimeref15_Leads_l6 N a0 m6) p8 a0 p7)) else (pantomimeref15_Leads_j4 N a0 p7)
theorem pantomimeref15_Leads_l6_s {N m6 : Nat} {a0 : DCell} {p7 : (List Int)} {p8 : Int} : pantomimeref15_Leads_l6 N a0 (m6 + 1) p7 p8 = bif decide (p8 < (a0.Slots.length : Int)) then ((getE a0.Slots p8).bind fun x13 => (pantomimeref15_has_O N x13).bind fun y14 => bif y14 then ((getE a0.Slots p8).bind fun x16 => req (fitsL (p7.length + ([x16.N] : List Int).length)) (pantomimeref15_Leads_j11 N (pantomimeref15_Leads_l6 N a0 m6) p8 a0 (p7 ++ ([x16.N] : List Int)))) else (pantomimeref15_Leads_j11 N (pantomimeref15_Leads_l6 N a0 m6) p8 a0 p7)) else (pantomimeref15_Leads_j4 N a0 p7) := rfl
def pantomimeref15_Leads_O (N : Nat) (a0 : DCell) : Option (List Int) :=
  pantomimeref15_Leads_l6 N a0 N [] 0
theorem pantomimeref15_Leads_ok {N : Nat} {a0 : DCell} {r : (List Int)} (h : pantomimeref15_Leads_O N a0 = some r) {A1 : Option Addr} {n1 c1 : Nat} {A2 : Option Addr} {n2 c2 : Nat} : Okc Try.prog 31 [.agg #[.int .i64 a0.Kind, .int .i64 a0.Shape, .int .i64 a0.Flags, .int .i64 a0.Age, .slice A1 n1 c1, .slice A2 n2 c2]] ([slC rDValue (.slice A1 n1 c1) a0.Slots, slC rDValue (.slice A2 n2 c2) a0.More]) (fun (u : Value) (post : List Chunk) => ∃ A0 n0 c0, u = .slice A0 n0 c0 ∧ post = [ownC (rInt .i64) 3 (.slice A0 n0 c0) r]) := by
  refine ok_E Try.func31 rfl rfl ?_
  simp only [envOf]
  refine G_seq ?_
  refine G_region ?_
  refine G_opd (op_box rfl rfl) rfl rfl rfl ?_
  rintro _ _ ⟨B3, rfl, rfl⟩
  refine G_ev (ev_assign rfl) rfl rfl rfl ?_
  refine G_nil ?_
  refine nx_n ?_
  refine G_seq ?_
  refine G_region ?_
  refine G_ev (ev_assign rfl) rfl rfl rfl ?_
  refine G_nil ?_
  refine nx_n ?_
  refine G_joinF (fun s L => ∃ (p5 : (List Int)) (A5 : Option Addr) (n5 c5 : Nat), pantomimeref15_Leads_j4 N a0 p5 = some r ∧ s = [(1, .pointer (some ⟨B3, 0, none⟩)), (2, .slice none 0 0), (3, .slice A5 n5 c5)] ∧ L = [ownC (rInt .i64) 3 (.slice A5 n5 c5) p5, slC rDValue (.slice A1 n1 c1) a0.Slots, slC rDValue (.slice A2 n2 c2) a0.More, boxC B3 27 [.int .i64 a0.Kind, .int .i64 a0.Shape, .int .i64 a0.Flags, .int .i64 a0.Age, .slice A1 n1 c1, .slice A2 n2 c2]]) ?_ ?_
  · refine G_seq ?_
    refine G_region ?_
    refine G_ev (ev_assign rfl) rfl rfl rfl ?_
    refine G_nil ?_
    refine nx_n ?_
    refine G_block ?_
    refine G_loopF (fun m s L => ∃ (p7 : (List Int)) (p8 : Int) (A7 : Option Addr) (n7 c7 : Nat), pantomimeref15_Leads_l6 N a0 m p7 p8 = some r ∧ s = [(1, .pointer (some ⟨B3, 0, none⟩)), (2, .slice none 0 0), (3, .slice A7 n7 c7), (4, .int .i64 p8)] ∧ L = [ownC (rInt .i64) 3 (.slice A7 n7 c7) p7, slC rDValue (.slice A1 n1 c1) a0.Slots, slC rDValue (.slice A2 n2 c2) a0.More, boxC B3 27 [.int .i64 a0.Kind, .int .i64 a0.Shape, .int .i64 a0.Flags, .int .i64 a0.Age, .slice A1 n1 c1, .slice A2 n2 c2]]) N _ _ ⟨[], 0, none, 0, 0, h, rfl, rfl⟩ (sub_cons rfl (sub_cons rfl (sub_cons rfl (sub_cons rfl sub_nil)))) ((cv_nil (rInt .i64) 3 _).trans (cv_sel [0, 2, 3, 1] 4 rfl rfl)) ?_
    rintro (_ | m6) _ _ ⟨p7, p8, A7, n7, c7, h, rfl, rfl⟩
    · exact none_some h
    rw [pantomimeref15_Leads_l6_s] at h
    refine G_seq ?_
    refine G_seq ?_
    refine G_region ?_
    refine G_ev (ev_move rfl) rfl rfl rfl ?_
    refine G_ev (ev_fa rfl fa_27_4) rfl rfl rfl ?_
    refine G_rd (rd_box1 3 rfl rfl one25 rfl) rfl rfl rfl ?_
    refine G_rd (rd_len 1 rfl els_sl rfl Try.underlying25) rfl rfl rfl ?_
    refine G_ev (ev_lt rfl rfl) rfl rfl rfl ?_
    refine G_nil ?_
    refine nx_n ?_
    refine G_cond rfl (fun g10 => ?_) (fun g10 => ?_)
    · replace h := cond_t g10 h
      refine G_skip ?_
      refine nx_n ?_
      refine G_joinF (fun s L => ∃ (p12 : (List Int)) (A12 : Option Addr) (n12 c12 : Nat), pantomimeref15_Leads_j11 N (pantomimeref15_Leads_l6 N a0 m6) p8 a0 p12 = some r ∧ s = [(1, .pointer (some ⟨B3, 0, none⟩)), (2, .slice none 0 0), (3, .slice A12 n12 c12), (4, .int .i64 p8)] ∧ L = [ownC (rInt .i64) 3 (.slice A12 n12 c12) p12, slC rDValue (.slice A1 n1 c1) a0.Slots, slC rDValue (.slice A2 n2 c2) a0.More, boxC B3 27 [.int .i64 a0.Kind, .int .i64 a0.Shape, .int .i64 a0.Flags, .int .i64 a0.Age, .slice A1 n1 c1, .slice A2 n2 c2]]) ?_ ?_
      · refine G_block ?_
        refine G_seq ?_
        refine G_region ?_
        refine G_ev (ev_fa rfl fa_27_4) rfl rfl rfl ?_
        refine G_rd (rd_box1 3 rfl rfl one25 rfl) rfl rfl rfl ?_
        refine G_ev (ev_move rfl) rfl rfl rfl ?_
        obtain ⟨x13, hx13, h⟩ := bind_elim h
        obtain ⟨lx13, ux13, hx13⟩ := getE_elim hx13
        refine G_rd (rd_idx 1 rfl els_sl rfl rfl Try.underlying25 size63 lx13 ux13) rfl rfl rfl ?_
        refine G_rd (rd_elemS (us := [.int .i64 x13.Kind, .int .i64 x13.N, .string x13.S]) 1 rfl els_sl rfl hx13 agg63 (fun _ _ _ h => by rw [show _ = _ from h]; rfl)) rfl rfl rfl ?_
        obtain ⟨y14, hy14, h⟩ := bind_elim h
        refine G_opd (op_callR (pantomimeref15_has_ok hy14) call42 rfl (mem_nil) pantomimeref15_has_free) rfl rfl rfl ?_
        rintro _ _ ⟨_, ⟨rfl, rfl⟩, rfl⟩
        refine G_nil ?_
        refine nx_n ?_
        refine G_cond rfl (fun g15 => ?_) (fun g15 => ?_)
        · replace h := cond_t g15 h
          refine G_region ?_
          refine G_ev (ev_move rfl) rfl rfl rfl ?_
          refine G_ev (ev_fa rfl fa_27_4) rfl rfl rfl ?_
          refine G_rd (rd_box1 3 rfl rfl one25 rfl) rfl rfl rfl ?_
          refine G_ev (ev_move rfl) rfl rfl rfl ?_
          obtain ⟨x16, hx16, h⟩ := bind_elim h
          obtain ⟨lx16, ux16, hx16⟩ := getE_elim hx16
          refine G_rd (rd_idx 1 rfl els_sl rfl rfl Try.underlying25 size63 lx16 ux16) rfl rfl rfl ?_
          refine G_rd (rd_fa 1 rfl els_sl rfl (toNat_lt lx16 ux16) fa_63_1) rfl rfl rfl ?_
          refine G_rd (rd_elem1 (u := .int .i64 x16.N) 1 rfl els_sl rfl hx16 one3 (fun _ _ _ h => by rw [show _ = _ from h]; rfl)) rfl rfl rfl ?_
          refine G_opd (op_bslice (R := (rInt .i64)) (vss := [[.int .i64 x16.N]]) (xs := [x16.N]) rfl (bsl_35_1 _) rfl rfl (fun _ _ hr => .cons rfl All2.nil)) rfl rfl rfl ?_
          rintro _ _ ⟨A17, n17, c17, rfl, rfl⟩
          obtain ⟨q18, h⟩ := req_elim h
          refine G_opd (op_append 1 0 rfl rfl els_own rfl rfl Try.underlying35 zb3 rfl rfl q18) rfl rfl rfl ?_
          rintro _ _ ⟨A19, n19, c19, rfl, rfl⟩
          refine G_norm ([ownC (rInt .i64) 3 (.slice A17 n17 c17) ([x16.N] : List Int), ownC (rInt .i64) 3 (.slice A19 n19 c19) (p7 ++ ([x16.N] : List Int)), slC rDValue (.slice A1 n1 c1) a0.Slots, slC rDValue (.slice A2 n2 c2) a0.More, boxC B3 27 [.int .i64 a0.Kind, .int .i64 a0.Shape, .int .i64 a0.Flags, .int .i64 a0.Age, .slice A1 n1 c1, .slice A2 n2 c2]]) rfl ?_
          refine G_ev (ev_assign rfl) rfl rfl rfl ?_
          refine G_nil ?_
          refine bk_n ?_
          refine nx_n ?_
          exact ⟨_, _, ⟨p7 ++ ([x16.N] : List Int), A19, n19, c19, h, rfl, rfl⟩, sub_cons rfl (sub_cons rfl (sub_cons rfl (sub_cons rfl sub_nil))), cv_sel [1, 2, 3, 4] 5 rfl rfl⟩
        · replace h := cond_f g15 h
          refine G_skip ?_
          refine bk_n ?_
          refine nx_n ?_
          exact ⟨_, _, ⟨p7, A7, n7, c7, h, rfl, rfl⟩, sub_cons rfl (sub_cons rfl (sub_cons rfl (sub_cons rfl sub_nil))), cv_sel [0, 1, 2, 3] 4 rfl rfl⟩
      · rintro _ _ ⟨p12, A12, n12, c12, h, rfl, rfl⟩
        refine G_region ?_
        refine G_ev (ev_move rfl) rfl rfl rfl ?_
        obtain ⟨q20, h⟩ := req_elim h
        refine G_ev (ev_add rfl rfl q20.1 q20.2) rfl rfl rfl ?_
        refine G_ev (ev_assign rfl) rfl rfl rfl ?_
        refine G_nil ?_
        refine nx_n ?_
        exact ⟨m6, _, _, Nat.lt_succ_self _, ⟨p12, p8 + 1, A12, n12, c12, h, rfl, rfl⟩, sub_cons rfl (sub_cons rfl (sub_cons rfl (sub_cons rfl sub_nil))), cv_sel [0, 1, 2, 3] 4 rfl rfl⟩
    · replace h := cond_f g10 h
      refine G_exit ?_
      refine nx_e ?_
      refine nx_e ?_
      refine bk_x ?_
      refine nx_n ?_
      exact ⟨_, _, ⟨p7, A7, n7, c7, h, rfl, rfl⟩, sub_cons rfl (sub_cons rfl (sub_cons rfl sub_nil)), cv_sel [0, 1, 2, 3] 4 rfl rfl⟩
  · rintro _ _ ⟨p5, A5, n5, c5, h, rfl, rfl⟩
    refine G_joinF (fun s L => ∃ (p22 : (List Int)) (A22 : Option Addr) (n22 c22 : Nat), pantomimeref15_Leads_j21 N p22 = some r ∧ s = [(2, .slice none 0 0), (3, .slice A22 n22 c22)] ∧ L = [ownC (rInt .i64) 3 (.slice A22 n22 c22) p22]) ?_ ?_
    · refine G_seq ?_
      refine G_region ?_
      refine G_ev (ev_assign rfl) rfl rfl rfl ?_
      refine G_nil ?_
      refine nx_n ?_
      refine G_block ?_
      refine G_loopF (fun m s L => ∃ (p24 : (List Int)) (p25 : Int) (A24 : Option Addr) (n24 c24 : Nat), pantomimeref15_Leads_l23 N a0 m p24 p25 = some r ∧ s = [(1, .pointer (some ⟨B3, 0, none⟩)), (2, .slice none 0 0), (3, .slice A24 n24 c24), (5, .int .i64 p25)] ∧ L = [ownC (rInt .i64) 3 (.slice A24 n24 c24) p24, slC rDValue (.slice A1 n1 c1) a0.Slots, slC rDValue (.slice A2 n2 c2) a0.More, boxC B3 27 [.int .i64 a0.Kind, .int .i64 a0.Shape, .int .i64 a0.Flags, .int .i64 a0.Age, .slice A1 n1 c1, .slice A2 n2 c2]]) N _ _ ⟨p5, 0, A5, n5, c5, h, rfl, rfl⟩ (sub_cons rfl (sub_cons rfl (sub_cons rfl (sub_cons rfl sub_nil)))) (cv_sel [0, 1, 2, 3] 4 rfl rfl) ?_
      rintro (_ | m23) _ _ ⟨p24, p25, A24, n24, c24, h, rfl, rfl⟩
      · exact none_some h
      rw [pantomimeref15_Leads_l23_s] at h
      refine G_seq ?_
      refine G_seq ?_
      refine G_region ?_
      refine G_ev (ev_move rfl) rfl rfl rfl ?_
      refine G_ev (ev_fa rfl fa_27_5) rfl rfl rfl ?_
      refine G_rd (rd_box1 3 rfl rfl one25 rfl) rfl rfl rfl ?_
      refine G_rd (rd_len 2 rfl els_sl rfl Try.underlying25) rfl rfl rfl ?_
      refine G_ev (ev_lt rfl rfl) rfl rfl rfl ?_
      refine G_nil ?_
      refine nx_n ?_
      refine G_cond rfl (fun g26 => ?_) (fun g26 => ?_)
      · replace h := cond_t g26 h
        refine G_skip ?_
        refine nx_n ?_
        refine G_joinF (fun s L => ∃ (p28 : (List Int)) (A28 : Option Addr) (n28 c28 : Nat), pantomimeref15_Leads_j27 N (pantomimeref15_Leads_l23 N a0 m23) p25 a0 p28 = some r ∧ s = [(1, .pointer (some ⟨B3, 0, none⟩)), (2, .slice none 0 0), (3, .slice A28 n28 c28), (5, .int .i64 p25)] ∧ L = [ownC (rInt .i64) 3 (.slice A28 n28 c28) p28, slC rDValue (.slice A1 n1 c1) a0.Slots, slC rDValue (.slice A2 n2 c2) a0.More, boxC B3 27 [.int .i64 a0.Kind, .int .i64 a0.Shape, .int .i64 a0.Flags, .int .i64 a0.Age, .slice A1 n1 c1, .slice A2 n2 c2]]) ?_ ?_
        · refine G_block ?_
          refine G_seq ?_
          refine G_region ?_
          refine G_ev (ev_fa rfl fa_27_5) rfl rfl rfl ?_
          refine G_rd (rd_box1 3 rfl rfl one25 rfl) rfl rfl rfl ?_
          refine G_ev (ev_move rfl) rfl rfl rfl ?_
          obtain ⟨x29, hx29, h⟩ := bind_elim h
          obtain ⟨lx29, ux29, hx29⟩ := getE_elim hx29
          refine G_rd (rd_idx 2 rfl els_sl rfl rfl Try.underlying25 size63 lx29 ux29) rfl rfl rfl ?_
          refine G_rd (rd_elemS (us := [.int .i64 x29.Kind, .int .i64 x29.N, .string x29.S]) 2 rfl els_sl rfl hx29 agg63 (fun _ _ _ h => by rw [show _ = _ from h]; rfl)) rfl rfl rfl ?_
          obtain ⟨y30, hy30, h⟩ := bind_elim h
          refine G_opd (op_callR (pantomimeref15_has_ok hy30) call42 rfl (mem_nil) pantomimeref15_has_free) rfl rfl rfl ?_
          rintro _ _ ⟨_, ⟨rfl, rfl⟩, rfl⟩
          refine G_ev (ev_move rfl) rfl rfl rfl ?_
          obtain ⟨b31, hb31, h⟩ := bind_elim h
          refine G_segb 6 47 b31 ?_ ?_
          · clear h
            refine G_case 41 rfl (fun g31 => ?_) (fun g31 => ?_)
            · have h := cond_t g31 hb31
              refine G_ev (ev_fa0 rfl fa_27_0) rfl (g_tt g31 rfl) rfl ?_
              refine G_rd (rd_box1 3 rfl rfl one3 rfl) rfl (g_tt g31 rfl) rfl ?_
              refine G_ev (ev_move rfl) rfl (g_tt g31 rfl) rfl ?_
              obtain ⟨y32, hy32, h⟩ := bind_elim h
              refine G_opd (op_callR (pantomimeref15_weak_ok hy32) call43 rfl (mem_nil) pantomimeref15_weak_free) rfl (g_tt g31 rfl) rfl ?_
              rintro _ _ ⟨_, ⟨rfl, rfl⟩, rfl⟩
              refine G_ev (ev_not rfl) rfl (g_tt g31 rfl) rfl ?_
              refine G_ev (ev_pick_t' g31 rfl rfl) rfl rfl rfl ?_
              obtain rfl := Option.some.inj h
              exact G_joined (sub_cons rfl (sub_skip (sub_skip (sub_skip (sub_skip (sub_skip (sub_skip sub_refl rfl) rfl) rfl) rfl) rfl) rfl)) (cv_sel [0, 1, 2, 3] 4 rfl rfl)
            · have h := cond_f g31 hb31
              refine G_no (g_tf g31 rfl) rfl ?_
              refine G_no (g_tf g31 rfl) rfl ?_
              refine G_no (g_tf g31 rfl) rfl ?_
              refine G_no (g_tf g31 rfl) rfl ?_
              refine G_no (g_tf g31 rfl) rfl ?_
              refine G_ev (ev_pick_f' g31 rfl rfl) rfl rfl rfl ?_
              obtain rfl := Option.some.inj h
              exact G_joined (sub_cons rfl (sub_skip (sub_skip (sub_skip (sub_skip (sub_skip (sub_skip sub_refl rfl) rfl) rfl) rfl) rfl) rfl)) (cv_sel [0, 1, 2, 3] 4 rfl rfl)
          refine G_nil ?_
          refine nx_n ?_
          refine G_cond rfl (fun g33 => ?_) (fun g33 => ?_)
          · replace h := cond_t g33 h
            refine G_region ?_
            refine G_ev (ev_move rfl) rfl rfl rfl ?_
            refine G_ev (ev_fa rfl fa_27_5) rfl rfl rfl ?_
            refine G_rd (rd_box1 3 rfl rfl one25 rfl) rfl rfl rfl ?_
            refine G_ev (ev_move rfl) rfl rfl rfl ?_
            obtain ⟨x34, hx34, h⟩ := bind_elim h
            obtain ⟨lx34, ux34, hx34⟩ := getE_elim hx34
            refine G_rd (rd_idx 2 rfl els_sl rfl rfl Try.underlying25 size63 lx34 ux34) rfl rfl rfl ?_
            refine G_rd (rd_fa 2 rfl els_sl rfl (toNat_lt lx34 ux34) fa_63_1) rfl rfl rfl ?_
            refine G_rd (rd_elem1 (u := .int .i64 x34.N) 2 rfl els_sl rfl hx34 one3 (fun _ _ _ h => by rw [show _ = _ from h]; rfl)) rfl rfl rfl ?_
            refine G_opd (op_bslice (R := (rInt .i64)) (vss := [[.int .i64 x34.N]]) (xs := [x34.N]) rfl (bsl_35_1 _) rfl rfl (fun _ _ hr => .cons rfl All2.nil)) rfl rfl rfl ?_
            rintro _ _ ⟨A35, n35, c35, rfl, rfl⟩
            obtain ⟨q36, h⟩ := req_elim h
            refine G_opd (op_append 1 0 rfl rfl els_own rfl rfl Try.underlying35 zb3 rfl rfl q36) rfl rfl rfl ?_
            rintro _ _ ⟨A37, n37, c37, rfl, rfl⟩
            refine G_norm ([ownC (rInt .i64) 3 (.slice A35 n35 c35) ([x34.N] : List Int), ownC (rInt .i64) 3 (.slice A37 n37 c37) (p24 ++ ([x34.N] : List Int)), slC rDValue (.slice A1 n1 c1) a0.Slots, slC rDValue (.slice A2 n2 c2) a0.More, boxC B3 27 [.int .i64 a0.Kind, .int .i64 a0.Shape, .int .i64 a0.Flags, .int .i64 a0.Age, .slice A1 n1 c1, .slice A2 n2 c2]]) rfl ?_
            refine G_ev (ev_assign rfl) rfl rfl rfl ?_
            refine G_nil ?_
            refine bk_n ?_
            refine nx_n ?_
            exact ⟨_, _, ⟨p24 ++ ([x34.N] : List Int), A37, n37, c37, h, rfl, rfl⟩, sub_cons rfl (sub_cons rfl (sub_cons rfl (sub_cons rfl sub_nil))), cv_sel [1, 2, 3, 4] 5 rfl rfl⟩
          · replace h := cond_f g33 h
            refine G_skip ?_
            refine bk_n ?_
            refine nx_n ?_
            exact ⟨_, _, ⟨p24, A24, n24, c24, h, rfl, rfl⟩, sub_cons rfl (sub_cons rfl (sub_cons rfl (sub_cons rfl sub_nil))), cv_sel [0, 1, 2, 3] 4 rfl rfl⟩
        · rintro _ _ ⟨p28, A28, n28, c28, h, rfl, rfl⟩
          refine G_region ?_
          refine G_ev (ev_move rfl) rfl rfl rfl ?_
          obtain ⟨q38, h⟩ := req_elim h
          refine G_ev (ev_add rfl rfl q38.1 q38.2) rfl rfl rfl ?_
          refine G_ev (ev_assign rfl) rfl rfl rfl ?_
          refine G_nil ?_
          refine nx_n ?_
          exact ⟨m23, _, _, Nat.lt_succ_self _, ⟨p28, p25 + 1, A28, n28, c28, h, rfl, rfl⟩, sub_cons rfl (sub_cons rfl (sub_cons rfl (sub_cons rfl sub_nil))), cv_sel [0, 1, 2, 3] 4 rfl rfl⟩
      · replace h := cond_f g26 h
        refine G_exit ?_
        refine nx_e ?_
        refine nx_e ?_
        refine bk_x ?_
        refine nx_n ?_
        exact ⟨_, _, ⟨p24, A24, n24, c24, h, rfl, rfl⟩, sub_cons rfl (sub_cons rfl sub_nil), cv_sel [0] 4 rfl rfl⟩
    · rintro _ _ ⟨p22, A22, n22, c22, h, rfl, rfl⟩
      refine G_seq ?_
      refine G_region ?_
      refine G_ev (ev_move rfl) rfl rfl rfl ?_
      refine G_ev (ev_assign rfl) rfl rfl rfl ?_
      refine G_nil ?_
      refine nx_n ?_
      refine G_ret ?_
      obtain rfl := Option.some.inj h
      exact endG1 rfl rfl (cv_sel [0] 1 rfl rfl) ⟨_, _, _, rfl, rfl⟩
theorem pantomimeref15_Leads_free {r : (List Int)} : ∀ v post, ((fun (u : Value) (post : List Chunk) => ∃ A0 n0 c0, u = .slice A0 n0 c0 ∧ post = [ownC (rInt .i64) 3 (.slice A0 n0 c0) r])) v post → ∀ c ∈ post, Free c := by
  rintro _ _ ⟨_, _, _, rfl, rfl⟩; exact mem_cons free_own (mem_nil)
/-! pantomime/pantomimeref15.Weakly -/
def pantomimeref15_Weakly_j4 (N : Nat) (p5 : (List Int)) : Option (List Int) :=
  some p5
def pantomimeref15_Weakly_j11 (N : Nat) (kb6 : (List Int) → Int → Option (List Int)) (p8 : Int) (a0 : DCell) (p12 : (List Int)) : Option (List Int) :=
  req (in64 (p8 + 1)) (kb6 p12 (p8 + 1))
def pantomimeref15_Weakly_l6 (N : Nat) (a0 : DCell) : Nat → (List Int) → Int → Option (List Int)
  | 0, _, _ => none
  | m6 + 1, p7, p8 => bif decide (p8 < (a0.More.length : Int)) then ((getE a0.More p8).bind fun x13 => (pantomimeref15_has_O N x13).bind fun y14 => (bif y14 then ((pantomimeref15_weak_O N a0.Kind p8).bind fun y16 => some y16) else (some false)).bind fun b15 => bif b15 then ((getE a0.More p8).bind fun x18 => req (fitsL (p7.length + ([x18.N] : List Int).length)) (pantomimeref15_Weakly_j11 N (pantomimeref15_Weakly_l6 N a0 m6) p8 a0 (p7 ++ ([x18.N] : List Int)))) else (pantomimeref15_Weakly_j11 N (pantomimeref15_Weakly_l6 N a0 m6) p8 a0 p7)) else (pantomimeref15_Weakly_j4 N p7)
theorem pantomimeref15_Weakly_l6_s {N m6 : Nat} {a0 : DCell} {p7 : (List Int)} {p8 : Int} : pantomimeref15_Weakly_l6 N a0 (m6 + 1) p7 p8 = bif decide (p8 < (a0.More.length : Int)) then ((getE a0.More p8).bind fun x13 => (pantomimeref15_has_O N x13).bind fun y14 => (bif y14 then ((pantomimeref15_weak_O N a0.Kind p8).bind fun y16 => some y16) else (some false)).bind fun b15 => bif b15 then ((getE a0.More p8).bind fun x18 => req (fitsL (p7.length + ([x18.N] : List Int).length)) (pantomimeref15_Weakly_j11 N (pantomimeref15_Weakly_l6 N a0 m6) p8 a0 (p7 ++ ([x18.N] : List Int)))) else (pantomimeref15_Weakly_j11 N (pantomimeref15_Weakly_l6 N a0 m6) p8 a0 p7)) else (pantomimeref15_Weakly_j4 N p7) := rfl
def pantomimeref15_Weakly_O (N : Nat) (a0 : DCell) : Option (List Int) :=
  pantomimeref15_Weakly_l6 N a0 N [] 0
theorem pantomimeref15_Weakly_ok {N : Nat} {a0 : DCell} {r : (List Int)} (h : pantomimeref15_Weakly_O N a0 = some r) {A1 : Option Addr} {n1 c1 : Nat} {A2 : Option Addr} {n2 c2 : Nat} : Okc Try.prog 32 [.agg #[.int .i64 a0.Kind, .int .i64 a0.Shape, .int .i64 a0.Flags, .int .i64 a0.Age, .slice A1 n1 c1, .slice A2 n2 c2]] ([slC rDValue (.slice A1 n1 c1) a0.Slots, slC rDValue (.slice A2 n2 c2) a0.More]) (fun (u : Value) (post : List Chunk) => ∃ A0 n0 c0, u = .slice A0 n0 c0 ∧ post = [ownC (rInt .i64) 3 (.slice A0 n0 c0) r]) := by
  refine ok_E Try.func32 rfl rfl ?_
  simp only [envOf]
  refine G_seq ?_
  refine G_region ?_
  refine G_opd (op_box rfl rfl) rfl rfl rfl ?_
  rintro _ _ ⟨B3, rfl, rfl⟩
  refine G_ev (ev_assign rfl) rfl rfl rfl ?_
  refine G_nil ?_
  refine nx_n ?_
  refine G_seq ?_
  refine G_region ?_
  refine G_ev (ev_assign rfl) rfl rfl rfl ?_
  refine G_nil ?_
  refine nx_n ?_
  refine G_joinF (fun s L => ∃ (p5 : (List Int)) (A5 : Option Addr) (n5 c5 : Nat), pantomimeref15_Weakly_j4 N p5 = some r ∧ s = [(2, .slice none 0 0), (3, .slice A5 n5 c5)] ∧ L = [ownC (rInt .i64) 3 (.slice A5 n5 c5) p5]) ?_ ?_
  · refine G_seq ?_
    refine G_region ?_
    refine G_ev (ev_assign rfl) rfl rfl rfl ?_
    refine G_nil ?_
    refine nx_n ?_
    refine G_block ?_
    refine G_loopF (fun m s L => ∃ (p7 : (List Int)) (p8 : Int) (A7 : Option Addr) (n7 c7 : Nat), pantomimeref15_Weakly_l6 N a0 m p7 p8 = some r ∧ s = [(1, .pointer (some ⟨B3, 0, none⟩)), (2, .slice none 0 0), (3, .slice A7 n7 c7), (4, .int .i64 p8)] ∧ L = [ownC (rInt .i64) 3 (.slice A7 n7 c7) p7, slC rDValue (.slice A1 n1 c1) a0.Slots, slC rDValue (.slice A2 n2 c2) a0.More, boxC B3 27 [.int .i64 a0.Kind, .int .i64 a0.Shape, .int .i64 a0.Flags, .int .i64 a0.Age, .slice A1 n1 c1, .slice A2 n2 c2]]) N _ _ ⟨[], 0, none, 0, 0, h, rfl, rfl⟩ (sub_cons rfl (sub_cons rfl (sub_cons rfl (sub_cons rfl sub_nil)))) ((cv_nil (rInt .i64) 3 _).trans (cv_sel [0, 2, 3, 1] 4 rfl rfl)) ?_
    rintro (_ | m6) _ _ ⟨p7, p8, A7, n7, c7, h, rfl, rfl⟩
    · exact none_some h
    rw [pantomimeref15_Weakly_l6_s] at h
    refine G_seq ?_
    refine G_seq ?_
    refine G_region ?_
    refine G_ev (ev_move rfl) rfl rfl rfl ?_
    refine G_ev (ev_fa rfl fa_27_5) rfl rfl rfl ?_
    refine G_rd (rd_box1 3 rfl rfl one25 rfl) rfl rfl rfl ?_
    refine G_rd (rd_len 2 rfl els_sl rfl Try.underlying25) rfl rfl rfl ?_
    refine G_ev (ev_lt rfl rfl) rfl rfl rfl ?_
    refine G_nil ?_
    refine nx_n ?_
    refine G_cond rfl (fun g10 => ?_) (fun g10 => ?_)
    · replace h := cond_t g10 h
      refine G_skip ?_
      refine nx_n ?_
      refine G_joinF (fun s L => ∃ (p12 : (List Int)) (A12 : Option Addr) (n12 c12 : Nat), pantomimeref15_Weakly_j11 N (pantomimeref15_Weakly_l6 N a0 m6) p8 a0 p12 = some r ∧ s = [(1, .pointer (some ⟨B3, 0, none⟩)), (2, .slice none 0 0), (3, .slice A12 n12 c12), (4, .int .i64 p8)] ∧ L = [ownC (rInt .i64) 3 (.slice A12 n12 c12) p12, slC rDValue (.slice A1 n1 c1) a0.Slots, slC rDValue (.slice A2 n2 c2) a0.More, boxC B3 27 [.int .i64 a0.Kind, .int .i64 a0.Shape, .int .i64 a0.Flags, .int .i64 a0.Age, .slice A1 n1 c1, .slice A2 n2 c2]]) ?_ ?_
      · refine G_block ?_
        refine G_seq ?_
        refine G_region ?_
        refine G_ev (ev_fa rfl fa_27_5) rfl rfl rfl ?_
        refine G_rd (rd_box1 3 rfl rfl one25 rfl) rfl rfl rfl ?_
        refine G_ev (ev_move rfl) rfl rfl rfl ?_
        obtain ⟨x13, hx13, h⟩ := bind_elim h
        obtain ⟨lx13, ux13, hx13⟩ := getE_elim hx13
        refine G_rd (rd_idx 2 rfl els_sl rfl rfl Try.underlying25 size63 lx13 ux13) rfl rfl rfl ?_
        refine G_rd (rd_elemS (us := [.int .i64 x13.Kind, .int .i64 x13.N, .string x13.S]) 2 rfl els_sl rfl hx13 agg63 (fun _ _ _ h => by rw [show _ = _ from h]; rfl)) rfl rfl rfl ?_
        obtain ⟨y14, hy14, h⟩ := bind_elim h
        refine G_opd (op_callR (pantomimeref15_has_ok hy14) call42 rfl (mem_nil) pantomimeref15_has_free) rfl rfl rfl ?_
        rintro _ _ ⟨_, ⟨rfl, rfl⟩, rfl⟩
        refine G_ev (ev_move rfl) rfl rfl rfl ?_
        obtain ⟨b15, hb15, h⟩ := bind_elim h
        refine G_segb 5 23 b15 ?_ ?_
        · clear h
          refine G_case 18 rfl (fun g15 => ?_) (fun g15 => ?_)
          · have h := cond_t g15 hb15
            refine G_ev (ev_fa0 rfl fa_27_0) rfl (g_tt g15 rfl) rfl ?_
            refine G_rd (rd_box1 3 rfl rfl one3 rfl) rfl (g_tt g15 rfl) rfl ?_
            refine G_ev (ev_move rfl) rfl (g_tt g15 rfl) rfl ?_
            obtain ⟨y16, hy16, h⟩ := bind_elim h
            refine G_opd (op_callR (pantomimeref15_weak_ok hy16) call43 rfl (mem_nil) pantomimeref15_weak_free) rfl (g_tt g15 rfl) rfl ?_
            rintro _ _ ⟨_, ⟨rfl, rfl⟩, rfl⟩
            refine G_ev (ev_pick_t' g15 rfl rfl) rfl rfl rfl ?_
            obtain rfl := Option.some.inj h
            exact G_joined (sub_cons rfl (sub_skip (sub_skip (sub_skip (sub_skip (sub_skip sub_refl rfl) rfl) rfl) rfl) rfl)) (cv_sel [0, 1, 2, 3] 4 rfl rfl)
          · have h := cond_f g15 hb15
            refine G_no (g_tf g15 rfl) rfl ?_
            refine G_no (g_tf g15 rfl) rfl ?_
            refine G_no (g_tf g15 rfl) rfl ?_
            refine G_no (g_tf g15 rfl) rfl ?_
            refine G_ev (ev_pick_f' g15 rfl rfl) rfl rfl rfl ?_
            obtain rfl := Option.some.inj h
            exact G_joined (sub_cons rfl (sub_skip (sub_skip (sub_skip (sub_skip (sub_skip sub_refl rfl) rfl) rfl) rfl) rfl)) (cv_sel [0, 1, 2, 3] 4 rfl rfl)
        refine G_nil ?_
        refine nx_n ?_
        refine G_cond rfl (fun g17 => ?_) (fun g17 => ?_)
        · replace h := cond_t g17 h
          refine G_region ?_
          refine G_ev (ev_move rfl) rfl rfl rfl ?_
          refine G_ev (ev_fa rfl fa_27_5) rfl rfl rfl ?_
          refine G_rd (rd_box1 3 rfl rfl one25 rfl) rfl rfl rfl ?_
          refine G_ev (ev_move rfl) rfl rfl rfl ?_
          obtain ⟨x18, hx18, h⟩ := bind_elim h
          obtain ⟨lx18, ux18, hx18⟩ := getE_elim hx18
          refine G_rd (rd_idx 2 rfl els_sl rfl rfl Try.underlying25 size63 lx18 ux18) rfl rfl rfl ?_
          refine G_rd (rd_fa 2 rfl els_sl rfl (toNat_lt lx18 ux18) fa_63_1) rfl rfl rfl ?_
          refine G_rd (rd_elem1 (u := .int .i64 x18.N) 2 rfl els_sl rfl hx18 one3 (fun _ _ _ h => by rw [show _ = _ from h]; rfl)) rfl rfl rfl ?_
          refine G_opd (op_bslice (R := (rInt .i64)) (vss := [[.int .i64 x18.N]]) (xs := [x18.N]) rfl (bsl_35_1 _) rfl rfl (fun _ _ hr => .cons rfl All2.nil)) rfl rfl rfl ?_
          rintro _ _ ⟨A19, n19, c19, rfl, rfl⟩
          obtain ⟨q20, h⟩ := req_elim h
          refine G_opd (op_append 1 0 rfl rfl els_own rfl rfl Try.underlying35 zb3 rfl rfl q20) rfl rfl rfl ?_
          rintro _ _ ⟨A21, n21, c21, rfl, rfl⟩
          refine G_norm ([ownC (rInt .i64) 3 (.slice A19 n19 c19) ([x18.N] : List Int), ownC (rInt .i64) 3 (.slice A21 n21 c21) (p7 ++ ([x18.N] : List Int)), slC rDValue (.slice A1 n1 c1) a0.Slots, slC rDValue (.slice A2 n2 c2) a0.More, boxC B3 27 [.int .i64 a0.Kind, .int .i64 a0.Shape, .int .i64 a0.Flags, .int .i64 a0.Age, .slice A1 n1 c1, .slice A2 n2 c2]]) rfl ?_
          refine G_ev (ev_assign rfl) rfl rfl rfl ?_
          refine G_nil ?_
          refine bk_n ?_
          refine nx_n ?_
          exact ⟨_, _, ⟨p7 ++ ([x18.N] : List Int), A21, n21, c21, h, rfl, rfl⟩, sub_cons rfl (sub_cons rfl (sub_cons rfl (sub_cons rfl sub_nil))), cv_sel [1, 2, 3, 4] 5 rfl rfl⟩
        · replace h := cond_f g17 h
          refine G_skip ?_
          refine bk_n ?_
          refine nx_n ?_
          exact ⟨_, _, ⟨p7, A7, n7, c7, h, rfl, rfl⟩, sub_cons rfl (sub_cons rfl (sub_cons rfl (sub_cons rfl sub_nil))), cv_sel [0, 1, 2, 3] 4 rfl rfl⟩
      · rintro _ _ ⟨p12, A12, n12, c12, h, rfl, rfl⟩
        refine G_region ?_
        refine G_ev (ev_move rfl) rfl rfl rfl ?_
        obtain ⟨q22, h⟩ := req_elim h
        refine G_ev (ev_add rfl rfl q22.1 q22.2) rfl rfl rfl ?_
        refine G_ev (ev_assign rfl) rfl rfl rfl ?_
        refine G_nil ?_
        refine nx_n ?_
        exact ⟨m6, _, _, Nat.lt_succ_self _, ⟨p12, p8 + 1, A12, n12, c12, h, rfl, rfl⟩, sub_cons rfl (sub_cons rfl (sub_cons rfl (sub_cons rfl sub_nil))), cv_sel [0, 1, 2, 3] 4 rfl rfl⟩
    · replace h := cond_f g10 h
      refine G_exit ?_
      refine nx_e ?_
      refine nx_e ?_
      refine bk_x ?_
      refine nx_n ?_
      exact ⟨_, _, ⟨p7, A7, n7, c7, h, rfl, rfl⟩, sub_cons rfl (sub_cons rfl sub_nil), cv_sel [0] 4 rfl rfl⟩
  · rintro _ _ ⟨p5, A5, n5, c5, h, rfl, rfl⟩
    refine G_seq ?_
    refine G_region ?_
    refine G_ev (ev_move rfl) rfl rfl rfl ?_
    refine G_ev (ev_assign rfl) rfl rfl rfl ?_
    refine G_nil ?_
    refine nx_n ?_
    refine G_ret ?_
    obtain rfl := Option.some.inj h
    exact endG1 rfl rfl (cv_sel [0] 1 rfl rfl) ⟨_, _, _, rfl, rfl⟩
theorem pantomimeref15_Weakly_free {r : (List Int)} : ∀ v post, ((fun (u : Value) (post : List Chunk) => ∃ A0 n0 c0, u = .slice A0 n0 c0 ∧ post = [ownC (rInt .i64) 3 (.slice A0 n0 c0) r])) v post → ∀ c ∈ post, Free c := by
  rintro _ _ ⟨_, _, _, rfl, rfl⟩; exact mem_cons free_own (mem_nil)
/-! pantomime/pantomimeref21.Young -/
def pantomimeref21_Young_j15 (N : Nat) : Option Bool :=
  some false
def pantomimeref21_Young_l16 (N : Nat) (p5 : (List Int)) : Nat → Int → Option Bool
  | 0, _ => none
  | m16 + 1, p17 => bif decide (p17 < (p5.length : Int)) then ((getE p5 p17).bind fun x19 => (bif decide (0 < x19) then ((getE p5 p17).bind fun x21 => some (decide (x21.tmod 2 = 1))) else (some false)).bind fun b20 => bif b20 then (some true) else (req (in64 (p17 + 1)) ((pantomimeref21_Young_l16 N p5 m16) (p17 + 1)))) else (pantomimeref21_Young_j15 N)
theorem pantomimeref21_Young_l16_s {N m16 : Nat} {p5 : (List Int)} {p17 : Int} : pantomimeref21_Young_l16 N p5 (m16 + 1) p17 = bif decide (p17 < (p5.length : Int)) then ((getE p5 p17).bind fun x19 => (bif decide (0 < x19) then ((getE p5 p17).bind fun x21 => some (decide (x21.tmod 2 = 1))) else (some false)).bind fun b20 => bif b20 then (some true) else (req (in64 (p17 + 1)) ((pantomimeref21_Young_l16 N p5 m16) (p17 + 1)))) else (pantomimeref21_Young_j15 N) := rfl
def pantomimeref21_Young_j4 (N : Nat) (p5 : (List Int)) : Option Bool :=
  pantomimeref21_Young_l16 N p5 N 0
def pantomimeref21_Young_O (N : Nat) (a0 : DCell) : Option Bool :=
  (pantomimeref15_Leads_O N a0).bind fun y7 => req (fitsL (([] : List Int).length + y7.length)) ((pantomimeref15_Weakly_O N a0).bind fun y11 => req (fitsL ((([] : List Int) ++ y7).length + y11.length)) (pantomimeref21_Young_j4 N ((([] : List Int) ++ y7) ++ y11)))
theorem pantomimeref21_Young_ok {N : Nat} {a0 : DCell} {r : Bool} (h : pantomimeref21_Young_O N a0 = some r) {A1 : Option Addr} {n1 c1 : Nat} {A2 : Option Addr} {n2 c2 : Nat} : Okc Try.prog 23 [.agg #[.int .i64 a0.Kind, .int .i64 a0.Shape, .int .i64 a0.Flags, .int .i64 a0.Age, .slice A1 n1 c1, .slice A2 n2 c2]] ([slC rDValue (.slice A1 n1 c1) a0.Slots, slC rDValue (.slice A2 n2 c2) a0.More]) (fun (u : Value) (post : List Chunk) => u = .bool r ∧ post = []) := by
  refine ok_E Try.func23 rfl rfl ?_
  simp only [envOf]
  refine G_seq ?_
  refine G_region ?_
  refine G_opd (op_box rfl rfl) rfl rfl rfl ?_
  rintro _ _ ⟨B3, rfl, rfl⟩
  refine G_ev (ev_assign rfl) rfl rfl rfl ?_
  refine G_nil ?_
  refine nx_n ?_
  refine G_joinF (fun s L => ∃ (p5 : (List Int)) (A5 : Option Addr) (n5 c5 : Nat), pantomimeref21_Young_j4 N p5 = some r ∧ s = [(2, .bool false), (3, .slice A5 n5 c5)] ∧ L = [ownC (rInt .i64) 3 (.slice A5 n5 c5) p5]) ?_ ?_
  · refine G_drawn (by kernel_rfl) _ (cv_refl _) ?_
    refine T3_rd 1 rfl (by kernel_rfl) (rd_boxS (us := [.int .i64 a0.Kind, .int .i64 a0.Shape, .int .i64 a0.Flags, .int .i64 a0.Age, .slice A1 n1 c1, .slice A2 n2 c2]) 0 rfl rfl agg27 rfl) rfl rfl ?_
    refine T3_rd 4 rfl (by kernel_rfl) (rd_boxS (us := [.int .i64 a0.Kind, .int .i64 a0.Shape, .int .i64 a0.Flags, .int .i64 a0.Age, .slice A1 n1 c1, .slice A2 n2 c2]) 0 rfl rfl agg27 rfl) rfl rfl ?_
    refine T3_two 0 2 (by kernel_rfl) ?_ ?_
    · refine turn_opd rfl (op_bslice (R := (rInt .i64)) (vss := []) (xs := []) rfl (bsl_35_0) rfl rfl (fun _ _ hr => All2.nil)) rfl rfl rfl ?_
      rintro _ _ ⟨A6, n6, c6, rfl, rfl⟩
      refine ⟨[boxC B3 27 [.int .i64 a0.Kind, .int .i64 a0.Shape, .int .i64 a0.Flags, .int .i64 a0.Age, .slice A1 n1 c1, .slice A2 n2 c2], slC rDValue (.slice A1 n1 c1) a0.Slots, slC rDValue (.slice A2 n2 c2) a0.More], cv_sel [1, 2, 3] 4 rfl rfl, cv_refl _, ?_⟩
      obtain ⟨y7, hy7, h⟩ := bind_elim h
      refine T3_opd 2 rfl (by kernel_rfl) (op_callR (pantomimeref15_Leads_ok hy7) call31 rfl (mem_cons (lent_ro (i := 2) rfl rfl) (mem_cons (lent_ro (i := 3) rfl rfl) mem_nil)) pantomimeref15_Leads_free) rfl rfl rfl ?_
      rintro _ _ ⟨_, ⟨A8, n8, c8, rfl, rfl⟩, rfl⟩
      refine ⟨[boxC B3 27 [.int .i64 a0.Kind, .int .i64 a0.Shape, .int .i64 a0.Flags, .int .i64 a0.Age, .slice A1 n1 c1, .slice A2 n2 c2], slC rDValue (.slice A1 n1 c1) a0.Slots, slC rDValue (.slice A2 n2 c2) a0.More], cv_sel [2, 3, 4] 5 rfl rfl, cv_refl _, ?_⟩
      obtain ⟨q9, h⟩ := req_elim h
      refine T3_opd 3 rfl (by kernel_rfl) (op_append 1 0 rfl rfl els_own rfl rfl Try.underlying35 zb3 rfl rfl q9) rfl rfl rfl ?_
      rintro _ _ ⟨A10, n10, c10, rfl, rfl⟩
      refine ⟨[boxC B3 27 [.int .i64 a0.Kind, .int .i64 a0.Shape, .int .i64 a0.Flags, .int .i64 a0.Age, .slice A1 n1 c1, .slice A2 n2 c2], slC rDValue (.slice A1 n1 c1) a0.Slots, slC rDValue (.slice A2 n2 c2) a0.More], cv_sel [2, 3, 4] 5 rfl rfl, cv_refl _, ?_⟩
      refine T3_norm ([ownC (rInt .i64) 3 (.slice A8 n8 c8) y7, ownC (rInt .i64) 3 (.slice A10 n10 c10) (([] : List Int) ++ y7), boxC B3 27 [.int .i64 a0.Kind, .int .i64 a0.Shape, .int .i64 a0.Flags, .int .i64 a0.Age, .slice A1 n1 c1, .slice A2 n2 c2], slC rDValue (.slice A1 n1 c1) a0.Slots, slC rDValue (.slice A2 n2 c2) a0.More]) rfl ?_
      obtain ⟨y11, hy11, h⟩ := bind_elim h
      refine T3_opd 5 rfl (by kernel_rfl) (op_callR (pantomimeref15_Weakly_ok hy11) call32 rfl (mem_cons (lent_ro (i := 3) rfl rfl) (mem_cons (lent_ro (i := 4) rfl rfl) mem_nil)) pantomimeref15_Weakly_free) rfl rfl rfl ?_
      rintro _ _ ⟨_, ⟨A12, n12, c12, rfl, rfl⟩, rfl⟩
      refine ⟨[boxC B3 27 [.int .i64 a0.Kind, .int .i64 a0.Shape, .int .i64 a0.Flags, .int .i64 a0.Age, .slice A1 n1 c1, .slice A2 n2 c2], slC rDValue (.slice A1 n1 c1) a0.Slots, slC rDValue (.slice A2 n2 c2) a0.More], cv_sel [3, 4, 5] 6 rfl rfl, cv_refl _, ?_⟩
      obtain ⟨q13, h⟩ := req_elim h
      refine T3_opd 6 rfl (by kernel_rfl) (op_append 2 0 rfl rfl els_own rfl rfl Try.underlying35 zb3 rfl rfl q13) rfl rfl rfl ?_
      rintro _ _ ⟨A14, n14, c14, rfl, rfl⟩
      refine ⟨[boxC B3 27 [.int .i64 a0.Kind, .int .i64 a0.Shape, .int .i64 a0.Flags, .int .i64 a0.Age, .slice A1 n1 c1, .slice A2 n2 c2], slC rDValue (.slice A1 n1 c1) a0.Slots, slC rDValue (.slice A2 n2 c2) a0.More], cv_sel [3, 4, 5] 6 rfl rfl, cv_refl _, ?_⟩
      refine T3_norm ([ownC (rInt .i64) 3 (.slice A12 n12 c12) y11, ownC (rInt .i64) 3 (.slice A8 n8 c8) y7, ownC (rInt .i64) 3 (.slice A14 n14 c14) ((([] : List Int) ++ y7) ++ y11), boxC B3 27 [.int .i64 a0.Kind, .int .i64 a0.Shape, .int .i64 a0.Flags, .int .i64 a0.Age, .slice A1 n1 c1, .slice A2 n2 c2], slC rDValue (.slice A1 n1 c1) a0.Slots, slC rDValue (.slice A2 n2 c2) a0.More]) rfl ?_
      refine T3_ev 7 rfl (by kernel_rfl) (ev_assign rfl) rfl rfl ?_
      refine T3_done (by kernel_rfl) ?_
      refine nx_n ?_
      exact ⟨_, _, ⟨(([] : List Int) ++ y7) ++ y11, A14, n14, c14, h, rfl, rfl⟩, sub_cons rfl (sub_cons rfl sub_nil), cv_sel [2] 6 rfl rfl⟩
    · obtain ⟨y6, hy6, h⟩ := bind_elim h
      refine turn_opd rfl (op_callR (pantomimeref15_Leads_ok hy6) call31 rfl (mem_cons (lent_ro (i := 1) rfl rfl) (mem_cons (lent_ro (i := 2) rfl rfl) mem_nil)) pantomimeref15_Leads_free) rfl rfl rfl ?_
      rintro _ _ ⟨_, ⟨A7, n7, c7, rfl, rfl⟩, rfl⟩
      refine ⟨[boxC B3 27 [.int .i64 a0.Kind, .int .i64 a0.Shape, .int .i64 a0.Flags, .int .i64 a0.Age, .slice A1 n1 c1, .slice A2 n2 c2], slC rDValue (.slice A1 n1 c1) a0.Slots, slC rDValue (.slice A2 n2 c2) a0.More], cv_sel [1, 2, 3] 4 rfl rfl, cv_refl _, ?_⟩
      refine T3_opd 0 rfl (by kernel_rfl) (op_bslice (R := (rInt .i64)) (vss := []) (xs := []) rfl (bsl_35_0) rfl rfl (fun _ _ hr => All2.nil)) rfl rfl rfl ?_
      rintro _ _ ⟨A8, n8, c8, rfl, rfl⟩
      refine ⟨[boxC B3 27 [.int .i64 a0.Kind, .int .i64 a0.Shape, .int .i64 a0.Flags, .int .i64 a0.Age, .slice A1 n1 c1, .slice A2 n2 c2], slC rDValue (.slice A1 n1 c1) a0.Slots, slC rDValue (.slice A2 n2 c2) a0.More], cv_sel [2, 3, 4] 5 rfl rfl, cv_refl _, ?_⟩
      obtain ⟨q9, h⟩ := req_elim h
      refine T3_opd 3 rfl (by kernel_rfl) (op_append 0 1 rfl rfl els_own rfl rfl Try.underlying35 zb3 rfl rfl q9) rfl rfl rfl ?_
      rintro _ _ ⟨A10, n10, c10, rfl, rfl⟩
      refine ⟨[boxC B3 27 [.int .i64 a0.Kind, .int .i64 a0.Shape, .int .i64 a0.Flags, .int .i64 a0.Age, .slice A1 n1 c1, .slice A2 n2 c2], slC rDValue (.slice A1 n1 c1) a0.Slots, slC rDValue (.slice A2 n2 c2) a0.More], cv_sel [2, 3, 4] 5 rfl rfl, cv_refl _, ?_⟩
      refine T3_norm ([ownC (rInt .i64) 3 (.slice A10 n10 c10) (([] : List Int) ++ y6), ownC (rInt .i64) 3 (.slice A7 n7 c7) y6, boxC B3 27 [.int .i64 a0.Kind, .int .i64 a0.Shape, .int .i64 a0.Flags, .int .i64 a0.Age, .slice A1 n1 c1, .slice A2 n2 c2], slC rDValue (.slice A1 n1 c1) a0.Slots, slC rDValue (.slice A2 n2 c2) a0.More]) rfl ?_
      obtain ⟨y11, hy11, h⟩ := bind_elim h
      refine T3_opd 5 rfl (by kernel_rfl) (op_callR (pantomimeref15_Weakly_ok hy11) call32 rfl (mem_cons (lent_ro (i := 3) rfl rfl) (mem_cons (lent_ro (i := 4) rfl rfl) mem_nil)) pantomimeref15_Weakly_free) rfl rfl rfl ?_
      rintro _ _ ⟨_, ⟨A12, n12, c12, rfl, rfl⟩, rfl⟩
      refine ⟨[boxC B3 27 [.int .i64 a0.Kind, .int .i64 a0.Shape, .int .i64 a0.Flags, .int .i64 a0.Age, .slice A1 n1 c1, .slice A2 n2 c2], slC rDValue (.slice A1 n1 c1) a0.Slots, slC rDValue (.slice A2 n2 c2) a0.More], cv_sel [3, 4, 5] 6 rfl rfl, cv_refl _, ?_⟩
      obtain ⟨q13, h⟩ := req_elim h
      refine T3_opd 6 rfl (by kernel_rfl) (op_append 1 0 rfl rfl els_own rfl rfl Try.underlying35 zb3 rfl rfl q13) rfl rfl rfl ?_
      rintro _ _ ⟨A14, n14, c14, rfl, rfl⟩
      refine ⟨[boxC B3 27 [.int .i64 a0.Kind, .int .i64 a0.Shape, .int .i64 a0.Flags, .int .i64 a0.Age, .slice A1 n1 c1, .slice A2 n2 c2], slC rDValue (.slice A1 n1 c1) a0.Slots, slC rDValue (.slice A2 n2 c2) a0.More], cv_sel [3, 4, 5] 6 rfl rfl, cv_refl _, ?_⟩
      refine T3_norm ([ownC (rInt .i64) 3 (.slice A12 n12 c12) y11, ownC (rInt .i64) 3 (.slice A14 n14 c14) ((([] : List Int) ++ y6) ++ y11), ownC (rInt .i64) 3 (.slice A7 n7 c7) y6, boxC B3 27 [.int .i64 a0.Kind, .int .i64 a0.Shape, .int .i64 a0.Flags, .int .i64 a0.Age, .slice A1 n1 c1, .slice A2 n2 c2], slC rDValue (.slice A1 n1 c1) a0.Slots, slC rDValue (.slice A2 n2 c2) a0.More]) rfl ?_
      refine T3_ev 7 rfl (by kernel_rfl) (ev_assign rfl) rfl rfl ?_
      refine T3_done (by kernel_rfl) ?_
      refine nx_n ?_
      exact ⟨_, _, ⟨(([] : List Int) ++ y6) ++ y11, A14, n14, c14, h, rfl, rfl⟩, sub_cons rfl (sub_cons rfl sub_nil), cv_sel [1] 6 rfl rfl⟩
  · rintro _ _ ⟨p5, A5, n5, c5, h, rfl, rfl⟩
    refine G_joinF (fun s L => pantomimeref21_Young_j15 N = some r ∧ s = [(2, .bool false)] ∧ L = []) ?_ ?_
    · refine G_seq ?_
      refine G_region ?_
      refine G_ev (ev_assign rfl) rfl rfl rfl ?_
      refine G_nil ?_
      refine nx_n ?_
      refine G_block ?_
      refine G_loopF (fun m s L => ∃ (p17 : Int), pantomimeref21_Young_l16 N p5 m p17 = some r ∧ s = [(2, .bool false), (3, .slice A5 n5 c5), (4, .int .i64 p17)] ∧ L = [ownC (rInt .i64) 3 (.slice A5 n5 c5) p5]) N _ _ ⟨0, h, rfl, rfl⟩ (sub_cons rfl (sub_cons rfl (sub_cons rfl sub_nil))) (cv_sel [0] 1 rfl rfl) ?_
      rintro (_ | m16) _ _ ⟨p17, h, rfl, rfl⟩
      · exact none_some h
      rw [pantomimeref21_Young_l16_s] at h
      refine G_seq ?_
      refine G_seq ?_
      refine G_region ?_
      refine G_ev (ev_move rfl) rfl rfl rfl ?_
      refine G_ev (ev_move rfl) rfl rfl rfl ?_
      refine G_rd (rd_len 0 rfl els_own rfl Try.underlying35) rfl rfl rfl ?_
      refine G_ev (ev_lt rfl rfl) rfl rfl rfl ?_
      refine G_nil ?_
      refine nx_n ?_
      refine G_cond rfl (fun g18 => ?_) (fun g18 => ?_)
      · replace h := cond_t g18 h
        refine G_skip ?_
        refine nx_n ?_
        refine G_seq ?_
        refine G_block ?_
        refine G_seq ?_
        refine G_region ?_
        refine G_ev (ev_move rfl) rfl rfl rfl ?_
        refine G_ev (ev_move rfl) rfl rfl rfl ?_
        obtain ⟨x19, hx19, h⟩ := bind_elim h
        obtain ⟨lx19, ux19, hx19⟩ := getE_elim hx19
        refine G_rd (rd_idx 0 rfl els_own rfl rfl Try.underlying35 size3 lx19 ux19) rfl rfl rfl ?_
        refine G_rd (rd_elem1 (u := .int .i64 x19) 0 rfl els_own rfl hx19 one3 (fun _ _ _ h => by rw [show _ = _ from h]; rfl)) rfl rfl rfl ?_
        refine G_ev (ev_gt rfl rfl) rfl rfl rfl ?_
        refine G_ev (ev_move rfl) rfl rfl rfl ?_
        obtain ⟨b20, hb20, h⟩ := bind_elim h
        refine G_segb 7 30 b20 ?_ ?_
        · clear h
          refine G_case 23 rfl (fun g20 => ?_) (fun g20 => ?_)
          · have h := cond_t g20 hb20
            refine G_ev (ev_move rfl) rfl (g_tt g20 rfl) rfl ?_
            refine G_ev (ev_move rfl) rfl (g_tt g20 rfl) rfl ?_
            obtain ⟨x21, hx21, h⟩ := bind_elim h
            obtain ⟨lx21, ux21, hx21⟩ := getE_elim hx21
            refine G_rd (rd_idx 0 rfl els_own rfl rfl Try.underlying35 size3 lx21 ux21) rfl (g_tt g20 rfl) rfl ?_
            refine G_rd (rd_elem1 (u := .int .i64 x21) 0 rfl els_own rfl hx21 one3 (fun _ _ _ h => by rw [show _ = _ from h]; rfl)) rfl (g_tt g20 rfl) rfl ?_
            refine G_ev (ev_rem rfl rfl (by decide)) rfl (g_tt g20 rfl) rfl ?_
            refine G_ev (ev_eq rfl rfl) rfl (g_tt g20 rfl) rfl ?_
            refine G_ev (ev_pick_t' g20 rfl rfl) rfl rfl rfl ?_
            obtain rfl := Option.some.inj h
            exact G_joined (sub_cons rfl (sub_skip (sub_skip (sub_skip (sub_skip (sub_skip (sub_skip (sub_skip sub_refl rfl) rfl) rfl) rfl) rfl) rfl) rfl)) (cv_sel [0] 1 rfl rfl)
          · have h := cond_f g20 hb20
            refine G_no (g_tf g20 rfl) rfl ?_
            refine G_no (g_tf g20 rfl) rfl ?_
            refine G_no (g_tf g20 rfl) rfl ?_
            refine G_no (g_tf g20 rfl) rfl ?_
            refine G_no (g_tf g20 rfl) rfl ?_
            refine G_no (g_tf g20 rfl) rfl ?_
            refine G_ev (ev_pick_f' g20 rfl rfl) rfl rfl rfl ?_
            obtain rfl := Option.some.inj h
            exact G_joined (sub_cons rfl (sub_skip (sub_skip (sub_skip (sub_skip (sub_skip (sub_skip (sub_skip sub_refl rfl) rfl) rfl) rfl) rfl) rfl) rfl)) (cv_sel [0] 1 rfl rfl)
        refine G_nil ?_
        refine nx_n ?_
        refine G_cond rfl (fun g22 => ?_) (fun g22 => ?_)
        · replace h := cond_t g22 h
          refine G_seq ?_
          refine G_region ?_
          refine G_ev (ev_assign rfl) rfl rfl rfl ?_
          refine G_nil ?_
          refine nx_n ?_
          refine G_ret ?_
          refine bk_r ?_
          refine nx_r ?_
          refine nx_r ?_
          refine bk_r ?_
          refine nx_r ?_
          obtain rfl := Option.some.inj h
          exact endG1 rfl rfl (cv_sel [] 1 rfl rfl) ⟨rfl, rfl⟩
        · replace h := cond_f g22 h
          refine G_skip ?_
          refine bk_n ?_
          refine nx_n ?_
          refine G_region ?_
          refine G_ev (ev_move rfl) rfl rfl rfl ?_
          obtain ⟨q23, h⟩ := req_elim h
          refine G_ev (ev_add rfl rfl q23.1 q23.2) rfl rfl rfl ?_
          refine G_ev (ev_assign rfl) rfl rfl rfl ?_
          refine G_nil ?_
          refine nx_n ?_
          exact ⟨m16, _, _, Nat.lt_succ_self _, ⟨p17 + 1, h, rfl, rfl⟩, sub_cons rfl (sub_cons rfl (sub_cons rfl sub_nil)), cv_sel [0] 1 rfl rfl⟩
      · replace h := cond_f g18 h
        refine G_exit ?_
        refine nx_e ?_
        refine nx_e ?_
        refine bk_x ?_
        refine nx_n ?_
        exact ⟨_, _, ⟨h, rfl, rfl⟩, sub_cons rfl sub_nil, cv_sel [] 1 rfl rfl⟩
    · rintro _ _ ⟨h, rfl, rfl⟩
      refine G_seq ?_
      refine G_region ?_
      refine G_ev (ev_assign rfl) rfl rfl rfl ?_
      refine G_nil ?_
      refine nx_n ?_
      refine G_ret ?_
      obtain rfl := Option.some.inj h
      exact endG1 rfl rfl (cv_sel [] 0 rfl rfl) ⟨rfl, rfl⟩
theorem pantomimeref21_Young_free {r : Bool} : ∀ v post, ((fun (u : Value) (post : List Chunk) => u = .bool r ∧ post = [])) v post → ∀ c ∈ post, Free c := by
  rintro _ _ ⟨rfl, rfl⟩; exact mem_nil
/-! pantomime/pantomimeref21.Note -/
def pantomimeref21_Note_j30 (N : Nat) (y23 : (Bool)) (p31 : (List Int)) : Option ((List Int) × Bool) :=
  some (p31, y23)
def pantomimeref21_Note_j36 (N : Nat) (kb32 : (List Int) → Int → Option ((List Int) × Bool)) (a1 : Int) (y23 : (Bool)) (p34 : Int) (a0 : (List Int)) (p37 : (List Int)) : Option ((List Int) × Bool) :=
  req (in64 (p34 + 1)) (kb32 p37 (p34 + 1))
def pantomimeref21_Note_l32 (N : Nat) (a1 : Int) (y23 : (Bool)) (a0 : (List Int)) : Nat → (List Int) → Int → Option ((List Int) × Bool)
  | 0, _, _ => none
  | m32 + 1, p33, p34 => bif decide (p34 < (a0.length : Int)) then ((getE a0 p34).bind fun x38 => bif decide (a1 < x38) then ((getE a0 p34).bind fun x40 => req (fitsL (p33.length + ([x40] : List Int).length)) (pantomimeref21_Note_j36 N (pantomimeref21_Note_l32 N a1 y23 a0 m32) a1 y23 p34 a0 (p33 ++ ([x40] : List Int)))) else (pantomimeref21_Note_j36 N (pantomimeref21_Note_l32 N a1 y23 a0 m32) a1 y23 p34 a0 p33)) else (pantomimeref21_Note_j30 N y23 p33)
theorem pantomimeref21_Note_l32_s {N m32 : Nat} {a1 : Int} {y23 : (Bool)} {a0 : (List Int)} {p33 : (List Int)} {p34 : Int} : pantomimeref21_Note_l32 N a1 y23 a0 (m32 + 1) p33 p34 = bif decide (p34 < (a0.length : Int)) then ((getE a0 p34).bind fun x38 => bif decide (a1 < x38) then ((getE a0 p34).bind fun x40 => req (fitsL (p33.length + ([x40] : List Int).length)) (pantomimeref21_Note_j36 N (pantomimeref21_Note_l32 N a1 y23 a0 m32) a1 y23 p34 a0 (p33 ++ ([x40] : List Int)))) else (pantomimeref21_Note_j36 N (pantomimeref21_Note_l32 N a1 y23 a0 m32) a1 y23 p34 a0 p33)) else (pantomimeref21_Note_j30 N y23 p33) := rfl
def pantomimeref21_Note_j24 (N : Nat) (a1 : Int) (y23 : (Bool)) (a0 : (List Int)) (p25 : (List Int)) : Option ((List Int) × Bool) :=
  pantomimeref21_Note_l32 N a1 y23 a0 N p25 0
def pantomimeref21_Note_j7 (N : Nat) (a1 : Int) (a0 : (List Int)) (a2 : DCell) (p8 : (List Int)) : Option ((List Int) × Bool) :=
  (pantomimeref21_Young_O N a2).bind fun y23 => bif y23 then (req (fitsL (p8.length + ([a1] : List Int).length)) (pantomimeref21_Note_j24 N a1 y23 a0 (p8 ++ ([a1] : List Int)))) else (pantomimeref21_Note_j24 N a1 y23 a0 p8)
def pantomimeref21_Note_j14 (N : Nat) (kb9 : (List Int) → Int → Option ((List Int) × Bool)) (a1 : Int) (p11 : Int) (a0 : (List Int)) (a2 : DCell) (p15 : (List Int)) : Option ((List Int) × Bool) :=
  req (in64 (p11 + 1)) (kb9 p15 (p11 + 1))
def pantomimeref21_Note_l9 (N : Nat) (a1 : Int) (a0 : (List Int)) (a2 : DCell) : Nat → (List Int) → Int → Option ((List Int) × Bool)
  | 0, _, _ => none
  | m9 + 1, p10, p11 => bif decide (p11 < (a0.length : Int)) then ((getE a0 p11).bind fun x16 => bif decide (x16 < a1) then ((getE a0 p11).bind fun x18 => req (fitsL (p10.length + ([x18] : List Int).length)) (pantomimeref21_Note_j14 N (pantomimeref21_Note_l9 N a1 a0 a2 m9) a1 p11 a0 a2 (p10 ++ ([x18] : List Int)))) else (pantomimeref21_Note_j14 N (pantomimeref21_Note_l9 N a1 a0 a2 m9) a1 p11 a0 a2 p10)) else (pantomimeref21_Note_j7 N a1 a0 a2 p10)
theorem pantomimeref21_Note_l9_s {N m9 : Nat} {a1 : Int} {a0 : (List Int)} {a2 : DCell} {p10 : (List Int)} {p11 : Int} : pantomimeref21_Note_l9 N a1 a0 a2 (m9 + 1) p10 p11 = bif decide (p11 < (a0.length : Int)) then ((getE a0 p11).bind fun x16 => bif decide (x16 < a1) then ((getE a0 p11).bind fun x18 => req (fitsL (p10.length + ([x18] : List Int).length)) (pantomimeref21_Note_j14 N (pantomimeref21_Note_l9 N a1 a0 a2 m9) a1 p11 a0 a2 (p10 ++ ([x18] : List Int)))) else (pantomimeref21_Note_j14 N (pantomimeref21_Note_l9 N a1 a0 a2 m9) a1 p11 a0 a2 p10)) else (pantomimeref21_Note_j7 N a1 a0 a2 p10) := rfl
def pantomimeref21_Note_O (N : Nat) (a0 : (List Int)) (a1 : Int) (a2 : DCell) : Option ((List Int) × Bool) :=
  (pantomimeref21_old_O N a1).bind fun y5 => bif !y5 then (some (a0, false)) else (pantomimeref21_Note_l9 N a1 a0 a2 N [] 0)
theorem pantomimeref21_Note_ok {N : Nat} {a0 : (List Int)} {a1 : Int} {a2 : DCell} {r : ((List Int) × Bool)} (h : pantomimeref21_Note_O N a0 a1 a2 = some r) {A1 : Option Addr} {n1 c1 : Nat} {A2 : Option Addr} {n2 c2 : Nat} {A3 : Option Addr} {n3 c3 : Nat} : Okc Try.prog 17 [.slice A1 n1 c1, .int .i64 a1, .agg #[.int .i64 a2.Kind, .int .i64 a2.Shape, .int .i64 a2.Flags, .int .i64 a2.Age, .slice A2 n2 c2, .slice A3 n3 c3]] ([slC (rInt .i64) (.slice A1 n1 c1) a0, slC rDValue (.slice A2 n2 c2) a2.Slots, slC rDValue (.slice A3 n3 c3) a2.More]) (fun (u : Value) (post : List Chunk) => ∃ A0 n0 c0, u = .tuple #[.slice A0 n0 c0, .bool r.2] ∧ post = [slC (rInt .i64) (.slice A0 n0 c0) r.1]) := by
  refine ok_E Try.func17 rfl rfl ?_
  simp only [envOf]
  refine G_seq ?_
  refine G_region ?_
  refine G_opd (op_box rfl rfl) rfl rfl rfl ?_
  rintro _ _ ⟨B4, rfl, rfl⟩
  refine G_ev (ev_assign rfl) rfl rfl rfl ?_
  refine G_ev (ev_assign rfl) rfl rfl rfl ?_
  refine G_nil ?_
  refine nx_n ?_
  refine G_seq ?_
  refine G_seq ?_
  refine G_region ?_
  refine G_ev (ev_move rfl) rfl rfl rfl ?_
  obtain ⟨y5, hy5, h⟩ := bind_elim h
  refine G_opd (op_callR (pantomimeref21_old_ok hy5) call28 rfl (mem_nil) pantomimeref21_old_free) rfl rfl rfl ?_
  rintro _ _ ⟨_, ⟨rfl, rfl⟩, rfl⟩
  refine G_ev (ev_not rfl) rfl rfl rfl ?_
  refine G_nil ?_
  refine nx_n ?_
  refine G_cond rfl (fun g6 => ?_) (fun g6 => ?_)
  · replace h := cond_t g6 h
    refine G_seq ?_
    refine G_region ?_
    refine G_ev (ev_move rfl) rfl rfl rfl ?_
    refine G_ev (ev_assign rfl) rfl rfl rfl ?_
    refine G_ev (ev_assign rfl) rfl rfl rfl ?_
    refine G_nil ?_
    refine nx_n ?_
    refine G_ret ?_
    refine nx_r ?_
    obtain rfl := Option.some.inj h
    exact endG2 rfl rfl rfl (cv_sel [1] 4 rfl rfl) ⟨_, _, _, rfl, rfl⟩
  · replace h := cond_f g6 h
    refine G_skip ?_
    refine nx_n ?_
    refine G_seq ?_
    refine G_region ?_
    refine G_ev (ev_assign rfl) rfl rfl rfl ?_
    refine G_nil ?_
    refine nx_n ?_
    refine G_joinF (fun s L => ∃ (p8 : (List Int)) (A8 : Option Addr) (n8 c8 : Nat), pantomimeref21_Note_j7 N a1 a0 a2 p8 = some r ∧ s = [(0, .slice A1 n1 c1), (1, .int .i64 a1), (5, .pointer (some ⟨B4, 0, none⟩)), (6, .slice none 0 0), (7, .bool false), (8, .slice A8 n8 c8)] ∧ L = [slC (rInt .i64) (.slice A1 n1 c1) a0, ownC (rInt .i64) 3 (.slice A8 n8 c8) p8, slC rDValue (.slice A2 n2 c2) a2.Slots, slC rDValue (.slice A3 n3 c3) a2.More, boxC B4 27 [.int .i64 a2.Kind, .int .i64 a2.Shape, .int .i64 a2.Flags, .int .i64 a2.Age, .slice A2 n2 c2, .slice A3 n3 c3]]) ?_ ?_
    · refine G_seq ?_
      refine G_region ?_
      refine G_ev (ev_assign rfl) rfl rfl rfl ?_
      refine G_nil ?_
      refine nx_n ?_
      refine G_block ?_
      refine G_loopF (fun m s L => ∃ (p10 : (List Int)) (p11 : Int) (A10 : Option Addr) (n10 c10 : Nat), pantomimeref21_Note_l9 N a1 a0 a2 m p10 p11 = some r ∧ s = [(0, .slice A1 n1 c1), (1, .int .i64 a1), (5, .pointer (some ⟨B4, 0, none⟩)), (6, .slice none 0 0), (7, .bool false), (8, .slice A10 n10 c10), (9, .int .i64 p11)] ∧ L = [slC (rInt .i64) (.slice A1 n1 c1) a0, ownC (rInt .i64) 3 (.slice A10 n10 c10) p10, slC rDValue (.slice A2 n2 c2) a2.Slots, slC rDValue (.slice A3 n3 c3) a2.More, boxC B4 27 [.int .i64 a2.Kind, .int .i64 a2.Shape, .int .i64 a2.Flags, .int .i64 a2.Age, .slice A2 n2 c2, .slice A3 n3 c3]]) N _ _ ⟨[], 0, none, 0, 0, h, rfl, rfl⟩ (sub_cons rfl (sub_cons rfl (sub_cons rfl (sub_cons rfl (sub_cons rfl (sub_cons rfl (sub_cons rfl sub_nil))))))) ((cv_nil (rInt .i64) 3 _).trans (cv_sel [2, 0, 3, 4, 1] 5 rfl rfl)) ?_
      rintro (_ | m9) _ _ ⟨p10, p11, A10, n10, c10, h, rfl, rfl⟩
      · exact none_some h
      rw [pantomimeref21_Note_l9_s] at h
      refine G_seq ?_
      refine G_seq ?_
      refine G_region ?_
      refine G_ev (ev_move rfl) rfl rfl rfl ?_
      refine G_ev (ev_move rfl) rfl rfl rfl ?_
      refine G_rd (rd_len 0 rfl els_sl rfl Try.underlying35) rfl rfl rfl ?_
      refine G_ev (ev_lt rfl rfl) rfl rfl rfl ?_
      refine G_nil ?_
      refine nx_n ?_
      refine G_cond rfl (fun g13 => ?_) (fun g13 => ?_)
      · replace h := cond_t g13 h
        refine G_skip ?_
        refine nx_n ?_
        refine G_joinF (fun s L => ∃ (p15 : (List Int)) (A15 : Option Addr) (n15 c15 : Nat), pantomimeref21_Note_j14 N (pantomimeref21_Note_l9 N a1 a0 a2 m9) a1 p11 a0 a2 p15 = some r ∧ s = [(0, .slice A1 n1 c1), (1, .int .i64 a1), (5, .pointer (some ⟨B4, 0, none⟩)), (6, .slice none 0 0), (7, .bool false), (8, .slice A15 n15 c15), (9, .int .i64 p11)] ∧ L = [slC (rInt .i64) (.slice A1 n1 c1) a0, ownC (rInt .i64) 3 (.slice A15 n15 c15) p15, slC rDValue (.slice A2 n2 c2) a2.Slots, slC rDValue (.slice A3 n3 c3) a2.More, boxC B4 27 [.int .i64 a2.Kind, .int .i64 a2.Shape, .int .i64 a2.Flags, .int .i64 a2.Age, .slice A2 n2 c2, .slice A3 n3 c3]]) ?_ ?_
        · refine G_block ?_
          refine G_seq ?_
          refine G_region ?_
          refine G_ev (ev_move rfl) rfl rfl rfl ?_
          refine G_ev (ev_move rfl) rfl rfl rfl ?_
          obtain ⟨x16, hx16, h⟩ := bind_elim h
          obtain ⟨lx16, ux16, hx16⟩ := getE_elim hx16
          refine G_rd (rd_idx 0 rfl els_sl rfl rfl Try.underlying35 size3 lx16 ux16) rfl rfl rfl ?_
          refine G_rd (rd_elem1 (u := .int .i64 x16) 0 rfl els_sl rfl hx16 one3 (fun _ _ _ h => by rw [show _ = _ from h]; rfl)) rfl rfl rfl ?_
          refine G_ev (ev_move rfl) rfl rfl rfl ?_
          refine G_ev (ev_lt rfl rfl) rfl rfl rfl ?_
          refine G_nil ?_
          refine nx_n ?_
          refine G_cond rfl (fun g17 => ?_) (fun g17 => ?_)
          · replace h := cond_t g17 h
            refine G_region ?_
            refine G_ev (ev_move rfl) rfl rfl rfl ?_
            refine G_ev (ev_move rfl) rfl rfl rfl ?_
            refine G_ev (ev_move rfl) rfl rfl rfl ?_
            obtain ⟨x18, hx18, h⟩ := bind_elim h
            obtain ⟨lx18, ux18, hx18⟩ := getE_elim hx18
            refine G_rd (rd_idx 0 rfl els_sl rfl rfl Try.underlying35 size3 lx18 ux18) rfl rfl rfl ?_
            refine G_rd (rd_elem1 (u := .int .i64 x18) 0 rfl els_sl rfl hx18 one3 (fun _ _ _ h => by rw [show _ = _ from h]; rfl)) rfl rfl rfl ?_
            refine G_opd (op_bslice (R := (rInt .i64)) (vss := [[.int .i64 x18]]) (xs := [x18]) rfl (bsl_35_1 _) rfl rfl (fun _ _ hr => .cons rfl All2.nil)) rfl rfl rfl ?_
            rintro _ _ ⟨A19, n19, c19, rfl, rfl⟩
            obtain ⟨q20, h⟩ := req_elim h
            refine G_opd (op_append 2 0 rfl rfl els_own rfl rfl Try.underlying35 zb3 rfl rfl q20) rfl rfl rfl ?_
            rintro _ _ ⟨A21, n21, c21, rfl, rfl⟩
            refine G_norm ([ownC (rInt .i64) 3 (.slice A19 n19 c19) ([x18] : List Int), slC (rInt .i64) (.slice A1 n1 c1) a0, ownC (rInt .i64) 3 (.slice A21 n21 c21) (p10 ++ ([x18] : List Int)), slC rDValue (.slice A2 n2 c2) a2.Slots, slC rDValue (.slice A3 n3 c3) a2.More, boxC B4 27 [.int .i64 a2.Kind, .int .i64 a2.Shape, .int .i64 a2.Flags, .int .i64 a2.Age, .slice A2 n2 c2, .slice A3 n3 c3]]) rfl ?_
            refine G_ev (ev_assign rfl) rfl rfl rfl ?_
            refine G_nil ?_
            refine bk_n ?_
            refine nx_n ?_
            exact ⟨_, _, ⟨p10 ++ ([x18] : List Int), A21, n21, c21, h, rfl, rfl⟩, sub_cons rfl (sub_cons rfl (sub_cons rfl (sub_cons rfl (sub_cons rfl (sub_cons rfl (sub_cons rfl sub_nil)))))), cv_sel [1, 2, 3, 4, 5] 6 rfl rfl⟩
          · replace h := cond_f g17 h
            refine G_skip ?_
            refine bk_n ?_
            refine nx_n ?_
            exact ⟨_, _, ⟨p10, A10, n10, c10, h, rfl, rfl⟩, sub_cons rfl (sub_cons rfl (sub_cons rfl (sub_cons rfl (sub_cons rfl (sub_cons rfl (sub_cons rfl sub_nil)))))), cv_sel [0, 1, 2, 3, 4] 5 rfl rfl⟩
        · rintro _ _ ⟨p15, A15, n15, c15, h, rfl, rfl⟩
          refine G_region ?_
          refine G_ev (ev_move rfl) rfl rfl rfl ?_
          obtain ⟨q22, h⟩ := req_elim h
          refine G_ev (ev_add rfl rfl q22.1 q22.2) rfl rfl rfl ?_
          refine G_ev (ev_assign rfl) rfl rfl rfl ?_
          refine G_nil ?_
          refine nx_n ?_
          exact ⟨m9, _, _, Nat.lt_succ_self _, ⟨p15, p11 + 1, A15, n15, c15, h, rfl, rfl⟩, sub_cons rfl (sub_cons rfl (sub_cons rfl (sub_cons rfl (sub_cons rfl (sub_cons rfl (sub_cons rfl sub_nil)))))), cv_sel [0, 1, 2, 3, 4] 5 rfl rfl⟩
      · replace h := cond_f g13 h
        refine G_exit ?_
        refine nx_e ?_
        refine nx_e ?_
        refine bk_x ?_
        refine nx_n ?_
        exact ⟨_, _, ⟨p10, A10, n10, c10, h, rfl, rfl⟩, sub_cons rfl (sub_cons rfl (sub_cons rfl (sub_cons rfl (sub_cons rfl (sub_cons rfl sub_nil))))), cv_sel [0, 1, 2, 3, 4] 5 rfl rfl⟩
    · rintro _ _ ⟨p8, A8, n8, c8, h, rfl, rfl⟩
      refine G_seq ?_
      refine G_region ?_
      refine G_rd (rd_boxS (us := [.int .i64 a2.Kind, .int .i64 a2.Shape, .int .i64 a2.Flags, .int .i64 a2.Age, .slice A2 n2 c2, .slice A3 n3 c3]) 4 rfl rfl agg27 rfl) rfl rfl rfl ?_
      obtain ⟨y23, hy23, h⟩ := bind_elim h
      refine G_opd (op_callR (pantomimeref21_Young_ok hy23) call23 rfl (mem_cons (lent_ro (i := 2) rfl rfl) (mem_cons (lent_ro (i := 3) rfl rfl) mem_nil)) pantomimeref21_Young_free) rfl rfl rfl ?_
      rintro _ _ ⟨_, ⟨rfl, rfl⟩, rfl⟩
      refine G_ev (ev_assign rfl) rfl rfl rfl ?_
      refine G_nil ?_
      refine nx_n ?_
      refine G_joinF (fun s L => ∃ (p25 : (List Int)) (A25 : Option Addr) (n25 c25 : Nat), pantomimeref21_Note_j24 N a1 y23 a0 p25 = some r ∧ s = [(0, .slice A1 n1 c1), (1, .int .i64 a1), (6, .slice none 0 0), (7, .bool false), (8, .slice A25 n25 c25), (10, .bool y23)] ∧ L = [slC (rInt .i64) (.slice A1 n1 c1) a0, ownC (rInt .i64) 3 (.slice A25 n25 c25) p25]) ?_ ?_
      · refine G_seq ?_
        refine G_region ?_
        refine G_ev (ev_move rfl) rfl rfl rfl ?_
        refine G_nil ?_
        refine nx_n ?_
        refine G_cond rfl (fun g26 => ?_) (fun g26 => ?_)
        · replace h := cond_t g26 h
          refine G_region ?_
          refine G_ev (ev_move rfl) rfl rfl rfl ?_
          refine G_ev (ev_move rfl) rfl rfl rfl ?_
          refine G_opd (op_bslice (R := (rInt .i64)) (vss := [[.int .i64 a1]]) (xs := [a1]) rfl (bsl_35_1 _) rfl rfl (fun _ _ hr => .cons rfl All2.nil)) rfl rfl rfl ?_
          rintro _ _ ⟨A27, n27, c27, rfl, rfl⟩
          obtain ⟨q28, h⟩ := req_elim h
          refine G_opd (op_append 2 0 rfl rfl els_own rfl rfl Try.underlying35 zb3 rfl rfl q28) rfl rfl rfl ?_
          rintro _ _ ⟨A29, n29, c29, rfl, rfl⟩
          refine G_norm ([ownC (rInt .i64) 3 (.slice A27 n27 c27) ([a1] : List Int), slC (rInt .i64) (.slice A1 n1 c1) a0, ownC (rInt .i64) 3 (.slice A29 n29 c29) (p8 ++ ([a1] : List Int)), slC rDValue (.slice A2 n2 c2) a2.Slots, slC rDValue (.slice A3 n3 c3) a2.More, boxC B4 27 [.int .i64 a2.Kind, .int .i64 a2.Shape, .int .i64 a2.Flags, .int .i64 a2.Age, .slice A2 n2 c2, .slice A3 n3 c3]]) rfl ?_
          refine G_ev (ev_assign rfl) rfl rfl rfl ?_
          refine G_nil ?_
          refine nx_n ?_
          exact ⟨_, _, ⟨p8 ++ ([a1] : List Int), A29, n29, c29, h, rfl, rfl⟩, sub_cons rfl (sub_cons rfl (sub_cons rfl (sub_cons rfl (sub_cons rfl (sub_cons rfl sub_nil))))), cv_sel [1, 2] 6 rfl rfl⟩
        · replace h := cond_f g26 h
          refine G_skip ?_
          refine nx_n ?_
          exact ⟨_, _, ⟨p8, A8, n8, c8, h, rfl, rfl⟩, sub_cons rfl (sub_cons rfl (sub_cons rfl (sub_cons rfl (sub_cons rfl (sub_cons rfl sub_nil))))), cv_sel [0, 1] 5 rfl rfl⟩
      · rintro _ _ ⟨p25, A25, n25, c25, h, rfl, rfl⟩
        refine G_joinF (fun s L => ∃ (p31 : (List Int)) (A31 : Option Addr) (n31 c31 : Nat), pantomimeref21_Note_j30 N y23 p31 = some r ∧ s = [(6, .slice none 0 0), (7, .bool false), (8, .slice A31 n31 c31), (10, .bool y23)] ∧ L = [ownC (rInt .i64) 3 (.slice A31 n31 c31) p31]) ?_ ?_
        · refine G_seq ?_
          refine G_region ?_
          refine G_ev (ev_assign rfl) rfl rfl rfl ?_
          refine G_nil ?_
          refine nx_n ?_
          refine G_block ?_
          refine G_loopF (fun m s L => ∃ (p33 : (List Int)) (p34 : Int) (A33 : Option Addr) (n33 c33 : Nat), pantomimeref21_Note_l32 N a1 y23 a0 m p33 p34 = some r ∧ s = [(0, .slice A1 n1 c1), (1, .int .i64 a1), (6, .slice none 0 0), (7, .bool false), (8, .slice A33 n33 c33), (10, .bool y23), (11, .int .i64 p34)] ∧ L = [slC (rInt .i64) (.slice A1 n1 c1) a0, ownC (rInt .i64) 3 (.slice A33 n33 c33) p33]) N _ _ ⟨p25, 0, A25, n25, c25, h, rfl, rfl⟩ (sub_cons rfl (sub_cons rfl (sub_cons rfl (sub_cons rfl (sub_cons rfl (sub_cons rfl (sub_cons rfl sub_nil))))))) (cv_sel [0, 1] 2 rfl rfl) ?_
          rintro (_ | m32) _ _ ⟨p33, p34, A33, n33, c33, h, rfl, rfl⟩
          · exact none_some h
          rw [pantomimeref21_Note_l32_s] at h
          refine G_seq ?_
          refine G_seq ?_
          refine G_region ?_
          refine G_ev (ev_move rfl) rfl rfl rfl ?_
          refine G_ev (ev_move rfl) rfl rfl rfl ?_
          refine G_rd (rd_len 0 rfl els_sl rfl Try.underlying35) rfl rfl rfl ?_
          refine G_ev (ev_lt rfl rfl) rfl rfl rfl ?_
          refine G_nil ?_
          refine nx_n ?_
          refine G_cond rfl (fun g35 => ?_) (fun g35 => ?_)
          · replace h := cond_t g35 h
            refine G_skip ?_
            refine nx_n ?_
            refine G_joinF (fun s L => ∃ (p37 : (List Int)) (A37 : Option Addr) (n37 c37 : Nat), pantomimeref21_Note_j36 N (pantomimeref21_Note_l32 N a1 y23 a0 m32) a1 y23 p34 a0 p37 = some r ∧ s = [(0, .slice A1 n1 c1), (1, .int .i64 a1), (6, .slice none 0 0), (7, .bool false), (8, .slice A37 n37 c37), (10, .bool y23), (11, .int .i64 p34)] ∧ L = [slC (rInt .i64) (.slice A1 n1 c1) a0, ownC (rInt .i64) 3 (.slice A37 n37 c37) p37]) ?_ ?_
            · refine G_block ?_
              refine G_seq ?_
              refine G_region ?_
              refine G_ev (ev_move rfl) rfl rfl rfl ?_
              refine G_ev (ev_move rfl) rfl rfl rfl ?_
              obtain ⟨x38, hx38, h⟩ := bind_elim h
              obtain ⟨lx38, ux38, hx38⟩ := getE_elim hx38
              refine G_rd (rd_idx 0 rfl els_sl rfl rfl Try.underlying35 size3 lx38 ux38) rfl rfl rfl ?_
              refine G_rd (rd_elem1 (u := .int .i64 x38) 0 rfl els_sl rfl hx38 one3 (fun _ _ _ h => by rw [show _ = _ from h]; rfl)) rfl rfl rfl ?_
              refine G_ev (ev_move rfl) rfl rfl rfl ?_
              refine G_ev (ev_gt rfl rfl) rfl rfl rfl ?_
              refine G_nil ?_
              refine nx_n ?_
              refine G_cond rfl (fun g39 => ?_) (fun g39 => ?_)
              · replace h := cond_t g39 h
                refine G_region ?_
                refine G_ev (ev_move rfl) rfl rfl rfl ?_
                refine G_ev (ev_move rfl) rfl rfl rfl ?_
                refine G_ev (ev_move rfl) rfl rfl rfl ?_
                obtain ⟨x40, hx40, h⟩ := bind_elim h
                obtain ⟨lx40, ux40, hx40⟩ := getE_elim hx40
                refine G_rd (rd_idx 0 rfl els_sl rfl rfl Try.underlying35 size3 lx40 ux40) rfl rfl rfl ?_
                refine G_rd (rd_elem1 (u := .int .i64 x40) 0 rfl els_sl rfl hx40 one3 (fun _ _ _ h => by rw [show _ = _ from h]; rfl)) rfl rfl rfl ?_
                refine G_opd (op_bslice (R := (rInt .i64)) (vss := [[.int .i64 x40]]) (xs := [x40]) rfl (bsl_35_1 _) rfl rfl (fun _ _ hr => .cons rfl All2.nil)) rfl rfl rfl ?_
                rintro _ _ ⟨A41, n41, c41, rfl, rfl⟩
                obtain ⟨q42, h⟩ := req_elim h
                refine G_opd (op_append 2 0 rfl rfl els_own rfl rfl Try.underlying35 zb3 rfl rfl q42) rfl rfl rfl ?_
                rintro _ _ ⟨A43, n43, c43, rfl, rfl⟩
                refine G_norm ([ownC (rInt .i64) 3 (.slice A41 n41 c41) ([x40] : List Int), slC (rInt .i64) (.slice A1 n1 c1) a0, ownC (rInt .i64) 3 (.slice A43 n43 c43) (p33 ++ ([x40] : List Int))]) rfl ?_
                refine G_ev (ev_assign rfl) rfl rfl rfl ?_
                refine G_nil ?_
                refine bk_n ?_
                refine nx_n ?_
                exact ⟨_, _, ⟨p33 ++ ([x40] : List Int), A43, n43, c43, h, rfl, rfl⟩, sub_cons rfl (sub_cons rfl (sub_cons rfl (sub_cons rfl (sub_cons rfl (sub_cons rfl (sub_cons rfl sub_nil)))))), cv_sel [1, 2] 3 rfl rfl⟩
              · replace h := cond_f g39 h
                refine G_skip ?_
                refine bk_n ?_
                refine nx_n ?_
                exact ⟨_, _, ⟨p33, A33, n33, c33, h, rfl, rfl⟩, sub_cons rfl (sub_cons rfl (sub_cons rfl (sub_cons rfl (sub_cons rfl (sub_cons rfl (sub_cons rfl sub_nil)))))), cv_sel [0, 1] 2 rfl rfl⟩
            · rintro _ _ ⟨p37, A37, n37, c37, h, rfl, rfl⟩
              refine G_region ?_
              refine G_ev (ev_move rfl) rfl rfl rfl ?_
              obtain ⟨q44, h⟩ := req_elim h
              refine G_ev (ev_add rfl rfl q44.1 q44.2) rfl rfl rfl ?_
              refine G_ev (ev_assign rfl) rfl rfl rfl ?_
              refine G_nil ?_
              refine nx_n ?_
              exact ⟨m32, _, _, Nat.lt_succ_self _, ⟨p37, p34 + 1, A37, n37, c37, h, rfl, rfl⟩, sub_cons rfl (sub_cons rfl (sub_cons rfl (sub_cons rfl (sub_cons rfl (sub_cons rfl (sub_cons rfl sub_nil)))))), cv_sel [0, 1] 2 rfl rfl⟩
          · replace h := cond_f g35 h
            refine G_exit ?_
            refine nx_e ?_
            refine nx_e ?_
            refine bk_x ?_
            refine nx_n ?_
            exact ⟨_, _, ⟨p33, A33, n33, c33, h, rfl, rfl⟩, sub_cons rfl (sub_cons rfl (sub_cons rfl (sub_cons rfl sub_nil))), cv_sel [1] 2 rfl rfl⟩
        · rintro _ _ ⟨p31, A31, n31, c31, h, rfl, rfl⟩
          refine G_seq ?_
          refine G_region ?_
          refine G_ev (ev_move rfl) rfl rfl rfl ?_
          refine G_ev (ev_move rfl) rfl rfl rfl ?_
          refine G_ev (ev_assign rfl) rfl rfl rfl ?_
          refine G_ev (ev_assign rfl) rfl rfl rfl ?_
          refine G_nil ?_
          refine nx_n ?_
          refine G_ret ?_
          obtain rfl := Option.some.inj h
          exact endG2 rfl rfl rfl ((cv_frz 0 rfl).trans (cv_sel [0] 1 rfl rfl)) ⟨_, _, _, rfl, rfl⟩
/-! pantomime/pantomimelaw21.RemsetNotes -/
def pantomimelaw21_RemsetNotes_j25 (N : Nat) : Option Bool :=
  (pantomimelaw21_lives_O N).bind fun y62 => some y62
def pantomimelaw21_RemsetNotes_j32 (N : Nat) (kb26 : (List Int) → Int → (List (Int × Bool)) → Option Bool) (p28 : Int) (a0 : (List DStep)) (p33 : (List Int)) (p34 : (List (Int × Bool))) : Option Bool :=
  (remset_Set_List_O N (⟨p34⟩ : DSet)).bind fun y55 => (pantomimeref15_SameInts_O N y55 p33).bind fun y57 => (bif !y57 then (some true) else ((remset_Set_Len_O N (⟨p34⟩ : DSet)).bind fun y59 => some (!decide (y59 = (p33.length : Int))))).bind fun b58 => bif b58 then (some false) else (req (in64 (p28 + 1)) (kb26 p33 (p28 + 1) p34))
def pantomimelaw21_RemsetNotes_l26 (N : Nat) (a0 : (List DStep)) : Nat → (List Int) → Int → (List (Int × Bool)) → Option Bool
  | 0, _, _, _ => none
  | m26 + 1, p27, p28, p29 => bif decide (p28 < (a0.length : Int)) then ((getE a0 p28).bind fun x35 => bif x35.Clear then ((remset_Set_Clear_O N (⟨p29⟩ : DSet)).bind fun y37 => pantomimelaw21_RemsetNotes_j32 N (pantomimelaw21_RemsetNotes_l26 N a0 m26) p28 a0 [] y37.at_) else ((getE a0 p28).bind fun x40 => (getE a0 p28).bind fun x41 => (pantomimeref21_Note_O N p27 x40.At x41.Cell).bind fun y45 => (getE a0 p28).bind fun x47 => (getE a0 p28).bind fun x48 => (remset_Set_Note_O N (⟨p29⟩ : DSet) x47.At x48.Cell).bind fun y52 => bif !(y52.1 == y45.2) then (some false) else (pantomimelaw21_RemsetNotes_j32 N (pantomimelaw21_RemsetNotes_l26 N a0 m26) p28 a0 y45.1 y52.2.at_))) else (pantomimelaw21_RemsetNotes_j25 N)
theorem pantomimelaw21_RemsetNotes_l26_s {N m26 : Nat} {a0 : (List DStep)} {p27 : (List Int)} {p28 : Int} {p29 : (List (Int × Bool))} : pantomimelaw21_RemsetNotes_l26 N a0 (m26 + 1) p27 p28 p29 = bif decide (p28 < (a0.length : Int)) then ((getE a0 p28).bind fun x35 => bif x35.Clear then ((remset_Set_Clear_O N (⟨p29⟩ : DSet)).bind fun y37 => pantomimelaw21_RemsetNotes_j32 N (pantomimelaw21_RemsetNotes_l26 N a0 m26) p28 a0 [] y37.at_) else ((getE a0 p28).bind fun x40 => (getE a0 p28).bind fun x41 => (pantomimeref21_Note_O N p27 x40.At x41.Cell).bind fun y45 => (getE a0 p28).bind fun x47 => (getE a0 p28).bind fun x48 => (remset_Set_Note_O N (⟨p29⟩ : DSet) x47.At x48.Cell).bind fun y52 => bif !(y52.1 == y45.2) then (some false) else (pantomimelaw21_RemsetNotes_j32 N (pantomimelaw21_RemsetNotes_l26 N a0 m26) p28 a0 y45.1 y52.2.at_))) else (pantomimelaw21_RemsetNotes_j25 N) := rfl
def pantomimelaw21_RemsetNotes_j4 (N : Nat) (a0 : (List DStep)) (p5 : (List DCell)) : Option Bool :=
  (pantomimelaw21_few_O N p5).bind fun y19 => bif !y19 then ((pantomimelaw21_lives_O N).bind fun y21 => some y21) else ((remset_New_O N).bind fun y22 => pantomimelaw21_RemsetNotes_l26 N a0 N [] 0 y22.at_)
def pantomimelaw21_RemsetNotes_l6 (N : Nat) (a0 : (List DStep)) : Nat → (List DCell) → Int → Option Bool
  | 0, _, _ => none
  | m6 + 1, p7, p8 => bif decide (p8 < (a0.length : Int)) then ((getE a0 p8).bind fun x11 => req (fitsL (p7.length + ([x11.Cell] : List DCell).length)) (req (in64 (p8 + 1)) ((pantomimelaw21_RemsetNotes_l6 N a0 m6) (p7 ++ ([x11.Cell] : List DCell)) (p8 + 1)))) else (pantomimelaw21_RemsetNotes_j4 N a0 p7)
theorem pantomimelaw21_RemsetNotes_l6_s {N m6 : Nat} {a0 : (List DStep)} {p7 : (List DCell)} {p8 : Int} : pantomimelaw21_RemsetNotes_l6 N a0 (m6 + 1) p7 p8 = bif decide (p8 < (a0.length : Int)) then ((getE a0 p8).bind fun x11 => req (fitsL (p7.length + ([x11.Cell] : List DCell).length)) (req (in64 (p8 + 1)) ((pantomimelaw21_RemsetNotes_l6 N a0 m6) (p7 ++ ([x11.Cell] : List DCell)) (p8 + 1)))) else (pantomimelaw21_RemsetNotes_j4 N a0 p7) := rfl
def pantomimelaw21_RemsetNotes_O (N : Nat) (a0 : (List DStep)) : Option Bool :=
  bif decide (60 < (a0.length : Int)) then ((pantomimelaw21_lives_O N).bind fun y3 => some y3) else (pantomimelaw21_RemsetNotes_l6 N a0 N [] 0)
theorem pantomimelaw21_RemsetNotes_ok {N : Nat} {a0 : (List DStep)} {r : Bool} (h : pantomimelaw21_RemsetNotes_O N a0 = some r) {A1 : Option Addr} {n1 c1 : Nat} : Okc Try.prog 4 [.slice A1 n1 c1] ([slC rDStep (.slice A1 n1 c1) a0]) (fun (u : Value) (post : List Chunk) => u = .bool r ∧ post = []) := by
  refine ok_E Try.func4 rfl rfl ?_
  simp only [envOf]
  refine G_seq ?_
  refine G_region ?_
  refine G_ev (ev_assign rfl) rfl rfl rfl ?_
  refine G_nil ?_
  refine nx_n ?_
  refine G_seq ?_
  refine G_seq ?_
  refine G_region ?_
  refine G_ev (ev_move rfl) rfl rfl rfl ?_
  refine G_rd (rd_len 0 rfl els_sl rfl Try.underlying22) rfl rfl rfl ?_
  refine G_ev (ev_gt rfl rfl) rfl rfl rfl ?_
  refine G_nil ?_
  refine nx_n ?_
  refine G_cond rfl (fun g2 => ?_) (fun g2 => ?_)
  · replace h := cond_t g2 h
    refine G_seq ?_
    refine G_region ?_
    obtain ⟨y3, hy3, h⟩ := bind_elim h
    refine G_opd (op_callR (pantomimelaw21_lives_ok hy3) call9 rfl (mem_nil) pantomimelaw21_lives_free) rfl rfl rfl ?_
    rintro _ _ ⟨_, ⟨rfl, rfl⟩, rfl⟩
    refine G_ev (ev_assign rfl) rfl rfl rfl ?_
    refine G_nil ?_
    refine nx_n ?_
    refine G_ret ?_
    refine nx_r ?_
    obtain rfl := Option.some.inj h
    exact endG1 rfl rfl (cv_sel [] 1 rfl rfl) ⟨rfl, rfl⟩
  · replace h := cond_f g2 h
    refine G_skip ?_
    refine nx_n ?_
    refine G_seq ?_
    refine G_region ?_
    refine G_ev (ev_assign rfl) rfl rfl rfl ?_
    refine G_nil ?_
    refine nx_n ?_
    refine G_joinF (fun s L => ∃ (p5 : (List DCell)) (A5 : Option Addr) (n5 c5 : Nat), pantomimelaw21_RemsetNotes_j4 N a0 p5 = some r ∧ s = [(0, .slice A1 n1 c1), (2, .bool false), (3, .slice A5 n5 c5)] ∧ L = [slC rDStep (.slice A1 n1 c1) a0, ownC rDCell 27 (.slice A5 n5 c5) p5]) ?_ ?_
    · refine G_seq ?_
      refine G_region ?_
      refine G_ev (ev_assign rfl) rfl rfl rfl ?_
      refine G_nil ?_
      refine nx_n ?_
      refine G_block ?_
      refine G_loopF (fun m s L => ∃ (p7 : (List DCell)) (p8 : Int) (A7 : Option Addr) (n7 c7 : Nat), pantomimelaw21_RemsetNotes_l6 N a0 m p7 p8 = some r ∧ s = [(0, .slice A1 n1 c1), (2, .bool false), (3, .slice A7 n7 c7), (4, .int .i64 p8)] ∧ L = [slC rDStep (.slice A1 n1 c1) a0, ownC rDCell 27 (.slice A7 n7 c7) p7]) N _ _ ⟨[], 0, none, 0, 0, h, rfl, rfl⟩ (sub_cons rfl (sub_cons rfl (sub_cons rfl (sub_cons rfl sub_nil)))) ((cv_nil rDCell 27 _).trans (cv_sel [1, 0] 2 rfl rfl)) ?_
      rintro (_ | m6) _ _ ⟨p7, p8, A7, n7, c7, h, rfl, rfl⟩
      · exact none_some h
      rw [pantomimelaw21_RemsetNotes_l6_s] at h
      refine G_seq ?_
      refine G_seq ?_
      refine G_region ?_
      refine G_ev (ev_move rfl) rfl rfl rfl ?_
      refine G_ev (ev_move rfl) rfl rfl rfl ?_
      refine G_rd (rd_len 0 rfl els_sl rfl Try.underlying22) rfl rfl rfl ?_
      refine G_ev (ev_lt rfl rfl) rfl rfl rfl ?_
      refine G_nil ?_
      refine nx_n ?_
      refine G_cond rfl (fun g10 => ?_) (fun g10 => ?_)
      · replace h := cond_t g10 h
        refine G_skip ?_
        refine nx_n ?_
        refine G_seq ?_
        refine G_block ?_
        refine G_region ?_
        refine G_ev (ev_move rfl) rfl rfl rfl ?_
        refine G_ev (ev_move rfl) rfl rfl rfl ?_
        refine G_ev (ev_move rfl) rfl rfl rfl ?_
        obtain ⟨x11, hx11, h⟩ := bind_elim h
        obtain ⟨lx11, ux11, hx11⟩ := getE_elim hx11
        refine G_rd (rd_idx 0 rfl els_sl rfl rfl Try.underlying22 size29 lx11 ux11) rfl rfl rfl ?_
        refine G_rd (rd_fa 0 rfl els_sl rfl (toNat_lt lx11 ux11) fa_29_2) rfl rfl rfl ?_
        refine G_row 0 rfl hx11 (open_DStep x11) ?_
        rintro _ _ ⟨A12, n12, c12, A13, n13, c13, rfl, rfl⟩
        refine G_rd (rd_rowS (us := [.int .i64 x11.Cell.Kind, .int .i64 x11.Cell.Shape, .int .i64 x11.Cell.Flags, .int .i64 x11.Cell.Age, .slice A12 n12 c12, .slice A13 n13 c13]) 0 rfl rfl agg27 rfl) rfl rfl rfl ?_
        refine G_opd (op_bslice (R := rDCell) (vss := [[.int .i64 x11.Cell.Kind, .int .i64 x11.Cell.Shape, .int .i64 x11.Cell.Flags, .int .i64 x11.Cell.Age, .slice A12 n12 c12, .slice A13 n13 c13]]) (xs := [x11.Cell]) rfl (bsl_24_1 _ _ _ _ _ _ _ _ _ _) rfl rfl (fun _ _ hr => .cons (⟨_, _, _, _, _, _, rfl, hr 1 _ rfl rfl, hr 2 _ rfl rfl⟩) All2.nil)) rfl rfl rfl ?_
        rintro _ _ ⟨A15, n15, c15, rfl, rfl⟩
        obtain ⟨q16, h⟩ := req_elim h
        refine G_opd (op_append 5 0 rfl rfl els_own rfl rfl Try.underlying24 zb27 rfl rfl q16) rfl rfl rfl ?_
        rintro _ _ ⟨A17, n17, c17, rfl, rfl⟩
        refine G_norm ([ownC rDCell 27 (.slice A15 n15 c15) ([x11.Cell] : List DCell), rowC (elemQ (.slice A1 n1 c1) p8.toNat 8 0) [.bool x11.Clear, .int .i64 x11.At, .int .i64 x11.Cell.Kind, .int .i64 x11.Cell.Shape, .int .i64 x11.Cell.Flags, .int .i64 x11.Cell.Age, .slice A12 n12 c12, .slice A13 n13 c13], slC rDValue (.slice A12 n12 c12) x11.Cell.Slots, slC rDValue (.slice A13 n13 c13) x11.Cell.More, slC rDStep (.slice A1 n1 c1) a0, ownC rDCell 27 (.slice A17 n17 c17) (p7 ++ ([x11.Cell] : List DCell))]) rfl ?_
        refine G_ev (ev_assign rfl) rfl rfl rfl ?_
        refine G_nil ?_
        refine bk_n ?_
        refine nx_n ?_
        refine G_region ?_
        refine G_ev (ev_move rfl) rfl rfl rfl ?_
        obtain ⟨q18, h⟩ := req_elim h
        refine G_ev (ev_add rfl rfl q18.1 q18.2) rfl rfl rfl ?_
        refine G_ev (ev_assign rfl) rfl rfl rfl ?_
        refine G_nil ?_
        refine nx_n ?_
        exact ⟨m6, _, _, Nat.lt_succ_self _, ⟨p7 ++ ([x11.Cell] : List DCell), p8 + 1, A17, n17, c17, h, rfl, rfl⟩, sub_cons rfl (sub_cons rfl (sub_cons rfl (sub_cons rfl sub_nil))), cv_sel [4, 5] 6 rfl rfl⟩
      · replace h := cond_f g10 h
        refine G_exit ?_
        refine nx_e ?_
        refine nx_e ?_
        refine bk_x ?_
        refine nx_n ?_
        exact ⟨_, _, ⟨p7, A7, n7, c7, h, rfl, rfl⟩, sub_cons rfl (sub_cons rfl (sub_cons rfl sub_nil)), cv_sel [0, 1] 2 rfl rfl⟩
    · rintro _ _ ⟨p5, A5, n5, c5, h, rfl, rfl⟩
      refine G_seq ?_
      refine G_seq ?_
      refine G_region ?_
      refine G_ev (ev_move rfl) rfl rfl rfl ?_
      obtain ⟨y19, hy19, h⟩ := bind_elim h
      refine G_opd (op_callR (pantomimelaw21_few_ok hy19) call10 rfl (mem_cons (lent_own (i := 1) rfl) mem_nil) pantomimelaw21_few_free) rfl rfl rfl ?_
      rintro _ _ ⟨_, ⟨rfl, rfl⟩, rfl⟩
      refine G_ev (ev_not rfl) rfl rfl rfl ?_
      refine G_nil ?_
      refine nx_n ?_
      refine G_cond rfl (fun g20 => ?_) (fun g20 => ?_)
      · replace h := cond_t g20 h
        refine G_seq ?_
        refine G_region ?_
        obtain ⟨y21, hy21, h⟩ := bind_elim h
        refine G_opd (op_callR (pantomimelaw21_lives_ok hy21) call9 rfl (mem_nil) pantomimelaw21_lives_free) rfl rfl rfl ?_
        rintro _ _ ⟨_, ⟨rfl, rfl⟩, rfl⟩
        refine G_ev (ev_assign rfl) rfl rfl rfl ?_
        refine G_nil ?_
        refine nx_n ?_
        refine G_ret ?_
        refine nx_r ?_
        obtain rfl := Option.some.inj h
        exact endG1 rfl rfl (cv_sel [] 2 rfl rfl) ⟨rfl, rfl⟩
      · replace h := cond_f g20 h
        refine G_skip ?_
        refine nx_n ?_
        refine G_seq ?_
        refine G_region ?_
        obtain ⟨y22, hy22, h⟩ := bind_elim h
        refine G_opd (op_call (remset_New_ok hy22) call11 rfl (cv_take [] [] [0, 1] 2 rfl)) rfl rfl rfl ?_
        rintro _ _ ⟨_, ⟨B23, M24, rfl, rfl⟩, rfl⟩
        refine G_norm ([boxC B23 56 [.map (some M24)], mapC ekI evB M24 y22.at_, slC rDStep (.slice A1 n1 c1) a0, ownC rDCell 27 (.slice A5 n5 c5) p5]) rfl ?_
        refine G_ev (ev_assign rfl) rfl rfl rfl ?_
        refine G_nil ?_
        refine nx_n ?_
        refine G_seq ?_
        refine G_region ?_
        refine G_ev (ev_assign rfl) rfl rfl rfl ?_
        refine G_nil ?_
        refine nx_n ?_
        refine G_joinF (fun s L => pantomimelaw21_RemsetNotes_j25 N = some r ∧ s = [(2, .bool false)] ∧ L = []) ?_ ?_
        · refine G_seq ?_
          refine G_region ?_
          refine G_ev (ev_assign rfl) rfl rfl rfl ?_
          refine G_nil ?_
          refine nx_n ?_
          refine G_block ?_
          refine G_loopF (fun m s L => ∃ (p27 : (List Int)) (p28 : Int) (p29 : (List (Int × Bool))) (A27 : Option Addr) (n27 c27 : Nat) (M29 : Nat), pantomimelaw21_RemsetNotes_l26 N a0 m p27 p28 p29 = some r ∧ s = [(0, .slice A1 n1 c1), (2, .bool false), (5, .pointer (some ⟨B23, 0, none⟩)), (6, .slice A27 n27 c27), (7, .int .i64 p28)] ∧ L = [slC rDStep (.slice A1 n1 c1) a0, slC (rInt .i64) (.slice A27 n27 c27) p27, mapC ekI evB M29 p29, boxC B23 56 [.map (some M29)]]) N _ _ ⟨[], 0, y22.at_, none, 0, 0, M24, h, rfl, rfl⟩ (sub_cons rfl (sub_cons rfl (sub_cons rfl (sub_cons rfl (sub_cons rfl sub_nil))))) ((cv_nilS (rInt .i64) _).trans (cv_sel [3, 0, 2, 1] 5 rfl rfl)) ?_
          rintro (_ | m26) _ _ ⟨p27, p28, p29, A27, n27, c27, M29, h, rfl, rfl⟩
          · exact none_some h
          rw [pantomimelaw21_RemsetNotes_l26_s] at h
          refine G_seq ?_
          refine G_seq ?_
          refine G_region ?_
          refine G_ev (ev_move rfl) rfl rfl rfl ?_
          refine G_ev (ev_move rfl) rfl rfl rfl ?_
          refine G_rd (rd_len 0 rfl els_sl rfl Try.underlying22) rfl rfl rfl ?_
          refine G_ev (ev_lt rfl rfl) rfl rfl rfl ?_
          refine G_nil ?_
          refine nx_n ?_
          refine G_cond rfl (fun g31 => ?_) (fun g31 => ?_)
          · replace h := cond_t g31 h
            refine G_skip ?_
            refine nx_n ?_
            refine G_seq ?_
            refine G_block ?_
            refine G_joinF (fun s L => ∃ (p33 : (List Int)) (p34 : (List (Int × Bool))) (A33 : Option Addr) (n33 c33 : Nat) (M34 : Nat), pantomimelaw21_RemsetNotes_j32 N (pantomimelaw21_RemsetNotes_l26 N a0 m26) p28 a0 p33 p34 = some r ∧ s = [(0, .slice A1 n1 c1), (2, .bool false), (5, .pointer (some ⟨B23, 0, none⟩)), (6, .slice A33 n33 c33), (7, .int .i64 p28)] ∧ L = [slC rDStep (.slice A1 n1 c1) a0, slC (rInt .i64) (.slice A33 n33 c33) p33, mapC ekI evB M34 p34, boxC B23 56 [.map (some M34)]]) ?_ ?_
            · refine G_seq ?_
              refine G_region ?_
              refine G_ev (ev_move rfl) rfl rfl rfl ?_
              refine G_ev (ev_move rfl) rfl rfl rfl ?_
              obtain ⟨x35, hx35, h⟩ := bind_elim h
              obtain ⟨lx35, ux35, hx35⟩ := getE_elim hx35
              refine G_rd (rd_idx 0 rfl els_sl rfl rfl Try.underlying22 size29 lx35 ux35) rfl rfl rfl ?_
              refine G_rd (rd_fa0 0 rfl els_sl rfl (toNat_lt lx35 ux35) fa_29_0) rfl rfl rfl ?_
              refine G_rd (rd_elem1 (u := .bool x35.Clear) 0 rfl els_sl rfl hx35 one4 (fun _ _ _ h => by obtain ⟨_, _, _, _, _, _, e, _⟩ := h; rw [e]; rfl)) rfl rfl rfl ?_
              refine G_nil ?_
              refine nx_n ?_
              refine G_cond rfl (fun g36 => ?_) (fun g36 => ?_)
              · replace h := cond_t g36 h
                refine G_seq ?_
                refine G_region ?_
                refine G_ev (ev_move rfl) rfl rfl rfl ?_
                obtain ⟨y37, hy37, h⟩ := bind_elim h
                refine G_opd (op_call (remset_Set_Clear_ok hy37) call16 rfl (cv_take [] [3, 2] [0, 1] 4 rfl)) rfl rfl rfl ?_
                rintro _ _ ⟨_, ⟨M38, rfl, rfl⟩, rfl⟩
                refine G_norm ([boxC B23 56 [.map (some M38)], mapC ekI evB M38 y37.at_, slC rDStep (.slice A1 n1 c1) a0, slC (rInt .i64) (.slice A27 n27 c27) p27]) rfl ?_
                refine G_nil ?_
                refine nx_n ?_
                refine G_region ?_
                refine G_ev (ev_assign rfl) rfl rfl rfl ?_
                refine G_nil ?_
                refine nx_n ?_
                exact ⟨_, _, ⟨[], y37.at_, none, 0, 0, M38, h, rfl, rfl⟩, sub_cons rfl (sub_cons rfl (sub_cons rfl (sub_cons rfl (sub_cons rfl sub_nil)))), (cv_nilS (rInt .i64) _).trans (cv_sel [3, 0, 2, 1] 5 rfl rfl)⟩
              · replace h := cond_f g36 h
                refine G_seq ?_
                refine G_region ?_
                refine G_ev (ev_assign rfl) rfl rfl rfl ?_
                refine G_nil ?_
                refine nx_n ?_
                refine G_seq ?_
                refine G_drawn (by kernel_rfl) _ (cv_refl _) ?_
                refine T3_ev 0 rfl (by kernel_rfl) (ev_move rfl) rfl rfl ?_
                refine T3_ev 1 rfl (by kernel_rfl) (ev_move rfl) rfl rfl ?_
                refine T3_ev 2 rfl (by kernel_rfl) (ev_move rfl) rfl rfl ?_
                obtain ⟨x40, hx40, h⟩ := bind_elim h
                obtain ⟨lx40, ux40, hx40⟩ := getE_elim hx40
                refine T3_rd 3 rfl (by kernel_rfl) (rd_idx 0 rfl els_sl rfl rfl Try.underlying22 size29 lx40 ux40) rfl rfl ?_
                refine T3_rd 4 rfl (by kernel_rfl) (rd_fa 0 rfl els_sl rfl (toNat_lt lx40 ux40) fa_29_1) rfl rfl ?_
                refine T3_rd 5 rfl (by kernel_rfl) (rd_elem1 (u := .int .i64 x40.At) 0 rfl els_sl rfl hx40 one3 (fun _ _ _ h => by obtain ⟨_, _, _, _, _, _, e, _⟩ := h; rw [e]; rfl)) rfl rfl ?_
                refine T3_ev 6 rfl (by kernel_rfl) (ev_move rfl) rfl rfl ?_
                refine T3_ev 7 rfl (by kernel_rfl) (ev_move rfl) rfl rfl ?_
                obtain ⟨x41, hx41, h⟩ := bind_elim h
                obtain ⟨lx41, ux41, hx41⟩ := getE_elim hx41
                refine T3_rd 8 rfl (by kernel_rfl) (rd_idx 0 rfl els_sl rfl rfl Try.underlying22 size29 lx41 ux41) rfl rfl ?_
                refine T3_rd 9 rfl (by kernel_rfl) (rd_fa 0 rfl els_sl rfl (toNat_lt lx41 ux41) fa_29_2) rfl rfl ?_
                refine T3_row 0 rfl hx41 (open_DStep x41) ?_
                rintro _ _ ⟨A42, n42, c42, A43, n43, c43, rfl, rfl⟩
                refine T3_rd 10 rfl (by kernel_rfl) (rd_rowS (us := [.int .i64 x41.Cell.Kind, .int .i64 x41.Cell.Shape, .int .i64 x41.Cell.Flags, .int .i64 x41.Cell.Age, .slice A42 n42 c42, .slice A43 n43 c43]) 0 rfl rfl agg27 rfl) rfl rfl ?_
                obtain ⟨y45, hy45, h⟩ := bind_elim h
                refine T3_opd 11 rfl (by kernel_rfl) (op_call (pantomimeref21_Note_ok hy45) call17 rfl (cv_take [4, 1, 2] [] [0, 1, 2, 3, 4, 5, 6] 7 rfl)) rfl rfl rfl ?_
                rintro _ _ ⟨_, ⟨A46, n46, c46, rfl, rfl⟩, rfl⟩
                refine ⟨_, cv_refl _, cv_tl, ?_⟩
                refine T3_norm ([slC (rInt .i64) (.slice A46 n46 c46) y45.1, rowC (elemQ (.slice A1 n1 c1) p28.toNat 8 0) [.bool x41.Clear, .int .i64 x41.At, .int .i64 x41.Cell.Kind, .int .i64 x41.Cell.Shape, .int .i64 x41.Cell.Flags, .int .i64 x41.Cell.Age, .slice A42 n42 c42, .slice A43 n43 c43], slC rDValue (.slice A42 n42 c42) x41.Cell.Slots, slC rDValue (.slice A43 n43 c43) x41.Cell.More, slC rDStep (.slice A1 n1 c1) a0, slC (rInt .i64) (.slice A27 n27 c27) p27, mapC ekI evB M29 p29, boxC B23 56 [.map (some M29)]]) rfl ?_
                refine T3_ev 12 rfl (by kernel_rfl) (ev_move rfl) rfl rfl ?_
                refine T3_ev 13 rfl (by kernel_rfl) (ev_extract rfl rfl) rfl rfl ?_
                refine T3_ev 14 rfl (by kernel_rfl) (ev_extract rfl rfl) rfl rfl ?_
                refine T3_ev 15 rfl (by kernel_rfl) (ev_assign rfl) rfl rfl ?_
                refine T3_ev 16 rfl (by kernel_rfl) (ev_assign rfl) rfl rfl ?_
                refine T3_done (by kernel_rfl) ?_
                refine nx_n ?_
                refine G_seq ?_
                refine G_drawn (by kernel_rfl) ([slC (rInt .i64) (.slice A46 n46 c46) y45.1, rowC (elemQ (.slice A1 n1 c1) p28.toNat 8 0) [.bool x41.Clear, .int .i64 x41.At, .int .i64 x41.Cell.Kind, .int .i64 x41.Cell.Shape, .int .i64 x41.Cell.Flags, .int .i64 x41.Cell.Age, .slice A42 n42 c42, .slice A43 n43 c43], slC rDValue (.slice A42 n42 c42) x41.Cell.Slots, slC rDValue (.slice A43 n43 c43) x41.Cell.More, slC rDStep (.slice A1 n1 c1) a0, slC (rInt .i64) (.slice A27 n27 c27) p27]) (cv_sel [0, 1, 2, 3, 4, 5] 8 rfl rfl) ?_
                refine T3_ev 0 rfl (by kernel_rfl) (ev_move rfl) rfl rfl ?_
                refine T3_ev 1 rfl (by kernel_rfl) (ev_move rfl) rfl rfl ?_
                refine T3_ev 2 rfl (by kernel_rfl) (ev_move rfl) rfl rfl ?_
                obtain ⟨x47, hx47, h⟩ := bind_elim h
                obtain ⟨lx47, ux47, hx47⟩ := getE_elim hx47
                refine T3_rd 3 rfl (by kernel_rfl) (rd_idx 4 rfl els_sl rfl rfl Try.underlying22 size29 lx47 ux47) rfl rfl ?_
                refine T3_rd 4 rfl (by kernel_rfl) (rd_fa 4 rfl els_sl rfl (toNat_lt lx47 ux47) fa_29_1) rfl rfl ?_
                refine T3_rd 5 rfl (by kernel_rfl) (rd_elem1 (u := .int .i64 x47.At) 4 rfl els_sl rfl hx47 one3 (fun _ _ _ h => by obtain ⟨_, _, _, _, _, _, e, _⟩ := h; rw [e]; rfl)) rfl rfl ?_
                refine T3_ev 6 rfl (by kernel_rfl) (ev_move rfl) rfl rfl ?_
                refine T3_ev 7 rfl (by kernel_rfl) (ev_move rfl) rfl rfl ?_
                obtain ⟨x48, hx48, h⟩ := bind_elim h
                obtain ⟨lx48, ux48, hx48⟩ := getE_elim hx48
                refine T3_rd 8 rfl (by kernel_rfl) (rd_idx 4 rfl els_sl rfl rfl Try.underlying22 size29 lx48 ux48) rfl rfl ?_
                refine T3_rd 9 rfl (by kernel_rfl) (rd_fa 4 rfl els_sl rfl (toNat_lt lx48 ux48) fa_29_2) rfl rfl ?_
                refine T3_row 4 rfl hx48 (open_DStep x48) ?_
                rintro _ _ ⟨A49, n49, c49, A50, n50, c50, rfl, rfl⟩
                refine T3_rd 10 rfl (by kernel_rfl) (rd_rowS (us := [.int .i64 x48.Cell.Kind, .int .i64 x48.Cell.Shape, .int .i64 x48.Cell.Flags, .int .i64 x48.Cell.Age, .slice A49 n49 c49, .slice A50 n50 c50]) 0 rfl rfl agg27 rfl) rfl rfl ?_
                refine T3_ev 12 rfl (by kernel_rfl) (ev_move rfl) rfl rfl ?_
                obtain ⟨y52, hy52, h⟩ := bind_elim h
                refine T3_opd 11 rfl (by kernel_rfl) (op_call (remset_Set_Note_ok hy52) call12 rfl (cv_take [1, 2] [10, 9] [0, 1, 2, 3, 4, 5, 6, 7, 8] 11 rfl)) rfl rfl rfl ?_
                rintro _ _ ⟨_, ⟨M53, rfl, rfl⟩, rfl⟩
                refine ⟨[rowC (elemQ (.slice A1 n1 c1) p28.toNat 8 0) [.bool x48.Clear, .int .i64 x48.At, .int .i64 x48.Cell.Kind, .int .i64 x48.Cell.Shape, .int .i64 x48.Cell.Flags, .int .i64 x48.Cell.Age, .slice A49 n49 c49, .slice A50 n50 c50], slC rDValue (.slice A49 n49 c49) x48.Cell.Slots, slC rDValue (.slice A50 n50 c50) x48.Cell.More, slC (rInt .i64) (.slice A46 n46 c46) y45.1, rowC (elemQ (.slice A1 n1 c1) p28.toNat 8 0) [.bool x41.Clear, .int .i64 x41.At, .int .i64 x41.Cell.Kind, .int .i64 x41.Cell.Shape, .int .i64 x41.Cell.Flags, .int .i64 x41.Cell.Age, .slice A42 n42 c42, .slice A43 n43 c43], slC rDValue (.slice A42 n42 c42) x41.Cell.Slots, slC rDValue (.slice A43 n43 c43) x41.Cell.More, slC rDStep (.slice A1 n1 c1) a0, slC (rInt .i64) (.slice A27 n27 c27) p27], cv_sel [2, 3, 4, 5, 6, 7, 8, 9, 10] 11 rfl rfl, cv_refl _, ?_⟩
                refine T3_norm ([boxC B23 56 [.map (some M53)], mapC ekI evB M53 y52.2.at_, rowC (elemQ (.slice A1 n1 c1) p28.toNat 8 0) [.bool x48.Clear, .int .i64 x48.At, .int .i64 x48.Cell.Kind, .int .i64 x48.Cell.Shape, .int .i64 x48.Cell.Flags, .int .i64 x48.Cell.Age, .slice A49 n49 c49, .slice A50 n50 c50], slC rDValue (.slice A49 n49 c49) x48.Cell.Slots, slC rDValue (.slice A50 n50 c50) x48.Cell.More, slC (rInt .i64) (.slice A46 n46 c46) y45.1, rowC (elemQ (.slice A1 n1 c1) p28.toNat 8 0) [.bool x41.Clear, .int .i64 x41.At, .int .i64 x41.Cell.Kind, .int .i64 x41.Cell.Shape, .int .i64 x41.Cell.Flags, .int .i64 x41.Cell.Age, .slice A42 n42 c42, .slice A43 n43 c43], slC rDValue (.slice A42 n42 c42) x41.Cell.Slots, slC rDValue (.slice A43 n43 c43) x41.Cell.More, slC rDStep (.slice A1 n1 c1) a0, slC (rInt .i64) (.slice A27 n27 c27) p27]) rfl ?_
                refine T3_ev 13 rfl (by kernel_rfl) (ev_bne rfl rfl Try.underlying4) rfl rfl ?_
                refine T3_done (by kernel_rfl) ?_
                refine nx_n ?_
                refine G_cond rfl (fun g54 => ?_) (fun g54 => ?_)
                · replace h := cond_t g54 h
                  refine G_seq ?_
                  refine G_region ?_
                  refine G_ev (ev_assign rfl) rfl rfl rfl ?_
                  refine G_nil ?_
                  refine nx_n ?_
                  refine G_ret ?_
                  refine nx_r ?_
                  refine bk_r ?_
                  refine nx_r ?_
                  refine nx_r ?_
                  refine bk_r ?_
                  refine nx_r ?_
                  obtain rfl := Option.some.inj h
                  exact endG1 rfl rfl (cv_sel [] 11 rfl rfl) ⟨rfl, rfl⟩
                · replace h := cond_f g54 h
                  refine G_skip ?_
                  refine nx_n ?_
                  exact ⟨_, _, ⟨y45.1, y52.2.at_, A46, n46, c46, M53, h, rfl, rfl⟩, sub_cons rfl (sub_cons rfl (sub_cons rfl (sub_cons rfl (sub_cons rfl sub_nil)))), cv_sel [9, 5, 1, 0] 11 rfl rfl⟩
            · rintro _ _ ⟨p33, p34, A33, n33, c33, M34, h, rfl, rfl⟩
              refine G_seq ?_
              refine G_region ?_
              refine G_ev (ev_move rfl) rfl rfl rfl ?_
              obtain ⟨y55, hy55, h⟩ := bind_elim h
              refine G_opd (op_callR (remset_Set_List_ok hy55) call14 rfl (mem_cons (lent_box (i := 3) rfl) (mem_cons (lent_map (i := 2) rfl) mem_nil)) remset_Set_List_free) rfl rfl rfl ?_
              rintro _ _ ⟨_, ⟨A56, n56, c56, rfl, rfl⟩, rfl⟩
              refine G_ev (ev_move rfl) rfl rfl rfl ?_
              obtain ⟨y57, hy57, h⟩ := bind_elim h
              refine G_opd (op_callR (pantomimeref15_SameInts_ok hy57) call13 rfl (mem_cons (lent_own (i := 0) rfl) (mem_cons (lent_ro (i := 2) rfl rfl) mem_nil)) pantomimeref15_SameInts_free) rfl rfl rfl ?_
              rintro _ _ ⟨_, ⟨rfl, rfl⟩, rfl⟩
              refine G_ev (ev_not rfl) rfl rfl rfl ?_
              refine G_ev (ev_move rfl) rfl rfl rfl ?_
              obtain ⟨b58, hb58, h⟩ := bind_elim h
              refine G_segb 6 85 b58 ?_ ?_
              · clear h
                refine G_case 79 rfl (fun g58 => ?_) (fun g58 => ?_)
                · have h := cond_t g58 hb58
                  refine G_no (g_ft g58 rfl) rfl ?_
                  refine G_no (g_ft g58 rfl) rfl ?_
                  refine G_no (g_ft g58 rfl) rfl ?_
                  refine G_no (g_ft g58 rfl) rfl ?_
                  refine G_no (g_ft g58 rfl) rfl ?_
                  refine G_ev (ev_pick_t' g58 rfl rfl) rfl rfl rfl ?_
                  obtain rfl := Option.some.inj h
                  exact G_joined (sub_cons rfl (sub_skip (sub_skip (sub_skip (sub_skip (sub_skip (sub_skip sub_refl rfl) rfl) rfl) rfl) rfl) rfl)) (cv_sel [0, 1, 2, 3, 4] 5 rfl rfl)
                · have h := cond_f g58 hb58
                  refine G_ev (ev_move rfl) rfl (g_ff g58 rfl) rfl ?_
                  obtain ⟨y59, hy59, h⟩ := bind_elim h
                  refine G_opd (op_callR (remset_Set_Len_ok hy59) call15 rfl (mem_cons (lent_box (i := 4) rfl) (mem_cons (lent_map (i := 3) rfl) mem_nil)) remset_Set_Len_free) rfl (g_ff g58 rfl) rfl ?_
                  rintro _ _ ⟨_, ⟨rfl, rfl⟩, rfl⟩
                  refine G_ev (ev_move rfl) rfl (g_ff g58 rfl) rfl ?_
                  refine G_rd (rd_len 2 rfl els_sl rfl Try.underlying35) rfl (g_ff g58 rfl) rfl ?_
                  refine G_ev (ev_ne rfl rfl) rfl (g_ff g58 rfl) rfl ?_
                  refine G_ev (ev_pick_f' g58 rfl rfl) rfl rfl rfl ?_
                  obtain rfl := Option.some.inj h
                  exact G_joined (sub_cons rfl (sub_skip (sub_skip (sub_skip (sub_skip (sub_skip (sub_skip sub_refl rfl) rfl) rfl) rfl) rfl) rfl)) (cv_sel [0, 1, 2, 3, 4] 5 rfl rfl)
              refine G_nil ?_
              refine nx_n ?_
              refine G_cond rfl (fun g60 => ?_) (fun g60 => ?_)
              · replace h := cond_t g60 h
                refine G_seq ?_
                refine G_region ?_
                refine G_ev (ev_assign rfl) rfl rfl rfl ?_
                refine G_nil ?_
                refine nx_n ?_
                refine G_ret ?_
                refine bk_r ?_
                refine nx_r ?_
                refine nx_r ?_
                refine bk_r ?_
                refine nx_r ?_
                obtain rfl := Option.some.inj h
                exact endG1 rfl rfl (cv_sel [] 5 rfl rfl) ⟨rfl, rfl⟩
              · replace h := cond_f g60 h
                refine G_skip ?_
                refine bk_n ?_
                refine nx_n ?_
                refine G_region ?_
                refine G_ev (ev_move rfl) rfl rfl rfl ?_
                obtain ⟨q61, h⟩ := req_elim h
                refine G_ev (ev_add rfl rfl q61.1 q61.2) rfl rfl rfl ?_
                refine G_ev (ev_assign rfl) rfl rfl rfl ?_
                refine G_nil ?_
                refine nx_n ?_
                exact ⟨m26, _, _, Nat.lt_succ_self _, ⟨p33, p28 + 1, p34, A33, n33, c33, M34, h, rfl, rfl⟩, sub_cons rfl (sub_cons rfl (sub_cons rfl (sub_cons rfl (sub_cons rfl sub_nil)))), cv_sel [1, 2, 3, 4] 5 rfl rfl⟩
          · replace h := cond_f g31 h
            refine G_exit ?_
            refine nx_e ?_
            refine nx_e ?_
            refine bk_x ?_
            refine nx_n ?_
            exact ⟨_, _, ⟨h, rfl, rfl⟩, sub_cons rfl sub_nil, cv_sel [] 4 rfl rfl⟩
        · rintro _ _ ⟨h, rfl, rfl⟩
          refine G_seq ?_
          refine G_region ?_
          obtain ⟨y62, hy62, h⟩ := bind_elim h
          refine G_opd (op_callR (pantomimelaw21_lives_ok hy62) call9 rfl (mem_nil) pantomimelaw21_lives_free) rfl rfl rfl ?_
          rintro _ _ ⟨_, ⟨rfl, rfl⟩, rfl⟩
          refine G_ev (ev_assign rfl) rfl rfl rfl ?_
          refine G_nil ?_
          refine nx_n ?_
          refine G_ret ?_
          obtain rfl := Option.some.inj h
          exact endG1 rfl rfl (cv_sel [] 0 rfl rfl) ⟨rfl, rfl⟩
theorem pantomimelaw21_RemsetNotes_free {r : Bool} : ∀ v post, ((fun (u : Value) (post : List Chunk) => u = .bool r ∧ post = [])) v post → ∀ c ∈ post, Free c := by
  rintro _ _ ⟨rfl, rfl⟩; exact mem_nil
/-! (*pantomime/remset.Set).Renew -/
def remset_Set_Renew_l8 (N : Nat) (a1 : DMemory) : Nat → Int → (List (Int × Bool)) → Option DSet
  | 0, _, _ => none
  | m8 + 1, p9, p10 => bif decide (p9 < (a1.Old.length : Int)) then ((getE a1.Old p9).bind fun x12 => req (in64 (2 * p9)) (req (in64 ((2 * p9) + 2)) ((remset_Set_Note_O N (⟨p10⟩ : DSet) ((2 * p9) + 2) x12).bind fun y19 => req (in64 (p9 + 1)) ((remset_Set_Renew_l8 N a1 m8) (p9 + 1) y19.2.at_)))) else (some (⟨p10⟩ : DSet))
theorem remset_Set_Renew_l8_s {N m8 : Nat} {a1 : DMemory} {p9 : Int} {p10 : (List (Int × Bool))} : remset_Set_Renew_l8 N a1 (m8 + 1) p9 p10 = bif decide (p9 < (a1.Old.length : Int)) then ((getE a1.Old p9).bind fun x12 => req (in64 (2 * p9)) (req (in64 ((2 * p9) + 2)) ((remset_Set_Note_O N (⟨p10⟩ : DSet) ((2 * p9) + 2) x12).bind fun y19 => req (in64 (p9 + 1)) ((remset_Set_Renew_l8 N a1 m8) (p9 + 1) y19.2.at_)))) else (some (⟨p10⟩ : DSet)) := rfl
def remset_Set_Renew_O (N : Nat) (a0 : DSet) (a1 : DMemory) : Option DSet :=
  (remset_Set_Clear_O N a0).bind fun y6 => remset_Set_Renew_l8 N a1 N 0 y6.at_
theorem remset_Set_Renew_ok {N : Nat} {a0 : DSet} {a1 : DMemory} {r : DSet} (h : remset_Set_Renew_O N a0 a1 = some r) {A3 : Option Addr} {n3 c3 : Nat} {A4 : Option Addr} {n4 c4 : Nat} {B1 : Nat} {M2 : Nat} : Okc Try.prog 18 [.pointer (some ⟨B1, 0, none⟩), .agg #[.slice A3 n3 c3, .slice A4 n4 c4]] ([slC rDCell (.slice A3 n3 c3) a1.Young, slC rDCell (.slice A4 n4 c4) a1.Old, boxC B1 56 [.map (some M2)], mapC ekI evB M2 a0.at_]) (fun (u : Value) (post : List Chunk) => ∃ M0, u = .tuple #[] ∧ post = [boxC B1 56 [.map (some M0)], mapC ekI evB M0 r.at_]) := by
  refine ok_E Try.func18 rfl rfl ?_
  simp only [envOf]
  refine G_seq ?_
  refine G_region ?_
  refine G_opd (op_box rfl rfl) rfl rfl rfl ?_
  rintro _ _ ⟨B5, rfl, rfl⟩
  refine G_nil ?_
  refine nx_n ?_
  refine G_seq ?_
  refine G_seq ?_
  refine G_region ?_
  refine G_ev (ev_move rfl) rfl rfl rfl ?_
  refine G_ev (ev_nil_eq rfl Try.underlying31) rfl rfl rfl ?_
  refine G_nil ?_
  refine nx_n ?_
  refine G_cond_f rfl ?_
  refine G_skip ?_
  refine nx_n ?_
  refine G_seq ?_
  refine G_region ?_
  refine G_ev (ev_move rfl) rfl rfl rfl ?_
  obtain ⟨y6, hy6, h⟩ := bind_elim h
  refine G_opd (op_call (remset_Set_Clear_ok hy6) call16 rfl (cv_take [] [3, 4] [0, 1, 2] 5 rfl)) rfl rfl rfl ?_
  rintro _ _ ⟨_, ⟨M7, rfl, rfl⟩, rfl⟩
  refine G_norm ([boxC B1 56 [.map (some M7)], mapC ekI evB M7 y6.at_, boxC B5 42 [.slice A3 n3 c3, .slice A4 n4 c4], slC rDCell (.slice A3 n3 c3) a1.Young, slC rDCell (.slice A4 n4 c4) a1.Old]) rfl ?_
  refine G_nil ?_
  refine nx_n ?_
  refine G_seq ?_
  refine G_region ?_
  refine G_ev (ev_fa rfl fa_42_1) rfl rfl rfl ?_
  refine G_rd (rd_box1 2 rfl rfl one24 rfl) rfl rfl rfl ?_
  refine G_rd (rd_len 4 rfl els_sl rfl Try.underlying24) rfl rfl rfl ?_
  refine G_ev (ev_move rfl) rfl rfl rfl ?_
  refine G_nil ?_
  refine nx_n ?_
  refine G_block ?_
  refine G_loopF (fun m s L => ∃ (p9 : Int) (p10 : (List (Int × Bool))) (M10 : Nat), remset_Set_Renew_l8 N a1 m p9 p10 = some r ∧ s = [(0, .pointer (some ⟨B1, 0, none⟩)), (11, .slice A4 n4 c4), (12, .int .i64 (a1.Old.length : Int)), (13, .int .i64 p9)] ∧ L = [slC rDCell (.slice A4 n4 c4) a1.Old, mapC ekI evB M10 p10, boxC B1 56 [.map (some M10)]]) N _ _ ⟨0, y6.at_, M7, h, rfl, rfl⟩ (sub_cons rfl (sub_cons rfl (sub_cons rfl (sub_cons rfl sub_nil)))) (cv_sel [4, 1, 0] 5 rfl rfl) ?_
  rintro (_ | m8) _ _ ⟨p9, p10, M10, h, rfl, rfl⟩
  · exact none_some h
  rw [remset_Set_Renew_l8_s] at h
  refine G_seq ?_
  refine G_region ?_
  refine G_ev (ev_lt rfl rfl) rfl rfl rfl ?_
  refine G_nil ?_
  refine nx_n ?_
  refine G_seq ?_
  refine G_cond rfl (fun g11 => ?_) (fun g11 => ?_)
  · replace h := cond_t g11 h
    refine G_skip ?_
    refine nx_n ?_
    refine G_seq ?_
    refine G_block ?_
    refine G_seq ?_
    refine G_region ?_
    refine G_ev (ev_move rfl) rfl rfl rfl ?_
    obtain ⟨x12, hx12, h⟩ := bind_elim h
    obtain ⟨lx12, ux12, hx12⟩ := getE_elim hx12
    refine G_rd (rd_idx 0 rfl els_sl rfl rfl Try.underlying24 size27 lx12 ux12) rfl rfl rfl ?_
    refine G_row 0 rfl hx12 (open_DCell x12) ?_
    rintro _ _ ⟨A13, n13, c13, A14, n14, c14, rfl, rfl⟩
    refine G_rd (rd_rowS (us := [.int .i64 x12.Kind, .int .i64 x12.Shape, .int .i64 x12.Flags, .int .i64 x12.Age, .slice A13 n13 c13, .slice A14 n14 c14]) 0 rfl rfl agg27 rfl) rfl rfl rfl ?_
    refine G_opd (op_alloc zero27 rfl) rfl rfl rfl ?_
    rintro _ _ ⟨B16, rfl, rfl⟩
    refine G_ev (ev_assign rfl) rfl rfl rfl ?_
    refine G_opn (op_store (us := [.int .i64 x12.Kind, .int .i64 x12.Shape, .int .i64 x12.Flags, .int .i64 x12.Age, .slice A13 n13 c13, .slice A14 n14 c14]) (cs' := [.int .i64 x12.Kind, .int .i64 x12.Shape, .int .i64 x12.Flags, .int .i64 x12.Age, .slice A13 n13 c13, .slice A14 n14 c14]) 0 rfl rfl rfl rfl size27 rfl rfl rfl) rfl rfl ?_
    rintro _ _ rfl
    refine G_norm ([boxC B16 27 [.int .i64 x12.Kind, .int .i64 x12.Shape, .int .i64 x12.Flags, .int .i64 x12.Age, .slice A13 n13 c13, .slice A14 n14 c14], rowC (elemQ (.slice A4 n4 c4) p9.toNat 6 0) [.int .i64 x12.Kind, .int .i64 x12.Shape, .int .i64 x12.Flags, .int .i64 x12.Age, .slice A13 n13 c13, .slice A14 n14 c14], slC rDValue (.slice A13 n13 c13) x12.Slots, slC rDValue (.slice A14 n14 c14) x12.More, slC rDCell (.slice A4 n4 c4) a1.Old, mapC ekI evB M10 p10, boxC B1 56 [.map (some M10)]]) rfl ?_
    refine G_nil ?_
    refine nx_n ?_
    refine G_region ?_
    refine G_ev (ev_move rfl) rfl rfl rfl ?_
    refine G_ev (ev_move rfl) rfl rfl rfl ?_
    obtain ⟨q17, h⟩ := req_elim h
    refine G_ev (ev_mul rfl rfl q17.1 q17.2) rfl rfl rfl ?_
    obtain ⟨q18, h⟩ := req_elim h
    refine G_ev (ev_add rfl rfl q18.1 q18.2) rfl rfl rfl ?_
    refine G_rd (rd_boxS (us := [.int .i64 x12.Kind, .int .i64 x12.Shape, .int .i64 x12.Flags, .int .i64 x12.Age, .slice A13 n13 c13, .slice A14 n14 c14]) 0 rfl rfl agg27 rfl) rfl rfl rfl ?_
    obtain ⟨y19, hy19, h⟩ := bind_elim h
    refine G_opd (op_call (remset_Set_Note_ok hy19) call12 rfl (cv_take [2, 3] [6, 5] [0, 1, 2, 3, 4] 7 rfl)) rfl rfl rfl ?_
    rintro _ _ ⟨_, ⟨M20, rfl, rfl⟩, rfl⟩
    refine G_norm ([boxC B1 56 [.map (some M20)], mapC ekI evB M20 y19.2.at_, boxC B16 27 [.int .i64 x12.Kind, .int .i64 x12.Shape, .int .i64 x12.Flags, .int .i64 x12.Age, .slice A13 n13 c13, .slice A14 n14 c14], rowC (elemQ (.slice A4 n4 c4) p9.toNat 6 0) [.int .i64 x12.Kind, .int .i64 x12.Shape, .int .i64 x12.Flags, .int .i64 x12.Age, .slice A13 n13 c13, .slice A14 n14 c14], slC rDValue (.slice A13 n13 c13) x12.Slots, slC rDValue (.slice A14 n14 c14) x12.More, slC rDCell (.slice A4 n4 c4) a1.Old]) rfl ?_
    refine G_nil ?_
    refine bk_n ?_
    refine nx_n ?_
    refine G_region ?_
    obtain ⟨q21, h⟩ := req_elim h
    refine G_ev (ev_add rfl rfl q21.1 q21.2) rfl rfl rfl ?_
    refine G_ev (ev_move rfl) rfl rfl rfl ?_
    refine G_nil ?_
    refine nx_n ?_
    exact ⟨m8, _, _, Nat.lt_succ_self _, ⟨p9 + 1, y19.2.at_, M20, h, rfl, rfl⟩, sub_cons rfl (sub_cons rfl (sub_cons rfl (sub_cons rfl sub_nil))), cv_sel [6, 1, 0] 7 rfl rfl⟩
  · replace h := cond_f g11 h
    refine G_exit ?_
    refine nx_e ?_
    refine nx_e ?_
    refine bk_x ?_
    obtain rfl := Option.some.inj h
    exact endG0n rfl (cv_sel [2, 1] 3 rfl rfl) ⟨_, rfl, rfl⟩
def remset_Set_Renew_n_O (N : Nat) (a1 : DMemory) : Option Unit :=
  some ()
theorem remset_Set_Renew_n_ok {N : Nat} {a1 : DMemory} {r : Unit} (h : remset_Set_Renew_n_O N a1 = some r) {A1 : Option Addr} {n1 c1 : Nat} {A2 : Option Addr} {n2 c2 : Nat} : Okc Try.prog 18 [.pointer none, .agg #[.slice A1 n1 c1, .slice A2 n2 c2]] ([slC rDCell (.slice A1 n1 c1) a1.Young, slC rDCell (.slice A2 n2 c2) a1.Old]) (fun (u : Value) (post : List Chunk) => u = .tuple #[] ∧ post = []) := by
  refine ok_E Try.func18 rfl rfl ?_
  simp only [envOf]
  refine G_seq ?_
  refine G_region ?_
  refine G_opd (op_box rfl rfl) rfl rfl rfl ?_
  rintro _ _ ⟨B3, rfl, rfl⟩
  refine G_nil ?_
  refine nx_n ?_
  refine G_seq ?_
  refine G_seq ?_
  refine G_region ?_
  refine G_ev (ev_move rfl) rfl rfl rfl ?_
  refine G_ev (ev_nil_eq rfl Try.underlying31) rfl rfl rfl ?_
  refine G_nil ?_
  refine nx_n ?_
  refine G_cond_t rfl ?_
  refine G_ret ?_
  refine nx_r ?_
  obtain rfl := Option.some.inj h
  exact endG0 rfl (cv_sel [] 3 rfl rfl) ⟨rfl, rfl⟩
theorem remset_Set_Renew_n_free : ∀ v post, ((fun (u : Value) (post : List Chunk) => u = .tuple #[] ∧ post = [])) v post → ∀ c ∈ post, Free c := by
  rintro _ _ ⟨rfl, rfl⟩; exact mem_nil
/-! pantomime/pantomimelaw21.RemsetNobody -/
def pantomimelaw21_RemsetNobody_O (N : Nat) (a0 : Int) (a1 : DMemory) : Option Bool :=
  (pantomimelaw21_few_O N a1.Young).bind fun y4 => (bif !y4 then (some true) else ((pantomimelaw21_few_O N a1.Old).bind fun y6 => some (!y6))).bind fun b5 => bif b5 then ((pantomimelaw21_lives_O N).bind fun y8 => some y8) else ((remset_Set_Clear_n_O N).bind fun y9 => (remset_Set_Renew_n_O N a1).bind fun y10 => (pantomimelaw21_object_O N 3).bind fun y11 => (remset_Set_Note_n_O N a0 y11).bind fun y14 => (bif !y14 then ((remset_Set_List_n_O N).bind fun y16 => some (decide ((y16.length : Int) = 0))) else (some false)).bind fun b15 => (bif b15 then ((remset_Set_Len_n_O N).bind fun y19 => some (decide (y19 = 0))) else (some false)).bind fun b18 => (bif b18 then ((pantomimelaw21_lives_O N).bind fun y21 => some y21) else (some false)).bind fun b20 => some b20)
theorem pantomimelaw21_RemsetNobody_ok {N : Nat} {a0 : Int} {a1 : DMemory} {r : Bool} (h : pantomimelaw21_RemsetNobody_O N a0 a1 = some r) {A1 : Option Addr} {n1 c1 : Nat} {A2 : Option Addr} {n2 c2 : Nat} : Okc Try.prog 5 [.int .i64 a0, .agg #[.slice A1 n1 c1, .slice A2 n2 c2]] ([slC rDCell (.slice A1 n1 c1) a1.Young, slC rDCell (.slice A2 n2 c2) a1.Old]) (fun (u : Value) (post : List Chunk) => u = .bool r ∧ post = []) := by
  refine ok_E Try.func5 rfl rfl ?_
  simp only [envOf]
  refine G_seq ?_
  refine G_region ?_
  refine G_opd (op_box rfl rfl) rfl rfl rfl ?_
  rintro _ _ ⟨B3, rfl, rfl⟩
  refine G_ev (ev_assign rfl) rfl rfl rfl ?_
  refine G_nil ?_
  refine nx_n ?_
  refine G_seq ?_
  refine G_seq ?_
  refine G_region ?_
  refine G_ev (ev_fa0 rfl fa_42_0) rfl rfl rfl ?_
  refine G_rd (rd_box1 0 rfl rfl one24 rfl) rfl rfl rfl ?_
  obtain ⟨y4, hy4, h⟩ := bind_elim h
  refine G_opd (op_callR (pantomimelaw21_few_ok hy4) call10 rfl (mem_cons (lent_ro (i := 1) rfl rfl) mem_nil) pantomimelaw21_few_free) rfl rfl rfl ?_
  rintro _ _ ⟨_, ⟨rfl, rfl⟩, rfl⟩
  refine G_ev (ev_not rfl) rfl rfl rfl ?_
  refine G_ev (ev_move rfl) rfl rfl rfl ?_
  obtain ⟨b5, hb5, h⟩ := bind_elim h
  refine G_segb 5 15 b5 ?_ ?_
  · clear h
    refine G_case 10 rfl (fun g5 => ?_) (fun g5 => ?_)
    · have h := cond_t g5 hb5
      refine G_no (g_ft g5 rfl) rfl ?_
      refine G_no (g_ft g5 rfl) rfl ?_
      refine G_no (g_ft g5 rfl) rfl ?_
      refine G_no (g_ft g5 rfl) rfl ?_
      refine G_ev (ev_pick_t' g5 rfl rfl) rfl rfl rfl ?_
      obtain rfl := Option.some.inj h
      exact G_joined (sub_cons rfl (sub_skip (sub_skip (sub_skip (sub_skip (sub_skip sub_refl rfl) rfl) rfl) rfl) rfl)) (cv_sel [0, 1, 2] 3 rfl rfl)
    · have h := cond_f g5 hb5
      refine G_ev (ev_fa rfl fa_42_1) rfl (g_ff g5 rfl) rfl ?_
      refine G_rd (rd_box1 0 rfl rfl one24 rfl) rfl (g_ff g5 rfl) rfl ?_
      obtain ⟨y6, hy6, h⟩ := bind_elim h
      refine G_opd (op_callR (pantomimelaw21_few_ok hy6) call10 rfl (mem_cons (lent_ro (i := 2) rfl rfl) mem_nil) pantomimelaw21_few_free) rfl (g_ff g5 rfl) rfl ?_
      rintro _ _ ⟨_, ⟨rfl, rfl⟩, rfl⟩
      refine G_ev (ev_not rfl) rfl (g_ff g5 rfl) rfl ?_
      refine G_ev (ev_pick_f' g5 rfl rfl) rfl rfl rfl ?_
      obtain rfl := Option.some.inj h
      exact G_joined (sub_cons rfl (sub_skip (sub_skip (sub_skip (sub_skip (sub_skip sub_refl rfl) rfl) rfl) rfl) rfl)) (cv_sel [0, 1, 2] 3 rfl rfl)
  refine G_nil ?_
  refine nx_n ?_
  refine G_cond rfl (fun g7 => ?_) (fun g7 => ?_)
  · replace h := cond_t g7 h
    refine G_seq ?_
    refine G_region ?_
    obtain ⟨y8, hy8, h⟩ := bind_elim h
    refine G_opd (op_callR (pantomimelaw21_lives_ok hy8) call9 rfl (mem_nil) pantomimelaw21_lives_free) rfl rfl rfl ?_
    rintro _ _ ⟨_, ⟨rfl, rfl⟩, rfl⟩
    refine G_ev (ev_assign rfl) rfl rfl rfl ?_
    refine G_nil ?_
    refine nx_n ?_
    refine G_ret ?_
    refine nx_r ?_
    obtain rfl := Option.some.inj h
    exact endG1 rfl rfl (cv_sel [] 3 rfl rfl) ⟨rfl, rfl⟩
  · replace h := cond_f g7 h
    refine G_skip ?_
    refine nx_n ?_
    refine G_seq ?_
    refine G_region ?_
    refine G_ev (ev_assign rfl) rfl rfl rfl ?_
    refine G_nil ?_
    refine nx_n ?_
    refine G_seq ?_
    refine G_region ?_
    refine G_ev (ev_move rfl) rfl rfl rfl ?_
    obtain ⟨y9, hy9, h⟩ := bind_elim h
    refine G_opd (op_callR (remset_Set_Clear_n_ok hy9) call16 rfl (mem_nil) remset_Set_Clear_n_free) rfl rfl rfl ?_
    rintro _ _ ⟨_, ⟨rfl, rfl⟩, rfl⟩
    refine G_nil ?_
    refine nx_n ?_
    refine G_seq ?_
    refine G_region ?_
    refine G_ev (ev_move rfl) rfl rfl rfl ?_
    refine G_rd (rd_boxS (us := [.slice A1 n1 c1, .slice A2 n2 c2]) 0 rfl rfl agg42 rfl) rfl rfl rfl ?_
    obtain ⟨y10, hy10, h⟩ := bind_elim h
    refine G_opd (op_callR (remset_Set_Renew_n_ok hy10) call18 rfl (mem_cons (lent_ro (i := 1) rfl rfl) (mem_cons (lent_ro (i := 2) rfl rfl) mem_nil)) remset_Set_Renew_n_free) rfl rfl rfl ?_
    rintro _ _ ⟨_, ⟨rfl, rfl⟩, rfl⟩
    refine G_nil ?_
    refine nx_n ?_
    refine G_seq ?_
    refine G_region ?_
    refine G_ev (ev_move rfl) rfl rfl rfl ?_
    refine G_ev (ev_move rfl) rfl rfl rfl ?_
    obtain ⟨y11, hy11, h⟩ := bind_elim h
    refine G_opd (op_call (pantomimelaw21_object_ok hy11) call19 rfl (cv_take [] [] [0, 1, 2] 3 rfl)) rfl rfl rfl ?_
    rintro _ _ ⟨_, ⟨A12, n12, c12, A13, n13, c13, rfl, rfl⟩, rfl⟩
    refine G_norm ([ownC rDValue 63 (.slice A12 n12 c12) y11.Slots, ownC rDValue 63 (.slice A13 n13 c13) y11.More, boxC B3 42 [.slice A1 n1 c1, .slice A2 n2 c2], slC rDCell (.slice A1 n1 c1) a1.Young, slC rDCell (.slice A2 n2 c2) a1.Old]) rfl ?_
    obtain ⟨y14, hy14, h⟩ := bind_elim h
    refine G_opd (op_callR (remset_Set_Note_n_ok hy14) call12 rfl (mem_cons (lent_own (i := 0) rfl) (mem_cons (lent_own (i := 1) rfl) mem_nil)) remset_Set_Note_n_free) rfl rfl rfl ?_
    rintro _ _ ⟨_, ⟨rfl, rfl⟩, rfl⟩
    refine G_ev (ev_not rfl) rfl rfl rfl ?_
    refine G_ev (ev_move rfl) rfl rfl rfl ?_
    obtain ⟨b15, hb15, h⟩ := bind_elim h
    refine G_segb 5 32 b15 ?_ ?_
    · clear h
      refine G_case 27 rfl (fun g15 => ?_) (fun g15 => ?_)
      · have h := cond_t g15 hb15
        refine G_ev (ev_move rfl) rfl (g_tt g15 rfl) rfl ?_
        obtain ⟨y16, hy16, h⟩ := bind_elim h
        refine G_opd (op_callR (remset_Set_List_n_ok hy16) call14 rfl (mem_nil) remset_Set_List_n_free) rfl (g_tt g15 rfl) rfl ?_
        rintro _ _ ⟨_, ⟨A17, n17, c17, rfl, rfl⟩, rfl⟩
        refine G_rd (rd_len 0 rfl els_own rfl Try.underlying35) rfl (g_tt g15 rfl) rfl ?_
        refine G_ev (ev_eq rfl rfl) rfl (g_tt g15 rfl) rfl ?_
        refine G_ev (ev_pick_t' g15 rfl rfl) rfl rfl rfl ?_
        obtain rfl := Option.some.inj h
        exact G_joined (sub_cons rfl (sub_skip (sub_skip (sub_skip (sub_skip (sub_skip sub_refl rfl) rfl) rfl) rfl) rfl)) (cv_sel [1, 2, 3, 4, 5] 6 rfl rfl)
      · have h := cond_f g15 hb15
        refine G_no (g_tf g15 rfl) rfl ?_
        refine G_no (g_tf g15 rfl) rfl ?_
        refine G_no (g_tf g15 rfl) rfl ?_
        refine G_no (g_tf g15 rfl) rfl ?_
        refine G_ev (ev_pick_f' g15 rfl rfl) rfl rfl rfl ?_
        obtain rfl := Option.some.inj h
        exact G_joined (sub_cons rfl (sub_skip (sub_skip (sub_skip (sub_skip (sub_skip sub_refl rfl) rfl) rfl) rfl) rfl)) (cv_sel [0, 1, 2, 3, 4] 5 rfl rfl)
    refine G_ev (ev_move rfl) rfl rfl rfl ?_
    obtain ⟨b18, hb18, h⟩ := bind_elim h
    refine G_segb 4 37 b18 ?_ ?_
    · clear h
      refine G_case 33 rfl (fun g18 => ?_) (fun g18 => ?_)
      · have h := cond_t g18 hb18
        refine G_ev (ev_move rfl) rfl (g_tt g18 rfl) rfl ?_
        obtain ⟨y19, hy19, h⟩ := bind_elim h
        refine G_opd (op_callR (remset_Set_Len_n_ok hy19) call15 rfl (mem_nil) remset_Set_Len_n_free) rfl (g_tt g18 rfl) rfl ?_
        rintro _ _ ⟨_, ⟨rfl, rfl⟩, rfl⟩
        refine G_ev (ev_eq rfl rfl) rfl (g_tt g18 rfl) rfl ?_
        refine G_ev (ev_pick_t' g18 rfl rfl) rfl rfl rfl ?_
        obtain rfl := Option.some.inj h
        exact G_joined (sub_cons rfl (sub_skip (sub_skip (sub_skip (sub_skip sub_refl rfl) rfl) rfl) rfl)) (cv_sel [0, 1, 2, 3, 4] 5 rfl rfl)
      · have h := cond_f g18 hb18
        refine G_no (g_tf g18 rfl) rfl ?_
        refine G_no (g_tf g18 rfl) rfl ?_
        refine G_no (g_tf g18 rfl) rfl ?_
        refine G_ev (ev_pick_f' g18 rfl rfl) rfl rfl rfl ?_
        obtain rfl := Option.some.inj h
        exact G_joined (sub_cons rfl (sub_skip (sub_skip (sub_skip (sub_skip sub_refl rfl) rfl) rfl) rfl)) (cv_sel [0, 1, 2, 3, 4] 5 rfl rfl)
    refine G_ev (ev_move rfl) rfl rfl rfl ?_
    obtain ⟨b20, hb20, h⟩ := bind_elim h
    refine G_segb 2 40 b20 ?_ ?_
    · clear h
      refine G_case 38 rfl (fun g20 => ?_) (fun g20 => ?_)
      · have h := cond_t g20 hb20
        obtain ⟨y21, hy21, h⟩ := bind_elim h
        refine G_opd (op_callR (pantomimelaw21_lives_ok hy21) call9 rfl (mem_nil) pantomimelaw21_lives_free) rfl (g_tt g20 rfl) rfl ?_
        rintro _ _ ⟨_, ⟨rfl, rfl⟩, rfl⟩
        refine G_ev (ev_pick_t' g20 rfl rfl) rfl rfl rfl ?_
        obtain rfl := Option.some.inj h
        exact G_joined (sub_cons rfl (sub_skip (sub_skip sub_refl rfl) rfl)) (cv_sel [0, 1, 2, 3, 4] 5 rfl rfl)
      · have h := cond_f g20 hb20
        refine G_no (g_tf g20 rfl) rfl ?_
        refine G_ev (ev_pick_f' g20 rfl rfl) rfl rfl rfl ?_
        obtain rfl := Option.some.inj h
        exact G_joined (sub_cons rfl (sub_skip (sub_skip sub_refl rfl) rfl)) (cv_sel [0, 1, 2, 3, 4] 5 rfl rfl)
    refine G_ev (ev_assign rfl) rfl rfl rfl ?_
    refine G_nil ?_
    refine nx_n ?_
    refine G_ret ?_
    obtain rfl := Option.some.inj h
    exact endG1 rfl rfl (cv_sel [] 5 rfl rfl) ⟨rfl, rfl⟩
theorem pantomimelaw21_RemsetNobody_free {r : Bool} : ∀ v post, ((fun (u : Value) (post : List Chunk) => u = .bool r ∧ post = [])) v post → ∀ c ∈ post, Free c := by
  rintro _ _ ⟨rfl, rfl⟩; exact mem_nil
end Go.Proofs.Ytancgbfkpoeffaa

