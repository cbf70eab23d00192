/- Pure functions and contracts of Go functions (printed by all3.py). -/
import Derived.Test.YtmbaennilhdieaaR32
namespace Go.Proofs.Ytmbaennilhdieaa
open Go.RowKit

/-! pantomime/pantomimelaw19.goes -/
abbrev pantomimelaw19_goes_C3 (B12 : Nat) (A11 : Option Addr) (n11 : Nat) (c11 : Nat) (y8 : (DValue)) (y9 : (DValue)) (A10 : Option Addr) (n10 : Nat) (c10 : Nat) (A7 : Option Addr) (n7 : Nat) (c7 : Nat) (B6 : Nat) (A4 : Option Addr) (n4 : Nat) (c4 : Nat) (A5 : Option Addr) (n5 : Nat) (c5 : Nat) (y1 : (DValue)) (y2 : (DValue)) (A3 : Option Addr) (n3 : Nat) (c3 : Nat) : List Chunk := [boxC B12 24 [.slice A11 n11 c11, .slice none 0 0], ownC rDCell 42 (.slice A11 n11 c11) ([(⟨8, 0, 0, 0, ([(⟨1, 0, ⟨#[]⟩⟩ : DValue)] : List DValue), ([y8, y9] : List DValue)⟩ : DCell), (⟨11, 0, 0, 0, [], []⟩ : DCell), (⟨11, 0, 0, 0, [], []⟩ : DCell)] : List DCell), slC rDValue (.slice A10 n10 c10) ([y8, y9] : List DValue), slC rDValue (.slice A7 n7 c7) ([(⟨1, 0, ⟨#[]⟩⟩ : DValue)] : List DValue), boxC B6 24 [.slice A4 n4 c4, .slice A5 n5 c5], ownC rDCell 42 (.slice A5 n5 c5) ([(⟨11, 0, 0, 0, [], []⟩ : DCell)] : List DCell), ownC rDCell 42 (.slice A4 n4 c4) ([(⟨11, 0, 0, 0, [], ([y1, y2] : List DValue)⟩ : DCell), (⟨11, 0, 0, 0, [], []⟩ : DCell)] : List DCell), slC rDValue (.slice A3 n3 c3) ([y1, y2] : List DValue)]
def pantomimelaw19_goes_O (N : Nat) : Option Bool :=
  (pantomimelaw19_object_O N 3).bind fun y1 => (pantomimelaw19_object_O N 2).bind fun y2 => (pantomimelaw19_object_O N 3).bind fun y8 => (pantomimelaw19_object_O N 5).bind fun y9 => (pantomimelaw19_object_O N 1).bind fun y13 => (reach_Order_O N (⟨([(⟨11, 0, 0, 0, [], ([y1, y2] : List DValue)⟩ : DCell), (⟨11, 0, 0, 0, [], []⟩ : DCell)] : List DCell), ([(⟨11, 0, 0, 0, [], []⟩ : DCell)] : List DCell)⟩ : DMemory) ([y13] : List DValue)).bind fun y16 => (pantomimeref19_Same_O N y16 ([1, 3, 2] : List Int)).bind fun y21 => (bif y21 then ((pantomimelaw19_object_O N 1).bind fun y23 => (reach_Live_O N (⟨([(⟨11, 0, 0, 0, [], ([y1, y2] : List DValue)⟩ : DCell), (⟨11, 0, 0, 0, [], []⟩ : DCell)] : List DCell), ([(⟨11, 0, 0, 0, [], []⟩ : DCell)] : List DCell)⟩ : DMemory) ([y23] : List DValue)).bind fun y26 => (pantomimeref19_Same_O N y26 ([1, 2, 3] : List Int)).bind fun y31 => some y31) else (some false)).bind fun b22 => ((bif b22 then ((pantomimelaw19_object_O N 1).bind fun y33 => (reach_Live_O N (⟨([(⟨8, 0, 0, 0, ([(⟨1, 0, ⟨#[]⟩⟩ : DValue)] : List DValue), ([y8, y9] : List DValue)⟩ : DCell), (⟨11, 0, 0, 0, [], []⟩ : DCell), (⟨11, 0, 0, 0, [], []⟩ : DCell)] : List DCell), []⟩ : DMemory) ([y33] : List DValue)).bind fun y36 => (pantomimeref19_Same_O N y36 ([1] : List Int)).bind fun y41 => some y41) else (some false)).bind fun b32 => ((bif b32 then ((pantomimelaw19_object_O N 1).bind fun y43 => (pantomimelaw19_object_O N 3).bind fun y44 => (reach_Live_O N (⟨([(⟨8, 0, 0, 0, ([(⟨1, 0, ⟨#[]⟩⟩ : DValue)] : List DValue), ([y8, y9] : List DValue)⟩ : DCell), (⟨11, 0, 0, 0, [], []⟩ : DCell), (⟨11, 0, 0, 0, [], []⟩ : DCell)] : List DCell), []⟩ : DMemory) ([y43, y44] : List DValue)).bind fun y47 => (pantomimeref19_Same_O N y47 ([1, 3, 5] : List Int)).bind fun y52 => some y52) else (some false)).bind fun b42 => ((bif b42 then ((pantomimelaw19_object_O N 1).bind fun y54 => (pantomimelaw19_object_O N 3).bind fun y55 => (reach_Strong_O N (⟨([(⟨8, 0, 0, 0, ([(⟨1, 0, ⟨#[]⟩⟩ : DValue)] : List DValue), ([y8, y9] : List DValue)⟩ : DCell), (⟨11, 0, 0, 0, [], []⟩ : DCell), (⟨11, 0, 0, 0, [], []⟩ : DCell)] : List DCell), []⟩ : DMemory) ([y54, y55] : List DValue)).bind fun y58 => (pantomimeref19_Same_O N y58 ([1, 3] : List Int)).bind fun y63 => some y63) else (some false)).bind fun b53 => (some b53))))
set_option maxHeartbeats 4000000 in
theorem pantomimelaw19_goes_ok {N : Nat} {r : Bool} (h : pantomimelaw19_goes_O N = some r) : Okc Try.prog 15 [] ([]) (fun (u : Value) (post : List Chunk) => u = .bool r ∧ post = []) := by
  refine ok_E Try.func15 rfl rfl ?_
  simp only [envOf]
  refine G_seq ?_
  refine G_region ?_
  refine G_ev (ev_assign rfl) rfl rfl rfl ?_
  refine G_nil ?_
  refine nx_n ?_
  refine G_seq ?_
  refine G_region ?_
  obtain ⟨y1, hy1, h⟩ := bind_elim h
  refine G_opd (op_callR (pantomimelaw19_object_ok hy1) call47 rfl (mem_nil) pantomimelaw19_object_free) rfl rfl rfl ?_
  rintro _ _ ⟨_, ⟨rfl, rfl⟩, rfl⟩
  obtain ⟨y2, hy2, h⟩ := bind_elim h
  refine G_opd (op_callR (pantomimelaw19_object_ok hy2) call47 rfl (mem_nil) pantomimelaw19_object_free) rfl rfl rfl ?_
  rintro _ _ ⟨_, ⟨rfl, rfl⟩, rfl⟩
  refine G_opd (op_bslice (R := rDValue) (vss := [[.int .i64 y1.Kind, .int .i64 y1.N, .string y1.S], [.int .i64 y2.Kind, .int .i64 y2.N, .string y2.S]]) (xs := [y1, y2]) rfl (bsl_25_2 _ _ _ _ _ _) rfl rfl (fun _ _ hr => .cons rfl (.cons rfl All2.nil))) rfl rfl rfl ?_
  rintro _ _ ⟨A3, n3, c3, rfl, rfl⟩
  refine G_ev (ev_build rfl (bld_42_0_5 _ _ _ _)) rfl rfl rfl ?_
  refine G_ev (ev_build rfl (bld_42_0 _)) rfl rfl rfl ?_
  refine G_cv (cv_frz 0 rfl) ?_
  refine G_norm ([slC rDValue (.slice A3 n3 c3) ([y1, y2] : List DValue)]) rfl ?_
  refine G_opd (op_bslice (R := rDCell) (vss := [[.int .i64 11, .int .i64 0, .int .i64 0, .int .i64 0, .slice none 0 0, .slice A3 n3 c3], [.int .i64 11, .int .i64 0, .int .i64 0, .int .i64 0, .slice none 0 0, .slice none 0 0]]) (xs := [(⟨11, 0, 0, 0, [], ([y1, y2] : List DValue)⟩ : DCell), (⟨11, 0, 0, 0, [], []⟩ : DCell)]) rfl (bsl_22_2 _ _ _ _ _ _ _ _ _ _ _ _ _ _ _ _ _ _ _ _) rfl rfl (fun _ _ hr => .cons (⟨_, _, _, _, _, _, rfl, slR_nil _ _ _, hr 0 _ rfl rfl⟩) (.cons (⟨_, _, _, _, _, _, rfl, slR_nil _ _ _, slR_nil _ _ _⟩) All2.nil))) rfl rfl rfl ?_
  rintro _ _ ⟨A4, n4, c4, rfl, rfl⟩
  refine G_ev (ev_build rfl (bld_42_0 _)) rfl rfl rfl ?_
  refine G_opd (op_bslice (R := rDCell) (vss := [[.int .i64 11, .int .i64 0, .int .i64 0, .int .i64 0, .slice none 0 0, .slice none 0 0]]) (xs := [(⟨11, 0, 0, 0, [], []⟩ : DCell)]) rfl (bsl_22_1 _ _ _ _ _ _ _ _ _ _) rfl rfl (fun _ _ hr => .cons (⟨_, _, _, _, _, _, rfl, slR_nil _ _ _, slR_nil _ _ _⟩) All2.nil)) rfl rfl rfl ?_
  rintro _ _ ⟨A5, n5, c5, rfl, rfl⟩
  refine G_ev (ev_build rfl (bld_24_0_1 _ _ _ _ _ _)) rfl rfl rfl ?_
  refine G_opd (op_alloc zero24 rfl) rfl rfl rfl ?_
  rintro _ _ ⟨B6, rfl, rfl⟩
  refine G_opn (op_store (us := [.slice A4 n4 c4, .slice A5 n5 c5]) (cs' := [.slice A4 n4 c4, .slice A5 n5 c5]) 0 rfl rfl rfl rfl size24 rfl rfl rfl) rfl rfl ?_
  rintro _ _ rfl
  refine G_norm ([boxC B6 24 [.slice A4 n4 c4, .slice A5 n5 c5], ownC rDCell 42 (.slice A5 n5 c5) ([(⟨11, 0, 0, 0, [], []⟩ : DCell)] : List DCell), ownC rDCell 42 (.slice A4 n4 c4) ([(⟨11, 0, 0, 0, [], ([y1, y2] : List DValue)⟩ : DCell), (⟨11, 0, 0, 0, [], []⟩ : DCell)] : List DCell), slC rDValue (.slice A3 n3 c3) ([y1, y2] : List DValue)]) rfl ?_
  refine G_nil ?_
  refine nx_n ?_
  refine G_seq ?_
  refine G_region ?_
  refine G_ev (ev_build rfl (bld_38_0 _)) rfl rfl rfl ?_
  refine G_opd (op_bslice (R := rDValue) (vss := [[.int .i64 1, .int .i64 0, .string (⟨#[]⟩)]]) (xs := [(⟨1, 0, ⟨#[]⟩⟩ : DValue)]) rfl (bsl_25_1 _ _ _) rfl rfl (fun _ _ hr => .cons rfl All2.nil)) rfl rfl rfl ?_
  rintro _ _ ⟨A7, n7, c7, rfl, rfl⟩
  obtain ⟨y8, hy8, h⟩ := bind_elim h
  refine G_opd (op_callR (pantomimelaw19_object_ok hy8) call47 rfl (mem_nil) pantomimelaw19_object_free) rfl rfl rfl ?_
  rintro _ _ ⟨_, ⟨rfl, rfl⟩, rfl⟩
  obtain ⟨y9, hy9, h⟩ := bind_elim h
  refine G_opd (op_callR (pantomimelaw19_object_ok hy9) call47 rfl (mem_nil) pantomimelaw19_object_free) rfl rfl rfl ?_
  rintro _ _ ⟨_, ⟨rfl, rfl⟩, rfl⟩
  refine G_opd (op_bslice (R := rDValue) (vss := [[.int .i64 y8.Kind, .int .i64 y8.N, .string y8.S], [.int .i64 y9.Kind, .int .i64 y9.N, .string y9.S]]) (xs := [y8, y9]) rfl (bsl_25_2 _ _ _ _ _ _) rfl rfl (fun _ _ hr => .cons rfl (.cons rfl All2.nil))) rfl rfl rfl ?_
  rintro _ _ ⟨A10, n10, c10, rfl, rfl⟩
  refine G_ev (ev_build rfl (bld_42_0_4_5 _ _ _ _ _ _ _)) rfl rfl rfl ?_
  refine G_ev (ev_build rfl (bld_42_0 _)) rfl rfl rfl ?_
  refine G_ev (ev_build rfl (bld_42_0 _)) rfl rfl rfl ?_
  refine G_cv (cv_frz 1 rfl) ?_
  refine G_norm ([ownC rDValue 38 (.slice A10 n10 c10) ([y8, y9] : List DValue), slC rDValue (.slice A7 n7 c7) ([(⟨1, 0, ⟨#[]⟩⟩ : DValue)] : List DValue), boxC B6 24 [.slice A4 n4 c4, .slice A5 n5 c5], ownC rDCell 42 (.slice A5 n5 c5) ([(⟨11, 0, 0, 0, [], []⟩ : DCell)] : List DCell), ownC rDCell 42 (.slice A4 n4 c4) ([(⟨11, 0, 0, 0, [], ([y1, y2] : List DValue)⟩ : DCell), (⟨11, 0, 0, 0, [], []⟩ : DCell)] : List DCell), slC rDValue (.slice A3 n3 c3) ([y1, y2] : List DValue)]) rfl ?_
  refine G_cv (cv_frz 0 rfl) ?_
  refine G_norm ([slC rDValue (.slice A10 n10 c10) ([y8, y9] : List DValue), slC rDValue (.slice A7 n7 c7) ([(⟨1, 0, ⟨#[]⟩⟩ : DValue)] : List DValue), boxC B6 24 [.slice A4 n4 c4, .slice A5 n5 c5], ownC rDCell 42 (.slice A5 n5 c5) ([(⟨11, 0, 0, 0, [], []⟩ : DCell)] : List DCell), ownC rDCell 42 (.slice A4 n4 c4) ([(⟨11, 0, 0, 0, [], ([y1, y2] : List DValue)⟩ : DCell), (⟨11, 0, 0, 0, [], []⟩ : DCell)] : List DCell), slC rDValue (.slice A3 n3 c3) ([y1, y2] : List DValue)]) rfl ?_
  refine G_opd (op_bslice (R := rDCell) (vss := [[.int .i64 8, .int .i64 0, .int .i64 0, .int .i64 0, .slice A7 n7 c7, .slice A10 n10 c10], [.int .i64 11, .int .i64 0, .int .i64 0, .int .i64 0, .slice none 0 0, .slice none 0 0], [.int .i64 11, .int .i64 0, .int .i64 0, .int .i64 0, .slice none 0 0, .slice none 0 0]]) (xs := [(⟨8, 0, 0, 0, ([(⟨1, 0, ⟨#[]⟩⟩ : DValue)] : List DValue), ([y8, y9] : List DValue)⟩ : DCell), (⟨11, 0, 0, 0, [], []⟩ : DCell), (⟨11, 0, 0, 0, [], []⟩ : DCell)]) rfl (bsl_22_3 _ _ _ _ _ _ _ _ _ _ _ _ _ _ _ _ _ _ _ _ _ _ _ _ _ _ _ _ _ _) rfl rfl (fun _ _ hr => .cons (⟨_, _, _, _, _, _, rfl, hr 1 _ rfl rfl, hr 0 _ rfl rfl⟩) (.cons (⟨_, _, _, _, _, _, rfl, slR_nil _ _ _, slR_nil _ _ _⟩) (.cons (⟨_, _, _, _, _, _, rfl, slR_nil _ _ _, slR_nil _ _ _⟩) All2.nil)))) rfl rfl rfl ?_
  rintro _ _ ⟨A11, n11, c11, rfl, rfl⟩
  refine G_ev (ev_build rfl (bld_24_0 _ _ _)) rfl rfl rfl ?_
  refine G_opd (op_alloc zero24 rfl) rfl rfl rfl ?_
  rintro _ _ ⟨B12, rfl, rfl⟩
  refine G_opn (op_store (us := [.slice A11 n11 c11, .slice none 0 0]) (cs' := [.slice A11 n11 c11, .slice none 0 0]) 0 rfl rfl rfl rfl size24 rfl rfl rfl) rfl rfl ?_
  rintro _ _ rfl
  refine G_norm ([boxC B12 24 [.slice A11 n11 c11, .slice none 0 0], ownC rDCell 42 (.slice A11 n11 c11) ([(⟨8, 0, 0, 0, ([(⟨1, 0, ⟨#[]⟩⟩ : DValue)] : List DValue), ([y8, y9] : List DValue)⟩ : DCell), (⟨11, 0, 0, 0, [], []⟩ : DCell), (⟨11, 0, 0, 0, [], []⟩ : DCell)] : List DCell), slC rDValue (.slice A10 n10 c10) ([y8, y9] : List DValue), slC rDValue (.slice A7 n7 c7) ([(⟨1, 0, ⟨#[]⟩⟩ : DValue)] : List DValue), boxC B6 24 [.slice A4 n4 c4, .slice A5 n5 c5], ownC rDCell 42 (.slice A5 n5 c5) ([(⟨11, 0, 0, 0, [], []⟩ : DCell)] : List DCell), ownC rDCell 42 (.slice A4 n4 c4) ([(⟨11, 0, 0, 0, [], ([y1, y2] : List DValue)⟩ : DCell), (⟨11, 0, 0, 0, [], []⟩ : DCell)] : List DCell), slC rDValue (.slice A3 n3 c3) ([y1, y2] : List DValue)]) rfl ?_
  refine G_nil ?_
  refine nx_n ?_
  refine G_seq ?_
  obtain ⟨y13, hy13, h⟩ := bind_elim h
  obtain ⟨y16, hy16, h⟩ := bind_elim h
  obtain ⟨y21, hy21, h⟩ := bind_elim h
  obtain ⟨b22, hb22, h⟩ := bind_elim h
  rcases Bool.eq_false_or_eq_true y21 with g22 | g22
  · replace hb22 := cond_t g22 hb22
    obtain ⟨y23, hy23, hb22⟩ := bind_elim hb22
    obtain ⟨y26, hy26, hb22⟩ := bind_elim hb22
    obtain ⟨y31, hy31, hb22⟩ := bind_elim hb22
    replace hb22 : y31 = b22 := Option.some.inj hb22
    obtain ⟨b32, hb32, h⟩ := bind_elim h
    rcases Bool.eq_false_or_eq_true b22 with g32 | g32
    · replace hb32 := cond_t g32 hb32
      obtain ⟨y33, hy33, hb32⟩ := bind_elim hb32
      obtain ⟨y36, hy36, hb32⟩ := bind_elim hb32
      obtain ⟨y41, hy41, hb32⟩ := bind_elim hb32
      replace hb32 : y41 = b32 := Option.some.inj hb32
      obtain ⟨b42, hb42, h⟩ := bind_elim h
      rcases Bool.eq_false_or_eq_true b32 with g42 | g42
      · replace hb42 := cond_t g42 hb42
        obtain ⟨y43, hy43, hb42⟩ := bind_elim hb42
        obtain ⟨y44, hy44, hb42⟩ := bind_elim hb42
        obtain ⟨y47, hy47, hb42⟩ := bind_elim hb42
        obtain ⟨y52, hy52, hb42⟩ := bind_elim hb42
        replace hb42 : y52 = b42 := Option.some.inj hb42
        obtain ⟨b53, hb53, h⟩ := bind_elim h
        rcases Bool.eq_false_or_eq_true b42 with g53 | g53
        · replace hb53 := cond_t g53 hb53
          obtain ⟨y54, hy54, hb53⟩ := bind_elim hb53
          obtain ⟨y55, hy55, hb53⟩ := bind_elim hb53
          obtain ⟨y58, hy58, hb53⟩ := bind_elim hb53
          obtain ⟨y63, hy63, hb53⟩ := bind_elim hb53
          replace hb53 : y63 = b53 := Option.some.inj hb53
          refine G_sub (t := [(0, .bool false), (1, .pointer (some ⟨B6, 0, none⟩)), (2, .pointer (some ⟨B12, 0, none⟩))]) ?_ (sub_cons rfl (sub_cons rfl (sub_cons rfl sub_nil))) (cv_refl _)
          refine G_monoR (by kernel_rfl) 40 [] [22, 23, 24, 25, 26, 27, 28, 29, 30, 31, 32, 33, 34, 35, 36, 37, 38, 39, 40, 41, 42, 43, 44, 45, 46, 47, 48, 49, 50, 51, 52, 53, 54, 55, 56, 57, 58, 59, 60, 61] [[], [], [1], [0, 2], [], [3, 4], [5], [6], [6], [6, 8], [6, 7, 9], [6], [6, 10, 11], [6, 12], [13], [14], [14], [14, 16], [14, 15, 17], [14], [14, 18, 19], [14, 20], [21], [22], [22], [22], [22, 24, 25], [22, 23, 26], [22], [22, 27, 28], [22, 29], [30], [31], [31], [31], [31, 33, 34], [31, 32, 35], [31], [31, 36, 37], [31, 38]] [fun u => [pureC (u = .agg #[.slice A4 n4 c4, .slice A5 n5 c5])],
      fun u => [pureC (u = .agg #[.int .i64 y13.Kind, .int .i64 y13.N, .string y13.S])],
      fun u => [pureC (∃ (A15 : Option Addr) (n15 : Nat) (c15 : Nat), u = .slice A15 n15 c15), ownC rDValue 38 u ([y13] : List DValue)],
      fun u => [pureC (∃ (A18 : Option Addr) (n18 : Nat) (c18 : Nat), u = .slice A18 n18 c18), ownC (rInt .i64) 3 u y16],
      fun u => [pureC (∃ (A20 : Option Addr) (n20 : Nat) (c20 : Nat), u = .slice A20 n20 c20), ownC (rInt .i64) 3 u ([1, 3, 2] : List Int)],
      fun u => [pureC (u = .bool y21)],
      fun u => [pureC (u = .bool y21)],
      fun u => [pureC (u = .agg #[.slice A4 n4 c4, .slice A5 n5 c5])],
      fun u => [pureC (u = .agg #[.int .i64 y23.Kind, .int .i64 y23.N, .string y23.S])],
      fun u => [pureC (∃ (A25 : Option Addr) (n25 : Nat) (c25 : Nat), u = .slice A25 n25 c25), ownC rDValue 38 u ([y23] : List DValue)],
      fun u => [pureC (∃ (A28 : Option Addr) (n28 : Nat) (c28 : Nat), u = .slice A28 n28 c28), ownC (rInt .i64) 3 u y26],
      fun u => [pureC (∃ (A30 : Option Addr) (n30 : Nat) (c30 : Nat), u = .slice A30 n30 c30), ownC (rInt .i64) 3 u ([1, 2, 3] : List Int)],
      fun u => [pureC (u = .bool y31)],
      fun u => [pureC (u = .bool b22)],
      fun u => [pureC (u = .bool b22)],
      fun u => [pureC (u = .agg #[.slice A11 n11 c11, .slice none 0 0])],
      fun u => [pureC (u = .agg #[.int .i64 y33.Kind, .int .i64 y33.N, .string y33.S])],
      fun u => [pureC (∃ (A35 : Option Addr) (n35 : Nat) (c35 : Nat), u = .slice A35 n35 c35), ownC rDValue 38 u ([y33] : List DValue)],
      fun u => [pureC (∃ (A38 : Option Addr) (n38 : Nat) (c38 : Nat), u = .slice A38 n38 c38), ownC (rInt .i64) 3 u y36],
      fun u => [pureC (∃ (A40 : Option Addr) (n40 : Nat) (c40 : Nat), u = .slice A40 n40 c40), ownC (rInt .i64) 3 u ([1] : List Int)],
      fun u => [pureC (u = .bool y41)],
      fun u => [pureC (u = .bool b32)],
      fun u => [pureC (u = .bool b32)],
      fun u => [pureC (u = .agg #[.slice A11 n11 c11, .slice none 0 0])],
      fun u => [pureC (u = .agg #[.int .i64 y43.Kind, .int .i64 y43.N, .string y43.S])],
      fun u => [pureC (u = .agg #[.int .i64 y44.Kind, .int .i64 y44.N, .string y44.S])],
      fun u => [pureC (∃ (A46 : Option Addr) (n46 : Nat) (c46 : Nat), u = .slice A46 n46 c46), ownC rDValue 38 u ([y43, y44] : List DValue)],
      fun u => [pureC (∃ (A49 : Option Addr) (n49 : Nat) (c49 : Nat), u = .slice A49 n49 c49), ownC (rInt .i64) 3 u y47],
      fun u => [pureC (∃ (A51 : Option Addr) (n51 : Nat) (c51 : Nat), u = .slice A51 n51 c51), ownC (rInt .i64) 3 u ([1, 3, 5] : List Int)],
      fun u => [pureC (u = .bool y52)],
      fun u => [pureC (u = .bool b42)],
      fun u => [pureC (u = .bool b42)],
      fun u => [pureC (u = .agg #[.slice A11 n11 c11, .slice none 0 0])],
      fun u => [pureC (u = .agg #[.int .i64 y54.Kind, .int .i64 y54.N, .string y54.S])],
      fun u => [pureC (u = .agg #[.int .i64 y55.Kind, .int .i64 y55.N, .string y55.S])],
      fun u => [pureC (∃ (A57 : Option Addr) (n57 : Nat) (c57 : Nat), u = .slice A57 n57 c57), ownC rDValue 38 u ([y54, y55] : List DValue)],
      fun u => [pureC (∃ (A60 : Option Addr) (n60 : Nat) (c60 : Nat), u = .slice A60 n60 c60), ownC (rInt .i64) 3 u y58],
      fun u => [pureC (∃ (A62 : Option Addr) (n62 : Nat) (c62 : Nat), u = .slice A62 n62 c62), ownC (rInt .i64) 3 u ([1, 3] : List Int)],
      fun u => [pureC (u = .bool y63)],
      fun u => [pureC (u = .bool b53)]] (by kernel_rfl) ?_ ?_ ?_
          · exact qs_nil
          · refine steps_cons rfl ?_ ?_
            · intro val
              refine X_start (s := [(53, val 31), (60, val 38), (0, .bool false), (1, .pointer (some ⟨B6, 0, none⟩)), (2, .pointer (some ⟨B12, 0, none⟩))]) (L := [pureC ((val 31) = .bool b42), pureC ((val 38) = .bool y63)] ++ (pantomimelaw19_goes_C3 B12 A11 n11 c11 y8 y9 A10 n10 c10 A7 n7 c7 B6 A4 n4 c4 A5 n5 c5 y1 y2 A3 n3 c3)) (A := fun u => [pureC (u = .bool b53)]) ?_ rfl rfl rfl
              generalize val 31 = u31
              generalize val 38 = u38
              refine X_pure 0 rfl ?_
              rintro rfl
              refine X_pure 1 rfl ?_
              rintro rfl
              exact X_ev (ev_pick_t' g53 rfl rfl) rfl (cv_put [] (by rw [hb53]) (cv_refl _))
            refine steps_cons rfl ?_ ?_
            · intro val
              refine X_start (s := [(53, val 31), (58, val 36), (59, val 37), (0, .bool false), (1, .pointer (some ⟨B6, 0, none⟩)), (2, .pointer (some ⟨B12, 0, none⟩))]) (L := [pureC ((val 31) = .bool b42), pureC (∃ (A60 : Option Addr) (n60 : Nat) (c60 : Nat), (val 36) = .slice A60 n60 c60), ownC (rInt .i64) 3 (val 36) y58, pureC (∃ (A62 : Option Addr) (n62 : Nat) (c62 : Nat), (val 37) = .slice A62 n62 c62), ownC (rInt .i64) 3 (val 37) ([1, 3] : List Int)] ++ (pantomimelaw19_goes_C3 B12 A11 n11 c11 y8 y9 A10 n10 c10 A7 n7 c7 B6 A4 n4 c4 A5 n5 c5 y1 y2 A3 n3 c3)) (A := fun u => [pureC (u = .bool y63)]) ?_ rfl rfl rfl
              generalize val 31 = u31
              generalize val 36 = u36
              generalize val 37 = u37
              refine X_pure 0 rfl ?_
              rintro rfl
              refine X_pure 1 rfl ?_
              rintro ⟨A60, n60, c60, rfl⟩
              refine X_pure 3 rfl ?_
              rintro ⟨A62, n62, c62, rfl⟩
              refine X_op (op_callR (pantomimeref19_Same_ok hy63) call25 rfl (mem_cons (lent_own (i := 2) rfl) (mem_cons (lent_own (i := 4) rfl) mem_nil)) pantomimeref19_Same_free) (g_tt g53 rfl) ?_
              rintro _ _ ⟨_, ⟨rfl, rfl⟩, rfl⟩
              exact cv_put [] rfl (cv_refl _)
            refine steps_cons rfl ?_ ?_
            · intro val
              refine X_start (s := [(53, val 31), (0, .bool false), (1, .pointer (some ⟨B6, 0, none⟩)), (2, .pointer (some ⟨B12, 0, none⟩))]) (L := [pureC ((val 31) = .bool b42)] ++ (pantomimelaw19_goes_C3 B12 A11 n11 c11 y8 y9 A10 n10 c10 A7 n7 c7 B6 A4 n4 c4 A5 n5 c5 y1 y2 A3 n3 c3)) (A := fun u => [pureC (∃ (A62 : Option Addr) (n62 : Nat) (c62 : Nat), u = .slice A62 n62 c62), ownC (rInt .i64) 3 u ([1, 3] : List Int)]) ?_ rfl rfl rfl
              generalize val 31 = u31
              refine X_pure 0 rfl ?_
              rintro rfl
              refine X_op (op_bslice (R := (rInt .i64)) (vss := [[.int .i64 1], [.int .i64 3]]) (xs := [1, 3]) rfl (bsl_31_2 _ _) rfl rfl (fun _ _ hr => .cons rfl (.cons rfl All2.nil))) (g_tt g53 rfl) ?_
              rintro _ _ ⟨A61, n61, c61, rfl, rfl⟩
              exact cv_put [ownC (rInt .i64) 3 (.slice A61 n61 c61) ([1, 3] : List Int)] ⟨_, _, _, rfl⟩ (cv_refl _)
            refine steps_cons rfl ?_ ?_
            · intro val
              refine X_start (s := [(53, val 31), (54, val 32), (57, val 35), (0, .bool false), (1, .pointer (some ⟨B6, 0, none⟩)), (2, .pointer (some ⟨B12, 0, none⟩))]) (L := [pureC ((val 31) = .bool b42), pureC ((val 32) = .agg #[.slice A11 n11 c11, .slice none 0 0]), pureC (∃ (A57 : Option Addr) (n57 : Nat) (c57 : Nat), (val 35) = .slice A57 n57 c57), ownC rDValue 38 (val 35) ([y54, y55] : List DValue)] ++ (pantomimelaw19_goes_C3 B12 A11 n11 c11 y8 y9 A10 n10 c10 A7 n7 c7 B6 A4 n4 c4 A5 n5 c5 y1 y2 A3 n3 c3)) (A := fun u => [pureC (∃ (A60 : Option Addr) (n60 : Nat) (c60 : Nat), u = .slice A60 n60 c60), ownC (rInt .i64) 3 u y58]) ?_ rfl rfl rfl
              generalize val 31 = u31
              generalize val 32 = u32
              generalize val 35 = u35
              refine X_pure 0 rfl ?_
              rintro rfl
              refine X_pure 1 rfl ?_
              rintro rfl
              refine X_pure 2 rfl ?_
              rintro ⟨A57, n57, c57, rfl⟩
              refine X_op (op_callR (reach_Strong_ok hy58) call22 rfl (mem_cons (lent_own (i := 5) rfl) (mem_cons (lent_nil) (mem_cons (lent_own (i := 3) rfl) mem_nil))) reach_Strong_free) (g_tt g53 rfl) ?_
              rintro _ _ ⟨_, ⟨A59, n59, c59, rfl, rfl⟩, rfl⟩
              exact cv_put [ownC (rInt .i64) 3 (.slice A59 n59 c59) y58] ⟨_, _, _, rfl⟩ (cv_refl _)
            refine steps_cons rfl ?_ ?_
            · intro val
              refine X_start (s := [(53, val 31), (55, val 33), (56, val 34), (0, .bool false), (1, .pointer (some ⟨B6, 0, none⟩)), (2, .pointer (some ⟨B12, 0, none⟩))]) (L := [pureC ((val 31) = .bool b42), pureC ((val 33) = .agg #[.int .i64 y54.Kind, .int .i64 y54.N, .string y54.S]), pureC ((val 34) = .agg #[.int .i64 y55.Kind, .int .i64 y55.N, .string y55.S])] ++ (pantomimelaw19_goes_C3 B12 A11 n11 c11 y8 y9 A10 n10 c10 A7 n7 c7 B6 A4 n4 c4 A5 n5 c5 y1 y2 A3 n3 c3)) (A := fun u => [pureC (∃ (A57 : Option Addr) (n57 : Nat) (c57 : Nat), u = .slice A57 n57 c57), ownC rDValue 38 u ([y54, y55] : List DValue)]) ?_ rfl rfl rfl
              generalize val 31 = u31
              generalize val 33 = u33
              generalize val 34 = u34
              refine X_pure 0 rfl ?_
              rintro rfl
              refine X_pure 1 rfl ?_
              rintro rfl
              refine X_pure 2 rfl ?_
              rintro rfl
              refine X_op (op_bslice (R := rDValue) (vss := [[.int .i64 y54.Kind, .int .i64 y54.N, .string y54.S], [.int .i64 y55.Kind, .int .i64 y55.N, .string y55.S]]) (xs := [y54, y55]) rfl (bsl_25_2 _ _ _ _ _ _) rfl rfl (fun _ _ hr => .cons rfl (.cons rfl All2.nil))) (g_tt g53 rfl) ?_
              rintro _ _ ⟨A56, n56, c56, rfl, rfl⟩
              exact cv_put [ownC rDValue 38 (.slice A56 n56 c56) ([y54, y55] : List DValue)] ⟨_, _, _, rfl⟩ (cv_refl _)
            refine steps_cons rfl ?_ ?_
            · intro val
              refine X_start (s := [(53, val 31), (0, .bool false), (1, .pointer (some ⟨B6, 0, none⟩)), (2, .pointer (some ⟨B12, 0, none⟩))]) (L := [pureC ((val 31) = .bool b42)] ++ (pantomimelaw19_goes_C3 B12 A11 n11 c11 y8 y9 A10 n10 c10 A7 n7 c7 B6 A4 n4 c4 A5 n5 c5 y1 y2 A3 n3 c3)) (A := fun u => [pureC (u = .agg #[.int .i64 y55.Kind, .int .i64 y55.N, .string y55.S])]) ?_ rfl rfl rfl
              generalize val 31 = u31
              refine X_pure 0 rfl ?_
              rintro rfl
              refine X_op (op_callR (pantomimelaw19_object_ok hy55) call47 rfl (mem_nil) pantomimelaw19_object_free) (g_tt g53 rfl) ?_
              rintro _ _ ⟨_, ⟨rfl, rfl⟩, rfl⟩
              exact cv_put [] rfl (cv_refl _)
            refine steps_cons rfl ?_ ?_
            · intro val
              refine X_start (s := [(53, val 31), (0, .bool false), (1, .pointer (some ⟨B6, 0, none⟩)), (2, .pointer (some ⟨B12, 0, none⟩))]) (L := [pureC ((val 31) = .bool b42)] ++ (pantomimelaw19_goes_C3 B12 A11 n11 c11 y8 y9 A10 n10 c10 A7 n7 c7 B6 A4 n4 c4 A5 n5 c5 y1 y2 A3 n3 c3)) (A := fun u => [pureC (u = .agg #[.int .i64 y54.Kind, .int .i64 y54.N, .string y54.S])]) ?_ rfl rfl rfl
              generalize val 31 = u31
              refine X_pure 0 rfl ?_
              rintro rfl
              refine X_op (op_callR (pantomimelaw19_object_ok hy54) call47 rfl (mem_nil) pantomimelaw19_object_free) (g_tt g53 rfl) ?_
              rintro _ _ ⟨_, ⟨rfl, rfl⟩, rfl⟩
              exact cv_put [] rfl (cv_refl _)
            refine steps_cons rfl ?_ ?_
            · intro val
              refine X_start (s := [(53, val 31), (0, .bool false), (1, .pointer (some ⟨B6, 0, none⟩)), (2, .pointer (some ⟨B12, 0, none⟩))]) (L := [pureC ((val 31) = .bool b42)] ++ (pantomimelaw19_goes_C3 B12 A11 n11 c11 y8 y9 A10 n10 c10 A7 n7 c7 B6 A4 n4 c4 A5 n5 c5 y1 y2 A3 n3 c3)) (A := fun u => [pureC (u = .agg #[.slice A11 n11 c11, .slice none 0 0])]) ?_ rfl rfl rfl
              generalize val 31 = u31
              refine X_pure 0 rfl ?_
              rintro rfl
              exact X_rd (rd_boxS (us := [.slice A11 n11 c11, .slice none 0 0]) 1 rfl rfl agg24 rfl) (g_tt g53 rfl) (cv_put [] rfl (cv_refl _))
            refine steps_cons rfl ?_ ?_
            · intro val
              refine X_start (s := [(52, val 30), (0, .bool false), (1, .pointer (some ⟨B6, 0, none⟩)), (2, .pointer (some ⟨B12, 0, none⟩))]) (L := [pureC ((val 30) = .bool b42)] ++ (pantomimelaw19_goes_C3 B12 A11 n11 c11 y8 y9 A10 n10 c10 A7 n7 c7 B6 A4 n4 c4 A5 n5 c5 y1 y2 A3 n3 c3)) (A := fun u => [pureC (u = .bool b42)]) ?_ rfl rfl rfl
              generalize val 30 = u30
              refine X_pure 0 rfl ?_
              rintro rfl
              exact X_ev (ev_move rfl) rfl (cv_put [] rfl (cv_refl _))
            refine steps_cons rfl ?_ ?_
            · intro val
              refine X_start (s := [(44, val 22), (51, val 29), (0, .bool false), (1, .pointer (some ⟨B6, 0, none⟩)), (2, .pointer (some ⟨B12, 0, none⟩))]) (L := [pureC ((val 22) = .bool b32), pureC ((val 29) = .bool y52)] ++ (pantomimelaw19_goes_C3 B12 A11 n11 c11 y8 y9 A10 n10 c10 A7 n7 c7 B6 A4 n4 c4 A5 n5 c5 y1 y2 A3 n3 c3)) (A := fun u => [pureC (u = .bool b42)]) ?_ rfl rfl rfl
              generalize val 22 = u22
              generalize val 29 = u29
              refine X_pure 0 rfl ?_
              rintro rfl
              refine X_pure 1 rfl ?_
              rintro rfl
              exact X_ev (ev_pick_t' g42 rfl rfl) rfl (cv_put [] (by rw [hb42]) (cv_refl _))
            refine steps_cons rfl ?_ ?_
            · intro val
              refine X_start (s := [(44, val 22), (49, val 27), (50, val 28), (0, .bool false), (1, .pointer (some ⟨B6, 0, none⟩)), (2, .pointer (some ⟨B12, 0, none⟩))]) (L := [pureC ((val 22) = .bool b32), pureC (∃ (A49 : Option Addr) (n49 : Nat) (c49 : Nat), (val 27) = .slice A49 n49 c49), ownC (rInt .i64) 3 (val 27) y47, pureC (∃ (A51 : Option Addr) (n51 : Nat) (c51 : Nat), (val 28) = .slice A51 n51 c51), ownC (rInt .i64) 3 (val 28) ([1, 3, 5] : List Int)] ++ (pantomimelaw19_goes_C3 B12 A11 n11 c11 y8 y9 A10 n10 c10 A7 n7 c7 B6 A4 n4 c4 A5 n5 c5 y1 y2 A3 n3 c3)) (A := fun u => [pureC (u = .bool y52)]) ?_ rfl rfl rfl
              generalize val 22 = u22
              generalize val 27 = u27
              generalize val 28 = u28
              refine X_pure 0 rfl ?_
              rintro rfl
              refine X_pure 1 rfl ?_
              rintro ⟨A49, n49, c49, rfl⟩
              refine X_pure 3 rfl ?_
              rintro ⟨A51, n51, c51, rfl⟩
              refine X_op (op_callR (pantomimeref19_Same_ok hy52) call25 rfl (mem_cons (lent_own (i := 2) rfl) (mem_cons (lent_own (i := 4) rfl) mem_nil)) pantomimeref19_Same_free) (g_tt g42 rfl) ?_
              rintro _ _ ⟨_, ⟨rfl, rfl⟩, rfl⟩
              exact cv_put [] rfl (cv_refl _)
            refine steps_cons rfl ?_ ?_
            · intro val
              refine X_start (s := [(44, val 22), (0, .bool false), (1, .pointer (some ⟨B6, 0, none⟩)), (2, .pointer (some ⟨B12, 0, none⟩))]) (L := [pureC ((val 22) = .bool b32)] ++ (pantomimelaw19_goes_C3 B12 A11 n11 c11 y8 y9 A10 n10 c10 A7 n7 c7 B6 A4 n4 c4 A5 n5 c5 y1 y2 A3 n3 c3)) (A := fun u => [pureC (∃ (A51 : Option Addr) (n51 : Nat) (c51 : Nat), u = .slice A51 n51 c51), ownC (rInt .i64) 3 u ([1, 3, 5] : List Int)]) ?_ rfl rfl rfl
              generalize val 22 = u22
              refine X_pure 0 rfl ?_
              rintro rfl
              refine X_op (op_bslice (R := (rInt .i64)) (vss := [[.int .i64 1], [.int .i64 3], [.int .i64 5]]) (xs := [1, 3, 5]) rfl (bsl_31_3 _ _ _) rfl rfl (fun _ _ hr => .cons rfl (.cons rfl (.cons rfl All2.nil)))) (g_tt g42 rfl) ?_
              rintro _ _ ⟨A50, n50, c50, rfl, rfl⟩
              exact cv_put [ownC (rInt .i64) 3 (.slice A50 n50 c50) ([1, 3, 5] : List Int)] ⟨_, _, _, rfl⟩ (cv_refl _)
            refine steps_cons rfl ?_ ?_
            · intro val
              refine X_start (s := [(44, val 22), (45, val 23), (48, val 26), (0, .bool false), (1, .pointer (some ⟨B6, 0, none⟩)), (2, .pointer (some ⟨B12, 0, none⟩))]) (L := [pureC ((val 22) = .bool b32), pureC ((val 23) = .agg #[.slice A11 n11 c11, .slice none 0 0]), pureC (∃ (A46 : Option Addr) (n46 : Nat) (c46 : Nat), (val 26) = .slice A46 n46 c46), ownC rDValue 38 (val 26) ([y43, y44] : List DValue)] ++ (pantomimelaw19_goes_C3 B12 A11 n11 c11 y8 y9 A10 n10 c10 A7 n7 c7 B6 A4 n4 c4 A5 n5 c5 y1 y2 A3 n3 c3)) (A := fun u => [pureC (∃ (A49 : Option Addr) (n49 : Nat) (c49 : Nat), u = .slice A49 n49 c49), ownC (rInt .i64) 3 u y47]) ?_ rfl rfl rfl
              generalize val 22 = u22
              generalize val 23 = u23
              generalize val 26 = u26
              refine X_pure 0 rfl ?_
              rintro rfl
              refine X_pure 1 rfl ?_
              rintro rfl
              refine X_pure 2 rfl ?_
              rintro ⟨A46, n46, c46, rfl⟩
              refine X_op (op_callR (reach_Live_ok hy47) call16 rfl (mem_cons (lent_own (i := 5) rfl) (mem_cons (lent_nil) (mem_cons (lent_own (i := 3) rfl) mem_nil))) reach_Live_free) (g_tt g42 rfl) ?_
              rintro _ _ ⟨_, ⟨A48, n48, c48, rfl, rfl⟩, rfl⟩
              exact cv_put [ownC (rInt .i64) 3 (.slice A48 n48 c48) y47] ⟨_, _, _, rfl⟩ (cv_refl _)
            refine steps_cons rfl ?_ ?_
            · intro val
              refine X_start (s := [(44, val 22), (46, val 24), (47, val 25), (0, .bool false), (1, .pointer (some ⟨B6, 0, none⟩)), (2, .pointer (some ⟨B12, 0, none⟩))]) (L := [pureC ((val 22) = .bool b32), pureC ((val 24) = .agg #[.int .i64 y43.Kind, .int .i64 y43.N, .string y43.S]), pureC ((val 25) = .agg #[.int .i64 y44.Kind, .int .i64 y44.N, .string y44.S])] ++ (pantomimelaw19_goes_C3 B12 A11 n11 c11 y8 y9 A10 n10 c10 A7 n7 c7 B6 A4 n4 c4 A5 n5 c5 y1 y2 A3 n3 c3)) (A := fun u => [pureC (∃ (A46 : Option Addr) (n46 : Nat) (c46 : Nat), u = .slice A46 n46 c46), ownC rDValue 38 u ([y43, y44] : List DValue)]) ?_ rfl rfl rfl
              generalize val 22 = u22
              generalize val 24 = u24
              generalize val 25 = u25
              refine X_pure 0 rfl ?_
              rintro rfl
              refine X_pure 1 rfl ?_
              rintro rfl
              refine X_pure 2 rfl ?_
              rintro rfl
              refine X_op (op_bslice (R := rDValue) (vss := [[.int .i64 y43.Kind, .int .i64 y43.N, .string y43.S], [.int .i64 y44.Kind, .int .i64 y44.N, .string y44.S]]) (xs := [y43, y44]) rfl (bsl_25_2 _ _ _ _ _ _) rfl rfl (fun _ _ hr => .cons rfl (.cons rfl All2.nil))) (g_tt g42 rfl) ?_
              rintro _ _ ⟨A45, n45, c45, rfl, rfl⟩
              exact cv_put [ownC rDValue 38 (.slice A45 n45 c45) ([y43, y44] : List DValue)] ⟨_, _, _, rfl⟩ (cv_refl _)
            refine steps_cons rfl ?_ ?_
            · intro val
              refine X_start (s := [(44, val 22), (0, .bool false), (1, .pointer (some ⟨B6, 0, none⟩)), (2, .pointer (some ⟨B12, 0, none⟩))]) (L := [pureC ((val 22) = .bool b32)] ++ (pantomimelaw19_goes_C3 B12 A11 n11 c11 y8 y9 A10 n10 c10 A7 n7 c7 B6 A4 n4 c4 A5 n5 c5 y1 y2 A3 n3 c3)) (A := fun u => [pureC (u = .agg #[.int .i64 y44.Kind, .int .i64 y44.N, .string y44.S])]) ?_ rfl rfl rfl
              generalize val 22 = u22
              refine X_pure 0 rfl ?_
              rintro rfl
              refine X_op (op_callR (pantomimelaw19_object_ok hy44) call47 rfl (mem_nil) pantomimelaw19_object_free) (g_tt g42 rfl) ?_
              rintro _ _ ⟨_, ⟨rfl, rfl⟩, rfl⟩
              exact cv_put [] rfl (cv_refl _)
            refine steps_cons rfl ?_ ?_
            · intro val
              refine X_start (s := [(44, val 22), (0, .bool false), (1, .pointer (some ⟨B6, 0, none⟩)), (2, .pointer (some ⟨B12, 0, none⟩))]) (L := [pureC ((val 22) = .bool b32)] ++ (pantomimelaw19_goes_C3 B12 A11 n11 c11 y8 y9 A10 n10 c10 A7 n7 c7 B6 A4 n4 c4 A5 n5 c5 y1 y2 A3 n3 c3)) (A := fun u => [pureC (u = .agg #[.int .i64 y43.Kind, .int .i64 y43.N, .string y43.S])]) ?_ rfl rfl rfl
              generalize val 22 = u22
              refine X_pure 0 rfl ?_
              rintro rfl
              refine X_op (op_callR (pantomimelaw19_object_ok hy43) call47 rfl (mem_nil) pantomimelaw19_object_free) (g_tt g42 rfl) ?_
              rintro _ _ ⟨_, ⟨rfl, rfl⟩, rfl⟩
              exact cv_put [] rfl (cv_refl _)
            refine steps_cons rfl ?_ ?_
            · intro val
              refine X_start (s := [(44, val 22), (0, .bool false), (1, .pointer (some ⟨B6, 0, none⟩)), (2, .pointer (some ⟨B12, 0, none⟩))]) (L := [pureC ((val 22) = .bool b32)] ++ (pantomimelaw19_goes_C3 B12 A11 n11 c11 y8 y9 A10 n10 c10 A7 n7 c7 B6 A4 n4 c4 A5 n5 c5 y1 y2 A3 n3 c3)) (A := fun u => [pureC (u = .agg #[.slice A11 n11 c11, .slice none 0 0])]) ?_ rfl rfl rfl
              generalize val 22 = u22
              refine X_pure 0 rfl ?_
              rintro rfl
              exact X_rd (rd_boxS (us := [.slice A11 n11 c11, .slice none 0 0]) 1 rfl rfl agg24 rfl) (g_tt g42 rfl) (cv_put [] rfl (cv_refl _))
            refine steps_cons rfl ?_ ?_
            · intro val
              refine X_start (s := [(43, val 21), (0, .bool false), (1, .pointer (some ⟨B6, 0, none⟩)), (2, .pointer (some ⟨B12, 0, none⟩))]) (L := [pureC ((val 21) = .bool b32)] ++ (pantomimelaw19_goes_C3 B12 A11 n11 c11 y8 y9 A10 n10 c10 A7 n7 c7 B6 A4 n4 c4 A5 n5 c5 y1 y2 A3 n3 c3)) (A := fun u => [pureC (u = .bool b32)]) ?_ rfl rfl rfl
              generalize val 21 = u21
              refine X_pure 0 rfl ?_
              rintro rfl
              exact X_ev (ev_move rfl) rfl (cv_put [] rfl (cv_refl _))
            refine steps_cons rfl ?_ ?_
            · intro val
              refine X_start (s := [(36, val 14), (42, val 20), (0, .bool false), (1, .pointer (some ⟨B6, 0, none⟩)), (2, .pointer (some ⟨B12, 0, none⟩))]) (L := [pureC ((val 14) = .bool b22), pureC ((val 20) = .bool y41)] ++ (pantomimelaw19_goes_C3 B12 A11 n11 c11 y8 y9 A10 n10 c10 A7 n7 c7 B6 A4 n4 c4 A5 n5 c5 y1 y2 A3 n3 c3)) (A := fun u => [pureC (u = .bool b32)]) ?_ rfl rfl rfl
              generalize val 14 = u14
              generalize val 20 = u20
              refine X_pure 0 rfl ?_
              rintro rfl
              refine X_pure 1 rfl ?_
              rintro rfl
              exact X_ev (ev_pick_t' g32 rfl rfl) rfl (cv_put [] (by rw [hb32]) (cv_refl _))
            refine steps_cons rfl ?_ ?_
            · intro val
              refine X_start (s := [(36, val 14), (40, val 18), (41, val 19), (0, .bool false), (1, .pointer (some ⟨B6, 0, none⟩)), (2, .pointer (some ⟨B12, 0, none⟩))]) (L := [pureC ((val 14) = .bool b22), pureC (∃ (A38 : Option Addr) (n38 : Nat) (c38 : Nat), (val 18) = .slice A38 n38 c38), ownC (rInt .i64) 3 (val 18) y36, pureC (∃ (A40 : Option Addr) (n40 : Nat) (c40 : Nat), (val 19) = .slice A40 n40 c40), ownC (rInt .i64) 3 (val 19) ([1] : List Int)] ++ (pantomimelaw19_goes_C3 B12 A11 n11 c11 y8 y9 A10 n10 c10 A7 n7 c7 B6 A4 n4 c4 A5 n5 c5 y1 y2 A3 n3 c3)) (A := fun u => [pureC (u = .bool y41)]) ?_ rfl rfl rfl
              generalize val 14 = u14
              generalize val 18 = u18
              generalize val 19 = u19
              refine X_pure 0 rfl ?_
              rintro rfl
              refine X_pure 1 rfl ?_
              rintro ⟨A38, n38, c38, rfl⟩
              refine X_pure 3 rfl ?_
              rintro ⟨A40, n40, c40, rfl⟩
              refine X_op (op_callR (pantomimeref19_Same_ok hy41) call25 rfl (mem_cons (lent_own (i := 2) rfl) (mem_cons (lent_own (i := 4) rfl) mem_nil)) pantomimeref19_Same_free) (g_tt g32 rfl) ?_
              rintro _ _ ⟨_, ⟨rfl, rfl⟩, rfl⟩
              exact cv_put [] rfl (cv_refl _)
            refine steps_cons rfl ?_ ?_
            · intro val
              refine X_start (s := [(36, val 14), (0, .bool false), (1, .pointer (some ⟨B6, 0, none⟩)), (2, .pointer (some ⟨B12, 0, none⟩))]) (L := [pureC ((val 14) = .bool b22)] ++ (pantomimelaw19_goes_C3 B12 A11 n11 c11 y8 y9 A10 n10 c10 A7 n7 c7 B6 A4 n4 c4 A5 n5 c5 y1 y2 A3 n3 c3)) (A := fun u => [pureC (∃ (A40 : Option Addr) (n40 : Nat) (c40 : Nat), u = .slice A40 n40 c40), ownC (rInt .i64) 3 u ([1] : List Int)]) ?_ rfl rfl rfl
              generalize val 14 = u14
              refine X_pure 0 rfl ?_
              rintro rfl
              refine X_op (op_bslice (R := (rInt .i64)) (vss := [[.int .i64 1]]) (xs := [1]) rfl (bsl_31_1 _) rfl rfl (fun _ _ hr => .cons rfl All2.nil)) (g_tt g32 rfl) ?_
              rintro _ _ ⟨A39, n39, c39, rfl, rfl⟩
              exact cv_put [ownC (rInt .i64) 3 (.slice A39 n39 c39) ([1] : List Int)] ⟨_, _, _, rfl⟩ (cv_refl _)
            refine steps_cons rfl ?_ ?_
            · intro val
              refine X_start (s := [(36, val 14), (37, val 15), (39, val 17), (0, .bool false), (1, .pointer (some ⟨B6, 0, none⟩)), (2, .pointer (some ⟨B12, 0, none⟩))]) (L := [pureC ((val 14) = .bool b22), pureC ((val 15) = .agg #[.slice A11 n11 c11, .slice none 0 0]), pureC (∃ (A35 : Option Addr) (n35 : Nat) (c35 : Nat), (val 17) = .slice A35 n35 c35), ownC rDValue 38 (val 17) ([y33] : List DValue)] ++ (pantomimelaw19_goes_C3 B12 A11 n11 c11 y8 y9 A10 n10 c10 A7 n7 c7 B6 A4 n4 c4 A5 n5 c5 y1 y2 A3 n3 c3)) (A := fun u => [pureC (∃ (A38 : Option Addr) (n38 : Nat) (c38 : Nat), u = .slice A38 n38 c38), ownC (rInt .i64) 3 u y36]) ?_ rfl rfl rfl
              generalize val 14 = u14
              generalize val 15 = u15
              generalize val 17 = u17
              refine X_pure 0 rfl ?_
              rintro rfl
              refine X_pure 1 rfl ?_
              rintro rfl
              refine X_pure 2 rfl ?_
              rintro ⟨A35, n35, c35, rfl⟩
              refine X_op (op_callR (reach_Live_ok hy36) call16 rfl (mem_cons (lent_own (i := 5) rfl) (mem_cons (lent_nil) (mem_cons (lent_own (i := 3) rfl) mem_nil))) reach_Live_free) (g_tt g32 rfl) ?_
              rintro _ _ ⟨_, ⟨A37, n37, c37, rfl, rfl⟩, rfl⟩
              exact cv_put [ownC (rInt .i64) 3 (.slice A37 n37 c37) y36] ⟨_, _, _, rfl⟩ (cv_refl _)
            refine steps_cons rfl ?_ ?_
            · intro val
              refine X_start (s := [(36, val 14), (38, val 16), (0, .bool false), (1, .pointer (some ⟨B6, 0, none⟩)), (2, .pointer (some ⟨B12, 0, none⟩))]) (L := [pureC ((val 14) = .bool b22), pureC ((val 16) = .agg #[.int .i64 y33.Kind, .int .i64 y33.N, .string y33.S])] ++ (pantomimelaw19_goes_C3 B12 A11 n11 c11 y8 y9 A10 n10 c10 A7 n7 c7 B6 A4 n4 c4 A5 n5 c5 y1 y2 A3 n3 c3)) (A := fun u => [pureC (∃ (A35 : Option Addr) (n35 : Nat) (c35 : Nat), u = .slice A35 n35 c35), ownC rDValue 38 u ([y33] : List DValue)]) ?_ rfl rfl rfl
              generalize val 14 = u14
              generalize val 16 = u16
              refine X_pure 0 rfl ?_
              rintro rfl
              refine X_pure 1 rfl ?_
              rintro rfl
              refine X_op (op_bslice (R := rDValue) (vss := [[.int .i64 y33.Kind, .int .i64 y33.N, .string y33.S]]) (xs := [y33]) rfl (bsl_25_1 _ _ _) rfl rfl (fun _ _ hr => .cons rfl All2.nil)) (g_tt g32 rfl) ?_
              rintro _ _ ⟨A34, n34, c34, rfl, rfl⟩
              exact cv_put [ownC rDValue 38 (.slice A34 n34 c34) ([y33] : List DValue)] ⟨_, _, _, rfl⟩ (cv_refl _)
            refine steps_cons rfl ?_ ?_
            · intro val
              refine X_start (s := [(36, val 14), (0, .bool false), (1, .pointer (some ⟨B6, 0, none⟩)), (2, .pointer (some ⟨B12, 0, none⟩))]) (L := [pureC ((val 14) = .bool b22)] ++ (pantomimelaw19_goes_C3 B12 A11 n11 c11 y8 y9 A10 n10 c10 A7 n7 c7 B6 A4 n4 c4 A5 n5 c5 y1 y2 A3 n3 c3)) (A := fun u => [pureC (u = .agg #[.int .i64 y33.Kind, .int .i64 y33.N, .string y33.S])]) ?_ rfl rfl rfl
              generalize val 14 = u14
              refine X_pure 0 rfl ?_
              rintro rfl
              refine X_op (op_callR (pantomimelaw19_object_ok hy33) call47 rfl (mem_nil) pantomimelaw19_object_free) (g_tt g32 rfl) ?_
              rintro _ _ ⟨_, ⟨rfl, rfl⟩, rfl⟩
              exact cv_put [] rfl (cv_refl _)
            refine steps_cons rfl ?_ ?_
            · intro val
              refine X_start (s := [(36, val 14), (0, .bool false), (1, .pointer (some ⟨B6, 0, none⟩)), (2, .pointer (some ⟨B12, 0, none⟩))]) (L := [pureC ((val 14) = .bool b22)] ++ (pantomimelaw19_goes_C3 B12 A11 n11 c11 y8 y9 A10 n10 c10 A7 n7 c7 B6 A4 n4 c4 A5 n5 c5 y1 y2 A3 n3 c3)) (A := fun u => [pureC (u = .agg #[.slice A11 n11 c11, .slice none 0 0])]) ?_ rfl rfl rfl
              generalize val 14 = u14
              refine X_pure 0 rfl ?_
              rintro rfl
              exact X_rd (rd_boxS (us := [.slice A11 n11 c11, .slice none 0 0]) 1 rfl rfl agg24 rfl) (g_tt g32 rfl) (cv_put [] rfl (cv_refl _))
            refine steps_cons rfl ?_ ?_
            · intro val
              refine X_start (s := [(35, val 13), (0, .bool false), (1, .pointer (some ⟨B6, 0, none⟩)), (2, .pointer (some ⟨B12, 0, none⟩))]) (L := [pureC ((val 13) = .bool b22)] ++ (pantomimelaw19_goes_C3 B12 A11 n11 c11 y8 y9 A10 n10 c10 A7 n7 c7 B6 A4 n4 c4 A5 n5 c5 y1 y2 A3 n3 c3)) (A := fun u => [pureC (u = .bool b22)]) ?_ rfl rfl rfl
              generalize val 13 = u13
              refine X_pure 0 rfl ?_
              rintro rfl
              exact X_ev (ev_move rfl) rfl (cv_put [] rfl (cv_refl _))
            refine steps_cons rfl ?_ ?_
            · intro val
              refine X_start (s := [(28, val 6), (34, val 12), (0, .bool false), (1, .pointer (some ⟨B6, 0, none⟩)), (2, .pointer (some ⟨B12, 0, none⟩))]) (L := [pureC ((val 6) = .bool y21), pureC ((val 12) = .bool y31)] ++ (pantomimelaw19_goes_C3 B12 A11 n11 c11 y8 y9 A10 n10 c10 A7 n7 c7 B6 A4 n4 c4 A5 n5 c5 y1 y2 A3 n3 c3)) (A := fun u => [pureC (u = .bool b22)]) ?_ rfl rfl rfl
              generalize val 6 = u6
              generalize val 12 = u12
              refine X_pure 0 rfl ?_
              rintro rfl
              refine X_pure 1 rfl ?_
              rintro rfl
              exact X_ev (ev_pick_t' g22 rfl rfl) rfl (cv_put [] (by rw [hb22]) (cv_refl _))
            refine steps_cons rfl ?_ ?_
            · intro val
              refine X_start (s := [(28, val 6), (32, val 10), (33, val 11), (0, .bool false), (1, .pointer (some ⟨B6, 0, none⟩)), (2, .pointer (some ⟨B12, 0, none⟩))]) (L := [pureC ((val 6) = .bool y21), pureC (∃ (A28 : Option Addr) (n28 : Nat) (c28 : Nat), (val 10) = .slice A28 n28 c28), ownC (rInt .i64) 3 (val 10) y26, pureC (∃ (A30 : Option Addr) (n30 : Nat) (c30 : Nat), (val 11) = .slice A30 n30 c30), ownC (rInt .i64) 3 (val 11) ([1, 2, 3] : List Int)] ++ (pantomimelaw19_goes_C3 B12 A11 n11 c11 y8 y9 A10 n10 c10 A7 n7 c7 B6 A4 n4 c4 A5 n5 c5 y1 y2 A3 n3 c3)) (A := fun u => [pureC (u = .bool y31)]) ?_ rfl rfl rfl
              generalize val 6 = u6
              generalize val 10 = u10
              generalize val 11 = u11
              refine X_pure 0 rfl ?_
              rintro rfl
              refine X_pure 1 rfl ?_
              rintro ⟨A28, n28, c28, rfl⟩
              refine X_pure 3 rfl ?_
              rintro ⟨A30, n30, c30, rfl⟩
              refine X_op (op_callR (pantomimeref19_Same_ok hy31) call25 rfl (mem_cons (lent_own (i := 2) rfl) (mem_cons (lent_own (i := 4) rfl) mem_nil)) pantomimeref19_Same_free) (g_tt g22 rfl) ?_
              rintro _ _ ⟨_, ⟨rfl, rfl⟩, rfl⟩
              exact cv_put [] rfl (cv_refl _)
            refine steps_cons rfl ?_ ?_
            · intro val
              refine X_start (s := [(28, val 6), (0, .bool false), (1, .pointer (some ⟨B6, 0, none⟩)), (2, .pointer (some ⟨B12, 0, none⟩))]) (L := [pureC ((val 6) = .bool y21)] ++ (pantomimelaw19_goes_C3 B12 A11 n11 c11 y8 y9 A10 n10 c10 A7 n7 c7 B6 A4 n4 c4 A5 n5 c5 y1 y2 A3 n3 c3)) (A := fun u => [pureC (∃ (A30 : Option Addr) (n30 : Nat) (c30 : Nat), u = .slice A30 n30 c30), ownC (rInt .i64) 3 u ([1, 2, 3] : List Int)]) ?_ rfl rfl rfl
              generalize val 6 = u6
              refine X_pure 0 rfl ?_
              rintro rfl
              refine X_op (op_bslice (R := (rInt .i64)) (vss := [[.int .i64 1], [.int .i64 2], [.int .i64 3]]) (xs := [1, 2, 3]) rfl (bsl_31_3 _ _ _) rfl rfl (fun _ _ hr => .cons rfl (.cons rfl (.cons rfl All2.nil)))) (g_tt g22 rfl) ?_
              rintro _ _ ⟨A29, n29, c29, rfl, rfl⟩
              exact cv_put [ownC (rInt .i64) 3 (.slice A29 n29 c29) ([1, 2, 3] : List Int)] ⟨_, _, _, rfl⟩ (cv_refl _)
            refine steps_cons rfl ?_ ?_
            · intro val
              refine X_start (s := [(28, val 6), (29, val 7), (31, val 9), (0, .bool false), (1, .pointer (some ⟨B6, 0, none⟩)), (2, .pointer (some ⟨B12, 0, none⟩))]) (L := [pureC ((val 6) = .bool y21), pureC ((val 7) = .agg #[.slice A4 n4 c4, .slice A5 n5 c5]), pureC (∃ (A25 : Option Addr) (n25 : Nat) (c25 : Nat), (val 9) = .slice A25 n25 c25), ownC rDValue 38 (val 9) ([y23] : List DValue)] ++ (pantomimelaw19_goes_C3 B12 A11 n11 c11 y8 y9 A10 n10 c10 A7 n7 c7 B6 A4 n4 c4 A5 n5 c5 y1 y2 A3 n3 c3)) (A := fun u => [pureC (∃ (A28 : Option Addr) (n28 : Nat) (c28 : Nat), u = .slice A28 n28 c28), ownC (rInt .i64) 3 u y26]) ?_ rfl rfl rfl
              generalize val 6 = u6
              generalize val 7 = u7
              generalize val 9 = u9
              refine X_pure 0 rfl ?_
              rintro rfl
              refine X_pure 1 rfl ?_
              rintro rfl
              refine X_pure 2 rfl ?_
              rintro ⟨A25, n25, c25, rfl⟩
              refine X_op (op_callR (reach_Live_ok hy26) call16 rfl (mem_cons (lent_own (i := 10) rfl) (mem_cons (lent_own (i := 9) rfl) (mem_cons (lent_own (i := 3) rfl) mem_nil))) reach_Live_free) (g_tt g22 rfl) ?_
              rintro _ _ ⟨_, ⟨A27, n27, c27, rfl, rfl⟩, rfl⟩
              exact cv_put [ownC (rInt .i64) 3 (.slice A27 n27 c27) y26] ⟨_, _, _, rfl⟩ (cv_refl _)
            refine steps_cons rfl ?_ ?_
            · intro val
              refine X_start (s := [(28, val 6), (30, val 8), (0, .bool false), (1, .pointer (some ⟨B6, 0, none⟩)), (2, .pointer (some ⟨B12, 0, none⟩))]) (L := [pureC ((val 6) = .bool y21), pureC ((val 8) = .agg #[.int .i64 y23.Kind, .int .i64 y23.N, .string y23.S])] ++ (pantomimelaw19_goes_C3 B12 A11 n11 c11 y8 y9 A10 n10 c10 A7 n7 c7 B6 A4 n4 c4 A5 n5 c5 y1 y2 A3 n3 c3)) (A := fun u => [pureC (∃ (A25 : Option Addr) (n25 : Nat) (c25 : Nat), u = .slice A25 n25 c25), ownC rDValue 38 u ([y23] : List DValue)]) ?_ rfl rfl rfl
              generalize val 6 = u6
              generalize val 8 = u8
              refine X_pure 0 rfl ?_
              rintro rfl
              refine X_pure 1 rfl ?_
              rintro rfl
              refine X_op (op_bslice (R := rDValue) (vss := [[.int .i64 y23.Kind, .int .i64 y23.N, .string y23.S]]) (xs := [y23]) rfl (bsl_25_1 _ _ _) rfl rfl (fun _ _ hr => .cons rfl All2.nil)) (g_tt g22 rfl) ?_
              rintro _ _ ⟨A24, n24, c24, rfl, rfl⟩
              exact cv_put [ownC rDValue 38 (.slice A24 n24 c24) ([y23] : List DValue)] ⟨_, _, _, rfl⟩ (cv_refl _)
            refine steps_cons rfl ?_ ?_
            · intro val
              refine X_start (s := [(28, val 6), (0, .bool false), (1, .pointer (some ⟨B6, 0, none⟩)), (2, .pointer (some ⟨B12, 0, none⟩))]) (L := [pureC ((val 6) = .bool y21)] ++ (pantomimelaw19_goes_C3 B12 A11 n11 c11 y8 y9 A10 n10 c10 A7 n7 c7 B6 A4 n4 c4 A5 n5 c5 y1 y2 A3 n3 c3)) (A := fun u => [pureC (u = .agg #[.int .i64 y23.Kind, .int .i64 y23.N, .string y23.S])]) ?_ rfl rfl rfl
              generalize val 6 = u6
              refine X_pure 0 rfl ?_
              rintro rfl
              refine X_op (op_callR (pantomimelaw19_object_ok hy23) call47 rfl (mem_nil) pantomimelaw19_object_free) (g_tt g22 rfl) ?_
              rintro _ _ ⟨_, ⟨rfl, rfl⟩, rfl⟩
              exact cv_put [] rfl (cv_refl _)
            refine steps_cons rfl ?_ ?_
            · intro val
              refine X_start (s := [(28, val 6), (0, .bool false), (1, .pointer (some ⟨B6, 0, none⟩)), (2, .pointer (some ⟨B12, 0, none⟩))]) (L := [pureC ((val 6) = .bool y21)] ++ (pantomimelaw19_goes_C3 B12 A11 n11 c11 y8 y9 A10 n10 c10 A7 n7 c7 B6 A4 n4 c4 A5 n5 c5 y1 y2 A3 n3 c3)) (A := fun u => [pureC (u = .agg #[.slice A4 n4 c4, .slice A5 n5 c5])]) ?_ rfl rfl rfl
              generalize val 6 = u6
              refine X_pure 0 rfl ?_
              rintro rfl
              exact X_rd (rd_boxS (us := [.slice A4 n4 c4, .slice A5 n5 c5]) 5 rfl rfl agg24 rfl) (g_tt g22 rfl) (cv_put [] rfl (cv_refl _))
            refine steps_cons rfl ?_ ?_
            · intro val
              refine X_start (s := [(27, val 5), (0, .bool false), (1, .pointer (some ⟨B6, 0, none⟩)), (2, .pointer (some ⟨B12, 0, none⟩))]) (L := [pureC ((val 5) = .bool y21)] ++ (pantomimelaw19_goes_C3 B12 A11 n11 c11 y8 y9 A10 n10 c10 A7 n7 c7 B6 A4 n4 c4 A5 n5 c5 y1 y2 A3 n3 c3)) (A := fun u => [pureC (u = .bool y21)]) ?_ rfl rfl rfl
              generalize val 5 = u5
              refine X_pure 0 rfl ?_
              rintro rfl
              exact X_ev (ev_move rfl) rfl (cv_put [] rfl (cv_refl _))
            refine steps_cons rfl ?_ ?_
            · intro val
              refine X_start (s := [(25, val 3), (26, val 4), (0, .bool false), (1, .pointer (some ⟨B6, 0, none⟩)), (2, .pointer (some ⟨B12, 0, none⟩))]) (L := [pureC (∃ (A18 : Option Addr) (n18 : Nat) (c18 : Nat), (val 3) = .slice A18 n18 c18), ownC (rInt .i64) 3 (val 3) y16, pureC (∃ (A20 : Option Addr) (n20 : Nat) (c20 : Nat), (val 4) = .slice A20 n20 c20), ownC (rInt .i64) 3 (val 4) ([1, 3, 2] : List Int)] ++ (pantomimelaw19_goes_C3 B12 A11 n11 c11 y8 y9 A10 n10 c10 A7 n7 c7 B6 A4 n4 c4 A5 n5 c5 y1 y2 A3 n3 c3)) (A := fun u => [pureC (u = .bool y21)]) ?_ rfl rfl rfl
              generalize val 3 = u3
              generalize val 4 = u4
              refine X_pure 0 rfl ?_
              rintro ⟨A18, n18, c18, rfl⟩
              refine X_pure 2 rfl ?_
              rintro ⟨A20, n20, c20, rfl⟩
              refine X_op (op_callR (pantomimeref19_Same_ok hy21) call25 rfl (mem_cons (lent_own (i := 1) rfl) (mem_cons (lent_own (i := 3) rfl) mem_nil)) pantomimeref19_Same_free) rfl ?_
              rintro _ _ ⟨_, ⟨rfl, rfl⟩, rfl⟩
              exact cv_put [] rfl (cv_refl _)
            refine steps_cons rfl ?_ ?_
            · intro val
              refine X_start (s := [(0, .bool false), (1, .pointer (some ⟨B6, 0, none⟩)), (2, .pointer (some ⟨B12, 0, none⟩))]) (L := [] ++ (pantomimelaw19_goes_C3 B12 A11 n11 c11 y8 y9 A10 n10 c10 A7 n7 c7 B6 A4 n4 c4 A5 n5 c5 y1 y2 A3 n3 c3)) (A := fun u => [pureC (∃ (A20 : Option Addr) (n20 : Nat) (c20 : Nat), u = .slice A20 n20 c20), ownC (rInt .i64) 3 u ([1, 3, 2] : List Int)]) ?_ rfl rfl rfl
              refine X_op (op_bslice (R := (rInt .i64)) (vss := [[.int .i64 1], [.int .i64 3], [.int .i64 2]]) (xs := [1, 3, 2]) rfl (bsl_31_3 _ _ _) rfl rfl (fun _ _ hr => .cons rfl (.cons rfl (.cons rfl All2.nil)))) rfl ?_
              rintro _ _ ⟨A19, n19, c19, rfl, rfl⟩
              exact cv_put [ownC (rInt .i64) 3 (.slice A19 n19 c19) ([1, 3, 2] : List Int)] ⟨_, _, _, rfl⟩ (cv_refl _)
            refine steps_cons rfl ?_ ?_
            · intro val
              refine X_start (s := [(22, val 0), (24, val 2), (0, .bool false), (1, .pointer (some ⟨B6, 0, none⟩)), (2, .pointer (some ⟨B12, 0, none⟩))]) (L := [pureC ((val 0) = .agg #[.slice A4 n4 c4, .slice A5 n5 c5]), pureC (∃ (A15 : Option Addr) (n15 : Nat) (c15 : Nat), (val 2) = .slice A15 n15 c15), ownC rDValue 38 (val 2) ([y13] : List DValue)] ++ (pantomimelaw19_goes_C3 B12 A11 n11 c11 y8 y9 A10 n10 c10 A7 n7 c7 B6 A4 n4 c4 A5 n5 c5 y1 y2 A3 n3 c3)) (A := fun u => [pureC (∃ (A18 : Option Addr) (n18 : Nat) (c18 : Nat), u = .slice A18 n18 c18), ownC (rInt .i64) 3 u y16]) ?_ rfl rfl rfl
              generalize val 0 = u0
              generalize val 2 = u2
              refine X_pure 0 rfl ?_
              rintro rfl
              refine X_pure 1 rfl ?_
              rintro ⟨A15, n15, c15, rfl⟩
              refine X_op (op_callR (reach_Order_ok hy16) call23 rfl (mem_cons (lent_own (i := 9) rfl) (mem_cons (lent_own (i := 8) rfl) (mem_cons (lent_own (i := 2) rfl) mem_nil))) reach_Order_free) rfl ?_
              rintro _ _ ⟨_, ⟨A17, n17, c17, rfl, rfl⟩, rfl⟩
              exact cv_put [ownC (rInt .i64) 3 (.slice A17 n17 c17) y16] ⟨_, _, _, rfl⟩ (cv_refl _)
            refine steps_cons rfl ?_ ?_
            · intro val
              refine X_start (s := [(23, val 1), (0, .bool false), (1, .pointer (some ⟨B6, 0, none⟩)), (2, .pointer (some ⟨B12, 0, none⟩))]) (L := [pureC ((val 1) = .agg #[.int .i64 y13.Kind, .int .i64 y13.N, .string y13.S])] ++ (pantomimelaw19_goes_C3 B12 A11 n11 c11 y8 y9 A10 n10 c10 A7 n7 c7 B6 A4 n4 c4 A5 n5 c5 y1 y2 A3 n3 c3)) (A := fun u => [pureC (∃ (A15 : Option Addr) (n15 : Nat) (c15 : Nat), u = .slice A15 n15 c15), ownC rDValue 38 u ([y13] : List DValue)]) ?_ rfl rfl rfl
              generalize val 1 = u1
              refine X_pure 0 rfl ?_
              rintro rfl
              refine X_op (op_bslice (R := rDValue) (vss := [[.int .i64 y13.Kind, .int .i64 y13.N, .string y13.S]]) (xs := [y13]) rfl (bsl_25_1 _ _ _) rfl rfl (fun _ _ hr => .cons rfl All2.nil)) rfl ?_
              rintro _ _ ⟨A14, n14, c14, rfl, rfl⟩
              exact cv_put [ownC rDValue 38 (.slice A14 n14 c14) ([y13] : List DValue)] ⟨_, _, _, rfl⟩ (cv_refl _)
            refine steps_cons rfl ?_ ?_
            · intro val
              refine X_start (s := [(0, .bool false), (1, .pointer (some ⟨B6, 0, none⟩)), (2, .pointer (some ⟨B12, 0, none⟩))]) (L := [] ++ (pantomimelaw19_goes_C3 B12 A11 n11 c11 y8 y9 A10 n10 c10 A7 n7 c7 B6 A4 n4 c4 A5 n5 c5 y1 y2 A3 n3 c3)) (A := fun u => [pureC (u = .agg #[.int .i64 y13.Kind, .int .i64 y13.N, .string y13.S])]) ?_ rfl rfl rfl
              refine X_op (op_callR (pantomimelaw19_object_ok hy13) call47 rfl (mem_nil) pantomimelaw19_object_free) rfl ?_
              rintro _ _ ⟨_, ⟨rfl, rfl⟩, rfl⟩
              exact cv_put [] rfl (cv_refl _)
            refine steps_cons rfl ?_ ?_
            · intro val
              refine X_start (s := [(0, .bool false), (1, .pointer (some ⟨B6, 0, none⟩)), (2, .pointer (some ⟨B12, 0, none⟩))]) (L := [] ++ (pantomimelaw19_goes_C3 B12 A11 n11 c11 y8 y9 A10 n10 c10 A7 n7 c7 B6 A4 n4 c4 A5 n5 c5 y1 y2 A3 n3 c3)) (A := fun u => [pureC (u = .agg #[.slice A4 n4 c4, .slice A5 n5 c5])]) ?_ rfl rfl rfl
              exact X_rd (rd_boxS (us := [.slice A4 n4 c4, .slice A5 n5 c5]) 4 rfl rfl agg24 rfl) rfl (cv_put [] rfl (cv_refl _))
            exact steps_nil
          · intro val
            show TkN _ _ _ _ _ [(22, val 0), (23, val 1), (24, val 2), (25, val 3), (26, val 4), (27, val 5), (28, val 6), (29, val 7), (30, val 8), (31, val 9), (32, val 10), (33, val 11), (34, val 12), (35, val 13), (36, val 14), (37, val 15), (38, val 16), (39, val 17), (40, val 18), (41, val 19), (42, val 20), (43, val 21), (44, val 22), (45, val 23), (46, val 24), (47, val 25), (48, val 26), (49, val 27), (50, val 28), (51, val 29), (52, val 30), (53, val 31), (54, val 32), (55, val 33), (56, val 34), (57, val 35), (58, val 36), (59, val 37), (60, val 38), (61, val 39), (0, .bool false), (1, .pointer (some ⟨B6, 0, none⟩)), (2, .pointer (some ⟨B12, 0, none⟩))] ([pureC ((val 0) = .agg #[.slice A4 n4 c4, .slice A5 n5 c5]), pureC ((val 1) = .agg #[.int .i64 y13.Kind, .int .i64 y13.N, .string y13.S]), pureC (∃ (A15 : Option Addr) (n15 : Nat) (c15 : Nat), (val 2) = .slice A15 n15 c15), ownC rDValue 38 (val 2) ([y13] : List DValue), pureC (∃ (A18 : Option Addr) (n18 : Nat) (c18 : Nat), (val 3) = .slice A18 n18 c18), ownC (rInt .i64) 3 (val 3) y16, pureC (∃ (A20 : Option Addr) (n20 : Nat) (c20 : Nat), (val 4) = .slice A20 n20 c20), ownC (rInt .i64) 3 (val 4) ([1, 3, 2] : List Int), pureC ((val 5) = .bool y21), pureC ((val 6) = .bool y21), pureC ((val 7) = .agg #[.slice A4 n4 c4, .slice A5 n5 c5]), pureC ((val 8) = .agg #[.int .i64 y23.Kind, .int .i64 y23.N, .string y23.S]), pureC (∃ (A25 : Option Addr) (n25 : Nat) (c25 : Nat), (val 9) = .slice A25 n25 c25), ownC rDValue 38 (val 9) ([y23] : List DValue), pureC (∃ (A28 : Option Addr) (n28 : Nat) (c28 : Nat), (val 10) = .slice A28 n28 c28), ownC (rInt .i64) 3 (val 10) y26, pureC (∃ (A30 : Option Addr) (n30 : Nat) (c30 : Nat), (val 11) = .slice A30 n30 c30), ownC (rInt .i64) 3 (val 11) ([1, 2, 3] : List Int), pureC ((val 12) = .bool y31), pureC ((val 13) = .bool b22), pureC ((val 14) = .bool b22), pureC ((val 15) = .agg #[.slice A11 n11 c11, .slice none 0 0]), pureC ((val 16) = .agg #[.int .i64 y33.Kind, .int .i64 y33.N, .string y33.S]), pureC (∃ (A35 : Option Addr) (n35 : Nat) (c35 : Nat), (val 17) = .slice A35 n35 c35), ownC rDValue 38 (val 17) ([y33] : List DValue), pureC (∃ (A38 : Option Addr) (n38 : Nat) (c38 : Nat), (val 18) = .slice A38 n38 c38), ownC (rInt .i64) 3 (val 18) y36, pureC (∃ (A40 : Option Addr) (n40 : Nat) (c40 : Nat), (val 19) = .slice A40 n40 c40), ownC (rInt .i64) 3 (val 19) ([1] : List Int), pureC ((val 20) = .bool y41), pureC ((val 21) = .bool b32), pureC ((val 22) = .bool b32), pureC ((val 23) = .agg #[.slice A11 n11 c11, .slice none 0 0]), pureC ((val 24) = .agg #[.int .i64 y43.Kind, .int .i64 y43.N, .string y43.S]), pureC ((val 25) = .agg #[.int .i64 y44.Kind, .int .i64 y44.N, .string y44.S]), pureC (∃ (A46 : Option Addr) (n46 : Nat) (c46 : Nat), (val 26) = .slice A46 n46 c46), ownC rDValue 38 (val 26) ([y43, y44] : List DValue), pureC (∃ (A49 : Option Addr) (n49 : Nat) (c49 : Nat), (val 27) = .slice A49 n49 c49), ownC (rInt .i64) 3 (val 27) y47, pureC (∃ (A51 : Option Addr) (n51 : Nat) (c51 : Nat), (val 28) = .slice A51 n51 c51), ownC (rInt .i64) 3 (val 28) ([1, 3, 5] : List Int), pureC ((val 29) = .bool y52), pureC ((val 30) = .bool b42), pureC ((val 31) = .bool b42), pureC ((val 32) = .agg #[.slice A11 n11 c11, .slice none 0 0]), pureC ((val 33) = .agg #[.int .i64 y54.Kind, .int .i64 y54.N, .string y54.S]), pureC ((val 34) = .agg #[.int .i64 y55.Kind, .int .i64 y55.N, .string y55.S]), pureC (∃ (A57 : Option Addr) (n57 : Nat) (c57 : Nat), (val 35) = .slice A57 n57 c57), ownC rDValue 38 (val 35) ([y54, y55] : List DValue), pureC (∃ (A60 : Option Addr) (n60 : Nat) (c60 : Nat), (val 36) = .slice A60 n60 c60), ownC (rInt .i64) 3 (val 36) y58, pureC (∃ (A62 : Option Addr) (n62 : Nat) (c62 : Nat), (val 37) = .slice A62 n62 c62), ownC (rInt .i64) 3 (val 37) ([1, 3] : List Int), pureC ((val 38) = .bool y63), pureC ((val 39) = .bool b53)] ++ (pantomimelaw19_goes_C3 B12 A11 n11 c11 y8 y9 A10 n10 c10 A7 n7 c7 B6 A4 n4 c4 A5 n5 c5 y1 y2 A3 n3 c3))
            generalize val 0 = u0
            generalize val 1 = u1
            generalize val 2 = u2
            generalize val 3 = u3
            generalize val 4 = u4
            generalize val 5 = u5
            generalize val 6 = u6
            generalize val 7 = u7
            generalize val 8 = u8
            generalize val 9 = u9
            generalize val 10 = u10
            generalize val 11 = u11
            generalize val 12 = u12
            generalize val 13 = u13
            generalize val 14 = u14
            generalize val 15 = u15
            generalize val 16 = u16
            generalize val 17 = u17
            generalize val 18 = u18
            generalize val 19 = u19
            generalize val 20 = u20
            generalize val 21 = u21
            generalize val 22 = u22
            generalize val 23 = u23
            generalize val 24 = u24
            generalize val 25 = u25
            generalize val 26 = u26
            generalize val 27 = u27
            generalize val 28 = u28
            generalize val 29 = u29
            generalize val 30 = u30
            generalize val 31 = u31
            generalize val 32 = u32
            generalize val 33 = u33
            generalize val 34 = u34
            generalize val 35 = u35
            generalize val 36 = u36
            generalize val 37 = u37
            generalize val 38 = u38
            generalize val 39 = u39
            refine N_pure 0 rfl ?_
            rintro rfl
            refine N_pure 1 rfl ?_
            rintro rfl
            refine N_pure 2 rfl ?_
            rintro ⟨A15, n15, c15, rfl⟩
            refine N_pure 4 rfl ?_
            rintro ⟨A18, n18, c18, rfl⟩
            refine N_pure 6 rfl ?_
            rintro ⟨A20, n20, c20, rfl⟩
            refine N_pure 8 rfl ?_
            rintro rfl
            refine N_pure 9 rfl ?_
            rintro rfl
            refine N_pure 10 rfl ?_
            rintro rfl
            refine N_pure 11 rfl ?_
            rintro rfl
            refine N_pure 12 rfl ?_
            rintro ⟨A25, n25, c25, rfl⟩
            refine N_pure 14 rfl ?_
            rintro ⟨A28, n28, c28, rfl⟩
            refine N_pure 16 rfl ?_
            rintro ⟨A30, n30, c30, rfl⟩
            refine N_pure 18 rfl ?_
            rintro rfl
            refine N_pure 19 rfl ?_
            rintro rfl
            refine N_pure 20 rfl ?_
            rintro rfl
            refine N_pure 21 rfl ?_
            rintro rfl
            refine N_pure 22 rfl ?_
            rintro rfl
            refine N_pure 23 rfl ?_
            rintro ⟨A35, n35, c35, rfl⟩
            refine N_pure 25 rfl ?_
            rintro ⟨A38, n38, c38, rfl⟩
            refine N_pure 27 rfl ?_
            rintro ⟨A40, n40, c40, rfl⟩
            refine N_pure 29 rfl ?_
            rintro rfl
            refine N_pure 30 rfl ?_
            rintro rfl
            refine N_pure 31 rfl ?_
            rintro rfl
            refine N_pure 32 rfl ?_
            rintro rfl
            refine N_pure 33 rfl ?_
            rintro rfl
            refine N_pure 34 rfl ?_
            rintro rfl
            refine N_pure 35 rfl ?_
            rintro ⟨A46, n46, c46, rfl⟩
            refine N_pure 37 rfl ?_
            rintro ⟨A49, n49, c49, rfl⟩
            refine N_pure 39 rfl ?_
            rintro ⟨A51, n51, c51, rfl⟩
            refine N_pure 41 rfl ?_
            rintro rfl
            refine N_pure 42 rfl ?_
            rintro rfl
            refine N_pure 43 rfl ?_
            rintro rfl
            refine N_pure 44 rfl ?_
            rintro rfl
            refine N_pure 45 rfl ?_
            rintro rfl
            refine N_pure 46 rfl ?_
            rintro rfl
            refine N_pure 47 rfl ?_
            rintro ⟨A57, n57, c57, rfl⟩
            refine N_pure 49 rfl ?_
            rintro ⟨A60, n60, c60, rfl⟩
            refine N_pure 51 rfl ?_
            rintro ⟨A62, n62, c62, rfl⟩
            refine N_pure 53 rfl ?_
            rintro rfl
            refine N_pure 54 rfl ?_
            rintro rfl
            refine N_sub (L' := [ownC rDValue 38 (.slice A15 n15 c15) ([y13] : List DValue), ownC (rInt .i64) 3 (.slice A18 n18 c18) y16, ownC (rInt .i64) 3 (.slice A20 n20 c20) ([1, 3, 2] : List Int), ownC rDValue 38 (.slice A25 n25 c25) ([y23] : List DValue), ownC (rInt .i64) 3 (.slice A28 n28 c28) y26, ownC (rInt .i64) 3 (.slice A30 n30 c30) ([1, 2, 3] : List Int), ownC rDValue 38 (.slice A35 n35 c35) ([y33] : List DValue), ownC (rInt .i64) 3 (.slice A38 n38 c38) y36, ownC (rInt .i64) 3 (.slice A40 n40 c40) ([1] : List Int), ownC rDValue 38 (.slice A46 n46 c46) ([y43, y44] : List DValue), ownC (rInt .i64) 3 (.slice A49 n49 c49) y47, ownC (rInt .i64) 3 (.slice A51 n51 c51) ([1, 3, 5] : List Int), ownC rDValue 38 (.slice A57 n57 c57) ([y54, y55] : List DValue), ownC (rInt .i64) 3 (.slice A60 n60 c60) y58, ownC (rInt .i64) 3 (.slice A62 n62 c62) ([1, 3] : List Int), boxC B12 24 [.slice A11 n11 c11, .slice none 0 0], ownC rDCell 42 (.slice A11 n11 c11) ([(⟨8, 0, 0, 0, ([(⟨1, 0, ⟨#[]⟩⟩ : DValue)] : List DValue), ([y8, y9] : List DValue)⟩ : DCell), (⟨11, 0, 0, 0, [], []⟩ : DCell), (⟨11, 0, 0, 0, [], []⟩ : DCell)] : List DCell), slC rDValue (.slice A10 n10 c10) ([y8, y9] : List DValue), slC rDValue (.slice A7 n7 c7) ([(⟨1, 0, ⟨#[]⟩⟩ : DValue)] : List DValue), boxC B6 24 [.slice A4 n4 c4, .slice A5 n5 c5], ownC rDCell 42 (.slice A5 n5 c5) ([(⟨11, 0, 0, 0, [], []⟩ : DCell)] : List DCell), ownC rDCell 42 (.slice A4 n4 c4) ([(⟨11, 0, 0, 0, [], ([y1, y2] : List DValue)⟩ : DCell), (⟨11, 0, 0, 0, [], []⟩ : DCell)] : List DCell), slC rDValue (.slice A3 n3 c3) ([y1, y2] : List DValue)]) ?_ sub_refl (cv_sel [3, 5, 7, 13, 15, 17, 24, 26, 28, 36, 38, 40, 48, 50, 52, 55, 56, 57, 58, 59, 60, 61, 62] 63 rfl rfl)
            refine N_ev 40 rfl (by kernel_rfl) (ev_assign rfl) rfl rfl rfl ?_
            refine N_done (by kernel_rfl) ?_
            refine nx_n ?_
            refine G_ret ?_
            obtain rfl := Option.some.inj h
            exact endG1 rfl rfl (cv_sel [] 23 rfl rfl) ⟨rfl, rfl⟩
        · replace hb53 := cond_f g53 hb53
          replace hb53 : false = b53 := Option.some.inj hb53
          refine G_sub (t := [(0, .bool false), (1, .pointer (some ⟨B6, 0, none⟩)), (2, .pointer (some ⟨B12, 0, none⟩))]) ?_ (sub_cons rfl (sub_cons rfl (sub_cons rfl sub_nil))) (cv_refl _)
          refine G_monoR (by kernel_rfl) 40 [] [22, 23, 24, 25, 26, 27, 28, 29, 30, 31, 32, 33, 34, 35, 36, 37, 38, 39, 40, 41, 42, 43, 44, 45, 46, 47, 48, 49, 50, 51, 52, 53, 54, 55, 56, 57, 58, 59, 60, 61] [[], [], [1], [0, 2], [], [3, 4], [5], [6], [6], [6, 8], [6, 7, 9], [6], [6, 10, 11], [6, 12], [13], [14], [14], [14, 16], [14, 15, 17], [14], [14, 18, 19], [14, 20], [21], [22], [22], [22], [22, 24, 25], [22, 23, 26], [22], [22, 27, 28], [22, 29], [30], [31], [31], [31], [31], [31], [31], [31], [31, 38]] [fun u => [pureC (u = .agg #[.slice A4 n4 c4, .slice A5 n5 c5])],
      fun u => [pureC (u = .agg #[.int .i64 y13.Kind, .int .i64 y13.N, .string y13.S])],
      fun u => [pureC (∃ (A15 : Option Addr) (n15 : Nat) (c15 : Nat), u = .slice A15 n15 c15), ownC rDValue 38 u ([y13] : List DValue)],
      fun u => [pureC (∃ (A18 : Option Addr) (n18 : Nat) (c18 : Nat), u = .slice A18 n18 c18), ownC (rInt .i64) 3 u y16],
      fun u => [pureC (∃ (A20 : Option Addr) (n20 : Nat) (c20 : Nat), u = .slice A20 n20 c20), ownC (rInt .i64) 3 u ([1, 3, 2] : List Int)],
      fun u => [pureC (u = .bool y21)],
      fun u => [pureC (u = .bool y21)],
      fun u => [pureC (u = .agg #[.slice A4 n4 c4, .slice A5 n5 c5])],
      fun u => [pureC (u = .agg #[.int .i64 y23.Kind, .int .i64 y23.N, .string y23.S])],
      fun u => [pureC (∃ (A25 : Option Addr) (n25 : Nat) (c25 : Nat), u = .slice A25 n25 c25), ownC rDValue 38 u ([y23] : List DValue)],
      fun u => [pureC (∃ (A28 : Option Addr) (n28 : Nat) (c28 : Nat), u = .slice A28 n28 c28), ownC (rInt .i64) 3 u y26],
      fun u => [pureC (∃ (A30 : Option Addr) (n30 : Nat) (c30 : Nat), u = .slice A30 n30 c30), ownC (rInt .i64) 3 u ([1, 2, 3] : List Int)],
      fun u => [pureC (u = .bool y31)],
      fun u => [pureC (u = .bool b22)],
      fun u => [pureC (u = .bool b22)],
      fun u => [pureC (u = .agg #[.slice A11 n11 c11, .slice none 0 0])],
      fun u => [pureC (u = .agg #[.int .i64 y33.Kind, .int .i64 y33.N, .string y33.S])],
      fun u => [pureC (∃ (A35 : Option Addr) (n35 : Nat) (c35 : Nat), u = .slice A35 n35 c35), ownC rDValue 38 u ([y33] : List DValue)],
      fun u => [pureC (∃ (A38 : Option Addr) (n38 : Nat) (c38 : Nat), u = .slice A38 n38 c38), ownC (rInt .i64) 3 u y36],
      fun u => [pureC (∃ (A40 : Option Addr) (n40 : Nat) (c40 : Nat), u = .slice A40 n40 c40), ownC (rInt .i64) 3 u ([1] : List Int)],
      fun u => [pureC (u = .bool y41)],
      fun u => [pureC (u = .bool b32)],
      fun u => [pureC (u = .bool b32)],
      fun u => [pureC (u = .agg #[.slice A11 n11 c11, .slice none 0 0])],
      fun u => [pureC (u = .agg #[.int .i64 y43.Kind, .int .i64 y43.N, .string y43.S])],
      fun u => [pureC (u = .agg #[.int .i64 y44.Kind, .int .i64 y44.N, .string y44.S])],
      fun u => [pureC (∃ (A46 : Option Addr) (n46 : Nat) (c46 : Nat), u = .slice A46 n46 c46), ownC rDValue 38 u ([y43, y44] : List DValue)],
      fun u => [pureC (∃ (A49 : Option Addr) (n49 : Nat) (c49 : Nat), u = .slice A49 n49 c49), ownC (rInt .i64) 3 u y47],
      fun u => [pureC (∃ (A51 : Option Addr) (n51 : Nat) (c51 : Nat), u = .slice A51 n51 c51), ownC (rInt .i64) 3 u ([1, 3, 5] : List Int)],
      fun u => [pureC (u = .bool y52)],
      fun u => [pureC (u = .bool b42)],
      fun u => [pureC (u = .bool b42)],
      fun u => [pureC (u = undef)],
      fun u => [pureC (u = undef)],
      fun u => [pureC (u = undef)],
      fun u => [pureC (u = undef)],
      fun u => [pureC (u = undef)],
      fun u => [pureC (u = undef)],
      fun u => [pureC (u = undef)],
      fun u => [pureC (u = .bool b53)]] (by kernel_rfl) ?_ ?_ ?_
          · exact qs_nil
          · refine steps_cons rfl ?_ ?_
            · intro val
              refine X_start (s := [(53, val 31), (60, val 38), (0, .bool false), (1, .pointer (some ⟨B6, 0, none⟩)), (2, .pointer (some ⟨B12, 0, none⟩))]) (L := [pureC ((val 31) = .bool b42), pureC ((val 38) = undef)] ++ (pantomimelaw19_goes_C3 B12 A11 n11 c11 y8 y9 A10 n10 c10 A7 n7 c7 B6 A4 n4 c4 A5 n5 c5 y1 y2 A3 n3 c3)) (A := fun u => [pureC (u = .bool b53)]) ?_ rfl rfl rfl
              generalize val 31 = u31
              generalize val 38 = u38
              refine X_pure 0 rfl ?_
              rintro rfl
              refine X_pure 1 rfl ?_
              rintro rfl
              exact X_ev (ev_pick_f' g53 rfl rfl) rfl (cv_put [] (by rw [hb53]) (cv_refl _))
            refine steps_cons rfl ?_ ?_
            · intro val
              refine X_start (s := [(53, val 31), (0, .bool false), (1, .pointer (some ⟨B6, 0, none⟩)), (2, .pointer (some ⟨B12, 0, none⟩))]) (L := [pureC ((val 31) = .bool b42)] ++ (pantomimelaw19_goes_C3 B12 A11 n11 c11 y8 y9 A10 n10 c10 A7 n7 c7 B6 A4 n4 c4 A5 n5 c5 y1 y2 A3 n3 c3)) (A := fun u => [pureC (u = undef)]) ?_ rfl rfl rfl
              generalize val 31 = u31
              refine X_pure 0 rfl ?_
              rintro rfl
              exact X_no (g_tf g53 rfl) (cv_put [] rfl (cv_refl _))
            refine steps_cons rfl ?_ ?_
            · intro val
              refine X_start (s := [(53, val 31), (0, .bool false), (1, .pointer (some ⟨B6, 0, none⟩)), (2, .pointer (some ⟨B12, 0, none⟩))]) (L := [pureC ((val 31) = .bool b42)] ++ (pantomimelaw19_goes_C3 B12 A11 n11 c11 y8 y9 A10 n10 c10 A7 n7 c7 B6 A4 n4 c4 A5 n5 c5 y1 y2 A3 n3 c3)) (A := fun u => [pureC (u = undef)]) ?_ rfl rfl rfl
              generalize val 31 = u31
              refine X_pure 0 rfl ?_
              rintro rfl
              exact X_no (g_tf g53 rfl) (cv_put [] rfl (cv_refl _))
            refine steps_cons rfl ?_ ?_
            · intro val
              refine X_start (s := [(53, val 31), (0, .bool false), (1, .pointer (some ⟨B6, 0, none⟩)), (2, .pointer (some ⟨B12, 0, none⟩))]) (L := [pureC ((val 31) = .bool b42)] ++ (pantomimelaw19_goes_C3 B12 A11 n11 c11 y8 y9 A10 n10 c10 A7 n7 c7 B6 A4 n4 c4 A5 n5 c5 y1 y2 A3 n3 c3)) (A := fun u => [pureC (u = undef)]) ?_ rfl rfl rfl
              generalize val 31 = u31
              refine X_pure 0 rfl ?_
              rintro rfl
              exact X_no (g_tf g53 rfl) (cv_put [] rfl (cv_refl _))
            refine steps_cons rfl ?_ ?_
            · intro val
              refine X_start (s := [(53, val 31), (0, .bool false), (1, .pointer (some ⟨B6, 0, none⟩)), (2, .pointer (some ⟨B12, 0, none⟩))]) (L := [pureC ((val 31) = .bool b42)] ++ (pantomimelaw19_goes_C3 B12 A11 n11 c11 y8 y9 A10 n10 c10 A7 n7 c7 B6 A4 n4 c4 A5 n5 c5 y1 y2 A3 n3 c3)) (A := fun u => [pureC (u = undef)]) ?_ rfl rfl rfl
              generalize val 31 = u31
              refine X_pure 0 rfl ?_
              rintro rfl
              exact X_no (g_tf g53 rfl) (cv_put [] rfl (cv_refl _))
            refine steps_cons rfl ?_ ?_
            · intro val
              refine X_start (s := [(53, val 31), (0, .bool false), (1, .pointer (some ⟨B6, 0, none⟩)), (2, .pointer (some ⟨B12, 0, none⟩))]) (L := [pureC ((val 31) = .bool b42)] ++ (pantomimelaw19_goes_C3 B12 A11 n11 c11 y8 y9 A10 n10 c10 A7 n7 c7 B6 A4 n4 c4 A5 n5 c5 y1 y2 A3 n3 c3)) (A := fun u => [pureC (u = undef)]) ?_ rfl rfl rfl
              generalize val 31 = u31
              refine X_pure 0 rfl ?_
              rintro rfl
              exact X_no (g_tf g53 rfl) (cv_put [] rfl (cv_refl _))
            refine steps_cons rfl ?_ ?_
            · intro val
              refine X_start (s := [(53, val 31), (0, .bool false), (1, .pointer (some ⟨B6, 0, none⟩)), (2, .pointer (some ⟨B12, 0, none⟩))]) (L := [pureC ((val 31) = .bool b42)] ++ (pantomimelaw19_goes_C3 B12 A11 n11 c11 y8 y9 A10 n10 c10 A7 n7 c7 B6 A4 n4 c4 A5 n5 c5 y1 y2 A3 n3 c3)) (A := fun u => [pureC (u = undef)]) ?_ rfl rfl rfl
              generalize val 31 = u31
              refine X_pure 0 rfl ?_
              rintro rfl
              exact X_no (g_tf g53 rfl) (cv_put [] rfl (cv_refl _))
            refine steps_cons rfl ?_ ?_
            · intro val
              refine X_start (s := [(53, val 31), (0, .bool false), (1, .pointer (some ⟨B6, 0, none⟩)), (2, .pointer (some ⟨B12, 0, none⟩))]) (L := [pureC ((val 31) = .bool b42)] ++ (pantomimelaw19_goes_C3 B12 A11 n11 c11 y8 y9 A10 n10 c10 A7 n7 c7 B6 A4 n4 c4 A5 n5 c5 y1 y2 A3 n3 c3)) (A := fun u => [pureC (u = undef)]) ?_ rfl rfl rfl
              generalize val 31 = u31
              refine X_pure 0 rfl ?_
              rintro rfl
              exact X_no (g_tf g53 rfl) (cv_put [] rfl (cv_refl _))
            refine steps_cons rfl ?_ ?_
            · intro val
              refine X_start (s := [(52, val 30), (0, .bool false), (1, .pointer (some ⟨B6, 0, none⟩)), (2, .pointer (some ⟨B12, 0, none⟩))]) (L := [pureC ((val 30) = .bool b42)] ++ (pantomimelaw19_goes_C3 B12 A11 n11 c11 y8 y9 A10 n10 c10 A7 n7 c7 B6 A4 n4 c4 A5 n5 c5 y1 y2 A3 n3 c3)) (A := fun u => [pureC (u = .bool b42)]) ?_ rfl rfl rfl
              generalize val 30 = u30
              refine X_pure 0 rfl ?_
              rintro rfl
              exact X_ev (ev_move rfl) rfl (cv_put [] rfl (cv_refl _))
            refine steps_cons rfl ?_ ?_
            · intro val
              refine X_start (s := [(44, val 22), (51, val 29), (0, .bool false), (1, .pointer (some ⟨B6, 0, none⟩)), (2, .pointer (some ⟨B12, 0, none⟩))]) (L := [pureC ((val 22) = .bool b32), pureC ((val 29) = .bool y52)] ++ (pantomimelaw19_goes_C3 B12 A11 n11 c11 y8 y9 A10 n10 c10 A7 n7 c7 B6 A4 n4 c4 A5 n5 c5 y1 y2 A3 n3 c3)) (A := fun u => [pureC (u = .bool b42)]) ?_ rfl rfl rfl
              generalize val 22 = u22
              generalize val 29 = u29
              refine X_pure 0 rfl ?_
              rintro rfl
              refine X_pure 1 rfl ?_
              rintro rfl
              exact X_ev (ev_pick_t' g42 rfl rfl) rfl (cv_put [] (by rw [hb42]) (cv_refl _))
            refine steps_cons rfl ?_ ?_
            · intro val
              refine X_start (s := [(44, val 22), (49, val 27), (50, val 28), (0, .bool false), (1, .pointer (some ⟨B6, 0, none⟩)), (2, .pointer (some ⟨B12, 0, none⟩))]) (L := [pureC ((val 22) = .bool b32), pureC (∃ (A49 : Option Addr) (n49 : Nat) (c49 : Nat), (val 27) = .slice A49 n49 c49), ownC (rInt .i64) 3 (val 27) y47, pureC (∃ (A51 : Option Addr) (n51 : Nat) (c51 : Nat), (val 28) = .slice A51 n51 c51), ownC (rInt .i64) 3 (val 28) ([1, 3, 5] : List Int)] ++ (pantomimelaw19_goes_C3 B12 A11 n11 c11 y8 y9 A10 n10 c10 A7 n7 c7 B6 A4 n4 c4 A5 n5 c5 y1 y2 A3 n3 c3)) (A := fun u => [pureC (u = .bool y52)]) ?_ rfl rfl rfl
              generalize val 22 = u22
              generalize val 27 = u27
              generalize val 28 = u28
              refine X_pure 0 rfl ?_
              rintro rfl
              refine X_pure 1 rfl ?_
              rintro ⟨A49, n49, c49, rfl⟩
              refine X_pure 3 rfl ?_
              rintro ⟨A51, n51, c51, rfl⟩
              refine X_op (op_callR (pantomimeref19_Same_ok hy52) call25 rfl (mem_cons (lent_own (i := 2) rfl) (mem_cons (lent_own (i := 4) rfl) mem_nil)) pantomimeref19_Same_free) (g_tt g42 rfl) ?_
              rintro _ _ ⟨_, ⟨rfl, rfl⟩, rfl⟩
              exact cv_put [] rfl (cv_refl _)
            refine steps_cons rfl ?_ ?_
            · intro val
              refine X_start (s := [(44, val 22), (0, .bool false), (1, .pointer (some ⟨B6, 0, none⟩)), (2, .pointer (some ⟨B12, 0, none⟩))]) (L := [pureC ((val 22) = .bool b32)] ++ (pantomimelaw19_goes_C3 B12 A11 n11 c11 y8 y9 A10 n10 c10 A7 n7 c7 B6 A4 n4 c4 A5 n5 c5 y1 y2 A3 n3 c3)) (A := fun u => [pureC (∃ (A51 : Option Addr) (n51 : Nat) (c51 : Nat), u = .slice A51 n51 c51), ownC (rInt .i64) 3 u ([1, 3, 5] : List Int)]) ?_ rfl rfl rfl
              generalize val 22 = u22
              refine X_pure 0 rfl ?_
              rintro rfl
              refine X_op (op_bslice (R := (rInt .i64)) (vss := [[.int .i64 1], [.int .i64 3], [.int .i64 5]]) (xs := [1, 3, 5]) rfl (bsl_31_3 _ _ _) rfl rfl (fun _ _ hr => .cons rfl (.cons rfl (.cons rfl All2.nil)))) (g_tt g42 rfl) ?_
              rintro _ _ ⟨A50, n50, c50, rfl, rfl⟩
              exact cv_put [ownC (rInt .i64) 3 (.slice A50 n50 c50) ([1, 3, 5] : List Int)] ⟨_, _, _, rfl⟩ (cv_refl _)
            refine steps_cons rfl ?_ ?_
            · intro val
              refine X_start (s := [(44, val 22), (45, val 23), (48, val 26), (0, .bool false), (1, .pointer (some ⟨B6, 0, none⟩)), (2, .pointer (some ⟨B12, 0, none⟩))]) (L := [pureC ((val 22) = .bool b32), pureC ((val 23) = .agg #[.slice A11 n11 c11, .slice none 0 0]), pureC (∃ (A46 : Option Addr) (n46 : Nat) (c46 : Nat), (val 26) = .slice A46 n46 c46), ownC rDValue 38 (val 26) ([y43, y44] : List DValue)] ++ (pantomimelaw19_goes_C3 B12 A11 n11 c11 y8 y9 A10 n10 c10 A7 n7 c7 B6 A4 n4 c4 A5 n5 c5 y1 y2 A3 n3 c3)) (A := fun u => [pureC (∃ (A49 : Option Addr) (n49 : Nat) (c49 : Nat), u = .slice A49 n49 c49), ownC (rInt .i64) 3 u y47]) ?_ rfl rfl rfl
              generalize val 22 = u22
              generalize val 23 = u23
              generalize val 26 = u26
              refine X_pure 0 rfl ?_
              rintro rfl
              refine X_pure 1 rfl ?_
              rintro rfl
              refine X_pure 2 rfl ?_
              rintro ⟨A46, n46, c46, rfl⟩
              refine X_op (op_callR (reach_Live_ok hy47) call16 rfl (mem_cons (lent_own (i := 5) rfl) (mem_cons (lent_nil) (mem_cons (lent_own (i := 3) rfl) mem_nil))) reach_Live_free) (g_tt g42 rfl) ?_
              rintro _ _ ⟨_, ⟨A48, n48, c48, rfl, rfl⟩, rfl⟩
              exact cv_put [ownC (rInt .i64) 3 (.slice A48 n48 c48) y47] ⟨_, _, _, rfl⟩ (cv_refl _)
            refine steps_cons rfl ?_ ?_
            · intro val
              refine X_start (s := [(44, val 22), (46, val 24), (47, val 25), (0, .bool false), (1, .pointer (some ⟨B6, 0, none⟩)), (2, .pointer (some ⟨B12, 0, none⟩))]) (L := [pureC ((val 22) = .bool b32), pureC ((val 24) = .agg #[.int .i64 y43.Kind, .int .i64 y43.N, .string y43.S]), pureC ((val 25) = .agg #[.int .i64 y44.Kind, .int .i64 y44.N, .string y44.S])] ++ (pantomimelaw19_goes_C3 B12 A11 n11 c11 y8 y9 A10 n10 c10 A7 n7 c7 B6 A4 n4 c4 A5 n5 c5 y1 y2 A3 n3 c3)) (A := fun u => [pureC (∃ (A46 : Option Addr) (n46 : Nat) (c46 : Nat), u = .slice A46 n46 c46), ownC rDValue 38 u ([y43, y44] : List DValue)]) ?_ rfl rfl rfl
              generalize val 22 = u22
              generalize val 24 = u24
              generalize val 25 = u25
              refine X_pure 0 rfl ?_
              rintro rfl
              refine X_pure 1 rfl ?_
              rintro rfl
              refine X_pure 2 rfl ?_
              rintro rfl
              refine X_op (op_bslice (R := rDValue) (vss := [[.int .i64 y43.Kind, .int .i64 y43.N, .string y43.S], [.int .i64 y44.Kind, .int .i64 y44.N, .string y44.S]]) (xs := [y43, y44]) rfl (bsl_25_2 _ _ _ _ _ _) rfl rfl (fun _ _ hr => .cons rfl (.cons rfl All2.nil))) (g_tt g42 rfl) ?_
              rintro _ _ ⟨A45, n45, c45, rfl, rfl⟩
              exact cv_put [ownC rDValue 38 (.slice A45 n45 c45) ([y43, y44] : List DValue)] ⟨_, _, _, rfl⟩ (cv_refl _)
            refine steps_cons rfl ?_ ?_
            · intro val
              refine X_start (s := [(44, val 22), (0, .bool false), (1, .pointer (some ⟨B6, 0, none⟩)), (2, .pointer (some ⟨B12, 0, none⟩))]) (L := [pureC ((val 22) = .bool b32)] ++ (pantomimelaw19_goes_C3 B12 A11 n11 c11 y8 y9 A10 n10 c10 A7 n7 c7 B6 A4 n4 c4 A5 n5 c5 y1 y2 A3 n3 c3)) (A := fun u => [pureC (u = .agg #[.int .i64 y44.Kind, .int .i64 y44.N, .string y44.S])]) ?_ rfl rfl rfl
              generalize val 22 = u22
              refine X_pure 0 rfl ?_
              rintro rfl
              refine X_op (op_callR (pantomimelaw19_object_ok hy44) call47 rfl (mem_nil) pantomimelaw19_object_free) (g_tt g42 rfl) ?_
              rintro _ _ ⟨_, ⟨rfl, rfl⟩, rfl⟩
              exact cv_put [] rfl (cv_refl _)
            refine steps_cons rfl ?_ ?_
            · intro val
              refine X_start (s := [(44, val 22), (0, .bool false), (1, .pointer (some ⟨B6, 0, none⟩)), (2, .pointer (some ⟨B12, 0, none⟩))]) (L := [pureC ((val 22) = .bool b32)] ++ (pantomimelaw19_goes_C3 B12 A11 n11 c11 y8 y9 A10 n10 c10 A7 n7 c7 B6 A4 n4 c4 A5 n5 c5 y1 y2 A3 n3 c3)) (A := fun u => [pureC (u = .agg #[.int .i64 y43.Kind, .int .i64 y43.N, .string y43.S])]) ?_ rfl rfl rfl
              generalize val 22 = u22
              refine X_pure 0 rfl ?_
              rintro rfl
              refine X_op (op_callR (pantomimelaw19_object_ok hy43) call47 rfl (mem_nil) pantomimelaw19_object_free) (g_tt g42 rfl) ?_
              rintro _ _ ⟨_, ⟨rfl, rfl⟩, rfl⟩
              exact cv_put [] rfl (cv_refl _)
            refine steps_cons rfl ?_ ?_
            · intro val
              refine X_start (s := [(44, val 22), (0, .bool false), (1, .pointer (some ⟨B6, 0, none⟩)), (2, .pointer (some ⟨B12, 0, none⟩))]) (L := [pureC ((val 22) = .bool b32)] ++ (pantomimelaw19_goes_C3 B12 A11 n11 c11 y8 y9 A10 n10 c10 A7 n7 c7 B6 A4 n4 c4 A5 n5 c5 y1 y2 A3 n3 c3)) (A := fun u => [pureC (u = .agg #[.slice A11 n11 c11, .slice none 0 0])]) ?_ rfl rfl rfl
              generalize val 22 = u22
              refine X_pure 0 rfl ?_
              rintro rfl
              exact X_rd (rd_boxS (us := [.slice A11 n11 c11, .slice none 0 0]) 1 rfl rfl agg24 rfl) (g_tt g42 rfl) (cv_put [] rfl (cv_refl _))
            refine steps_cons rfl ?_ ?_
            · intro val
              refine X_start (s := [(43, val 21), (0, .bool false), (1, .pointer (some ⟨B6, 0, none⟩)), (2, .pointer (some ⟨B12, 0, none⟩))]) (L := [pureC ((val 21) = .bool b32)] ++ (pantomimelaw19_goes_C3 B12 A11 n11 c11 y8 y9 A10 n10 c10 A7 n7 c7 B6 A4 n4 c4 A5 n5 c5 y1 y2 A3 n3 c3)) (A := fun u => [pureC (u = .bool b32)]) ?_ rfl rfl rfl
              generalize val 21 = u21
              refine X_pure 0 rfl ?_
              rintro rfl
              exact X_ev (ev_move rfl) rfl (cv_put [] rfl (cv_refl _))
            refine steps_cons rfl ?_ ?_
            · intro val
              refine X_start (s := [(36, val 14), (42, val 20), (0, .bool false), (1, .pointer (some ⟨B6, 0, none⟩)), (2, .pointer (some ⟨B12, 0, none⟩))]) (L := [pureC ((val 14) = .bool b22), pureC ((val 20) = .bool y41)] ++ (pantomimelaw19_goes_C3 B12 A11 n11 c11 y8 y9 A10 n10 c10 A7 n7 c7 B6 A4 n4 c4 A5 n5 c5 y1 y2 A3 n3 c3)) (A := fun u => [pureC (u = .bool b32)]) ?_ rfl rfl rfl
              generalize val 14 = u14
              generalize val 20 = u20
              refine X_pure 0 rfl ?_
              rintro rfl
              refine X_pure 1 rfl ?_
              rintro rfl
              exact X_ev (ev_pick_t' g32 rfl rfl) rfl (cv_put [] (by rw [hb32]) (cv_refl _))
            refine steps_cons rfl ?_ ?_
            · intro val
              refine X_start (s := [(36, val 14), (40, val 18), (41, val 19), (0, .bool false), (1, .pointer (some ⟨B6, 0, none⟩)), (2, .pointer (some ⟨B12, 0, none⟩))]) (L := [pureC ((val 14) = .bool b22), pureC (∃ (A38 : Option Addr) (n38 : Nat) (c38 : Nat), (val 18) = .slice A38 n38 c38), ownC (rInt .i64) 3 (val 18) y36, pureC (∃ (A40 : Option Addr) (n40 : Nat) (c40 : Nat), (val 19) = .slice A40 n40 c40), ownC (rInt .i64) 3 (val 19) ([1] : List Int)] ++ (pantomimelaw19_goes_C3 B12 A11 n11 c11 y8 y9 A10 n10 c10 A7 n7 c7 B6 A4 n4 c4 A5 n5 c5 y1 y2 A3 n3 c3)) (A := fun u => [pureC (u = .bool y41)]) ?_ rfl rfl rfl
              generalize val 14 = u14
              generalize val 18 = u18
              generalize val 19 = u19
              refine X_pure 0 rfl ?_
              rintro rfl
              refine X_pure 1 rfl ?_
              rintro ⟨A38, n38, c38, rfl⟩
              refine X_pure 3 rfl ?_
              rintro ⟨A40, n40, c40, rfl⟩
              refine X_op (op_callR (pantomimeref19_Same_ok hy41) call25 rfl (mem_cons (lent_own (i := 2) rfl) (mem_cons (lent_own (i := 4) rfl) mem_nil)) pantomimeref19_Same_free) (g_tt g32 rfl) ?_
              rintro _ _ ⟨_, ⟨rfl, rfl⟩, rfl⟩
              exact cv_put [] rfl (cv_refl _)
            refine steps_cons rfl ?_ ?_
            · intro val
              refine X_start (s := [(36, val 14), (0, .bool false), (1, .pointer (some ⟨B6, 0, none⟩)), (2, .pointer (some ⟨B12, 0, none⟩))]) (L := [pureC ((val 14) = .bool b22)] ++ (pantomimelaw19_goes_C3 B12 A11 n11 c11 y8 y9 A10 n10 c10 A7 n7 c7 B6 A4 n4 c4 A5 n5 c5 y1 y2 A3 n3 c3)) (A := fun u => [pureC (∃ (A40 : Option Addr) (n40 : Nat) (c40 : Nat), u = .slice A40 n40 c40), ownC (rInt .i64) 3 u ([1] : List Int)]) ?_ rfl rfl rfl
              generalize val 14 = u14
              refine X_pure 0 rfl ?_
              rintro rfl
              refine X_op (op_bslice (R := (rInt .i64)) (vss := [[.int .i64 1]]) (xs := [1]) rfl (bsl_31_1 _) rfl rfl (fun _ _ hr => .cons rfl All2.nil)) (g_tt g32 rfl) ?_
              rintro _ _ ⟨A39, n39, c39, rfl, rfl⟩
              exact cv_put [ownC (rInt .i64) 3 (.slice A39 n39 c39) ([1] : List Int)] ⟨_, _, _, rfl⟩ (cv_refl _)
            refine steps_cons rfl ?_ ?_
            · intro val
              refine X_start (s := [(36, val 14), (37, val 15), (39, val 17), (0, .bool false), (1, .pointer (some ⟨B6, 0, none⟩)), (2, .pointer (some ⟨B12, 0, none⟩))]) (L := [pureC ((val 14) = .bool b22), pureC ((val 15) = .agg #[.slice A11 n11 c11, .slice none 0 0]), pureC (∃ (A35 : Option Addr) (n35 : Nat) (c35 : Nat), (val 17) = .slice A35 n35 c35), ownC rDValue 38 (val 17) ([y33] : List DValue)] ++ (pantomimelaw19_goes_C3 B12 A11 n11 c11 y8 y9 A10 n10 c10 A7 n7 c7 B6 A4 n4 c4 A5 n5 c5 y1 y2 A3 n3 c3)) (A := fun u => [pureC (∃ (A38 : Option Addr) (n38 : Nat) (c38 : Nat), u = .slice A38 n38 c38), ownC (rInt .i64) 3 u y36]) ?_ rfl rfl rfl
              generalize val 14 = u14
              generalize val 15 = u15
              generalize val 17 = u17
              refine X_pure 0 rfl ?_
              rintro rfl
              refine X_pure 1 rfl ?_
              rintro rfl
              refine X_pure 2 rfl ?_
              rintro ⟨A35, n35, c35, rfl⟩
              refine X_op (op_callR (reach_Live_ok hy36) call16 rfl (mem_cons (lent_own (i := 5) rfl) (mem_cons (lent_nil) (mem_cons (lent_own (i := 3) rfl) mem_nil))) reach_Live_free) (g_tt g32 rfl) ?_
              rintro _ _ ⟨_, ⟨A37, n37, c37, rfl, rfl⟩, rfl⟩
              exact cv_put [ownC (rInt .i64) 3 (.slice A37 n37 c37) y36] ⟨_, _, _, rfl⟩ (cv_refl _)
            refine steps_cons rfl ?_ ?_
            · intro val
              refine X_start (s := [(36, val 14), (38, val 16), (0, .bool false), (1, .pointer (some ⟨B6, 0, none⟩)), (2, .pointer (some ⟨B12, 0, none⟩))]) (L := [pureC ((val 14) = .bool b22), pureC ((val 16) = .agg #[.int .i64 y33.Kind, .int .i64 y33.N, .string y33.S])] ++ (pantomimelaw19_goes_C3 B12 A11 n11 c11 y8 y9 A10 n10 c10 A7 n7 c7 B6 A4 n4 c4 A5 n5 c5 y1 y2 A3 n3 c3)) (A := fun u => [pureC (∃ (A35 : Option Addr) (n35 : Nat) (c35 : Nat), u = .slice A35 n35 c35), ownC rDValue 38 u ([y33] : List DValue)]) ?_ rfl rfl rfl
              generalize val 14 = u14
              generalize val 16 = u16
              refine X_pure 0 rfl ?_
              rintro rfl
              refine X_pure 1 rfl ?_
              rintro rfl
              refine X_op (op_bslice (R := rDValue) (vss := [[.int .i64 y33.Kind, .int .i64 y33.N, .string y33.S]]) (xs := [y33]) rfl (bsl_25_1 _ _ _) rfl rfl (fun _ _ hr => .cons rfl All2.nil)) (g_tt g32 rfl) ?_
              rintro _ _ ⟨A34, n34, c34, rfl, rfl⟩
              exact cv_put [ownC rDValue 38 (.slice A34 n34 c34) ([y33] : List DValue)] ⟨_, _, _, rfl⟩ (cv_refl _)
            refine steps_cons rfl ?_ ?_
            · intro val
              refine X_start (s := [(36, val 14), (0, .bool false), (1, .pointer (some ⟨B6, 0, none⟩)), (2, .pointer (some ⟨B12, 0, none⟩))]) (L := [pureC ((val 14) = .bool b22)] ++ (pantomimelaw19_goes_C3 B12 A11 n11 c11 y8 y9 A10 n10 c10 A7 n7 c7 B6 A4 n4 c4 A5 n5 c5 y1 y2 A3 n3 c3)) (A := fun u => [pureC (u = .agg #[.int .i64 y33.Kind, .int .i64 y33.N, .string y33.S])]) ?_ rfl rfl rfl
              generalize val 14 = u14
              refine X_pure 0 rfl ?_
              rintro rfl
              refine X_op (op_callR (pantomimelaw19_object_ok hy33) call47 rfl (mem_nil) pantomimelaw19_object_free) (g_tt g32 rfl) ?_
              rintro _ _ ⟨_, ⟨rfl, rfl⟩, rfl⟩
              exact cv_put [] rfl (cv_refl _)
            refine steps_cons rfl ?_ ?_
            · intro val
              refine X_start (s := [(36, val 14), (0, .bool false), (1, .pointer (some ⟨B6, 0, none⟩)), (2, .pointer (some ⟨B12, 0, none⟩))]) (L := [pureC ((val 14) = .bool b22)] ++ (pantomimelaw19_goes_C3 B12 A11 n11 c11 y8 y9 A10 n10 c10 A7 n7 c7 B6 A4 n4 c4 A5 n5 c5 y1 y2 A3 n3 c3)) (A := fun u => [pureC (u = .agg #[.slice A11 n11 c11, .slice none 0 0])]) ?_ rfl rfl rfl
              generalize val 14 = u14
              refine X_pure 0 rfl ?_
              rintro rfl
              exact X_rd (rd_boxS (us := [.slice A11 n11 c11, .slice none 0 0]) 1 rfl rfl agg24 rfl) (g_tt g32 rfl) (cv_put [] rfl (cv_refl _))
            refine steps_cons rfl ?_ ?_
            · intro val
              refine X_start (s := [(35, val 13), (0, .bool false), (1, .pointer (some ⟨B6, 0, none⟩)), (2, .pointer (some ⟨B12, 0, none⟩))]) (L := [pureC ((val 13) = .bool b22)] ++ (pantomimelaw19_goes_C3 B12 A11 n11 c11 y8 y9 A10 n10 c10 A7 n7 c7 B6 A4 n4 c4 A5 n5 c5 y1 y2 A3 n3 c3)) (A := fun u => [pureC (u = .bool b22)]) ?_ rfl rfl rfl
              generalize val 13 = u13
              refine X_pure 0 rfl ?_
              rintro rfl
              exact X_ev (ev_move rfl) rfl (cv_put [] rfl (cv_refl _))
            refine steps_cons rfl ?_ ?_
            · intro val
              refine X_start (s := [(28, val 6), (34, val 12), (0, .bool false), (1, .pointer (some ⟨B6, 0, none⟩)), (2, .pointer (some ⟨B12, 0, none⟩))]) (L := [pureC ((val 6) = .bool y21), pureC ((val 12) = .bool y31)] ++ (pantomimelaw19_goes_C3 B12 A11 n11 c11 y8 y9 A10 n10 c10 A7 n7 c7 B6 A4 n4 c4 A5 n5 c5 y1 y2 A3 n3 c3)) (A := fun u => [pureC (u = .bool b22)]) ?_ rfl rfl rfl
              generalize val 6 = u6
              generalize val 12 = u12
              refine X_pure 0 rfl ?_
              rintro rfl
              refine X_pure 1 rfl ?_
              rintro rfl
              exact X_ev (ev_pick_t' g22 rfl rfl) rfl (cv_put [] (by rw [hb22]) (cv_refl _))
            refine steps_cons rfl ?_ ?_
            · intro val
              refine X_start (s := [(28, val 6), (32, val 10), (33, val 11), (0, .bool false), (1, .pointer (some ⟨B6, 0, none⟩)), (2, .pointer (some ⟨B12, 0, none⟩))]) (L := [pureC ((val 6) = .bool y21), pureC (∃ (A28 : Option Addr) (n28 : Nat) (c28 : Nat), (val 10) = .slice A28 n28 c28), ownC (rInt .i64) 3 (val 10) y26, pureC (∃ (A30 : Option Addr) (n30 : Nat) (c30 : Nat), (val 11) = .slice A30 n30 c30), ownC (rInt .i64) 3 (val 11) ([1, 2, 3] : List Int)] ++ (pantomimelaw19_goes_C3 B12 A11 n11 c11 y8 y9 A10 n10 c10 A7 n7 c7 B6 A4 n4 c4 A5 n5 c5 y1 y2 A3 n3 c3)) (A := fun u => [pureC (u = .bool y31)]) ?_ rfl rfl rfl
              generalize val 6 = u6
              generalize val 10 = u10
              generalize val 11 = u11
              refine X_pure 0 rfl ?_
              rintro rfl
              refine X_pure 1 rfl ?_
              rintro ⟨A28, n28, c28, rfl⟩
              refine X_pure 3 rfl ?_
              rintro ⟨A30, n30, c30, rfl⟩
              refine X_op (op_callR (pantomimeref19_Same_ok hy31) call25 rfl (mem_cons (lent_own (i := 2) rfl) (mem_cons (lent_own (i := 4) rfl) mem_nil)) pantomimeref19_Same_free) (g_tt g22 rfl) ?_
              rintro _ _ ⟨_, ⟨rfl, rfl⟩, rfl⟩
              exact cv_put [] rfl (cv_refl _)
            refine steps_cons rfl ?_ ?_
            · intro val
              refine X_start (s := [(28, val 6), (0, .bool false), (1, .pointer (some ⟨B6, 0, none⟩)), (2, .pointer (some ⟨B12, 0, none⟩))]) (L := [pureC ((val 6) = .bool y21)] ++ (pantomimelaw19_goes_C3 B12 A11 n11 c11 y8 y9 A10 n10 c10 A7 n7 c7 B6 A4 n4 c4 A5 n5 c5 y1 y2 A3 n3 c3)) (A := fun u => [pureC (∃ (A30 : Option Addr) (n30 : Nat) (c30 : Nat), u = .slice A30 n30 c30), ownC (rInt .i64) 3 u ([1, 2, 3] : List Int)]) ?_ rfl rfl rfl
              generalize val 6 = u6
              refine X_pure 0 rfl ?_
              rintro rfl
              refine X_op (op_bslice (R := (rInt .i64)) (vss := [[.int .i64 1], [.int .i64 2], [.int .i64 3]]) (xs := [1, 2, 3]) rfl (bsl_31_3 _ _ _) rfl rfl (fun _ _ hr => .cons rfl (.cons rfl (.cons rfl All2.nil)))) (g_tt g22 rfl) ?_
              rintro _ _ ⟨A29, n29, c29, rfl, rfl⟩
              exact cv_put [ownC (rInt .i64) 3 (.slice A29 n29 c29) ([1, 2, 3] : List Int)] ⟨_, _, _, rfl⟩ (cv_refl _)
            refine steps_cons rfl ?_ ?_
            · intro val
              refine X_start (s := [(28, val 6), (29, val 7), (31, val 9), (0, .bool false), (1, .pointer (some ⟨B6, 0, none⟩)), (2, .pointer (some ⟨B12, 0, none⟩))]) (L := [pureC ((val 6) = .bool y21), pureC ((val 7) = .agg #[.slice A4 n4 c4, .slice A5 n5 c5]), pureC (∃ (A25 : Option Addr) (n25 : Nat) (c25 : Nat), (val 9) = .slice A25 n25 c25), ownC rDValue 38 (val 9) ([y23] : List DValue)] ++ (pantomimelaw19_goes_C3 B12 A11 n11 c11 y8 y9 A10 n10 c10 A7 n7 c7 B6 A4 n4 c4 A5 n5 c5 y1 y2 A3 n3 c3)) (A := fun u => [pureC (∃ (A28 : Option Addr) (n28 : Nat) (c28 : Nat), u = .slice A28 n28 c28), ownC (rInt .i64) 3 u y26]) ?_ rfl rfl rfl
              generalize val 6 = u6
              generalize val 7 = u7
              generalize val 9 = u9
              refine X_pure 0 rfl ?_
              rintro rfl
              refine X_pure 1 rfl ?_
              rintro rfl
              refine X_pure 2 rfl ?_
              rintro ⟨A25, n25, c25, rfl⟩
              refine X_op (op_callR (reach_Live_ok hy26) call16 rfl (mem_cons (lent_own (i := 10) rfl) (mem_cons (lent_own (i := 9) rfl) (mem_cons (lent_own (i := 3) rfl) mem_nil))) reach_Live_free) (g_tt g22 rfl) ?_
              rintro _ _ ⟨_, ⟨A27, n27, c27, rfl, rfl⟩, rfl⟩
              exact cv_put [ownC (rInt .i64) 3 (.slice A27 n27 c27) y26] ⟨_, _, _, rfl⟩ (cv_refl _)
            refine steps_cons rfl ?_ ?_
            · intro val
              refine X_start (s := [(28, val 6), (30, val 8), (0, .bool false), (1, .pointer (some ⟨B6, 0, none⟩)), (2, .pointer (some ⟨B12, 0, none⟩))]) (L := [pureC ((val 6) = .bool y21), pureC ((val 8) = .agg #[.int .i64 y23.Kind, .int .i64 y23.N, .string y23.S])] ++ (pantomimelaw19_goes_C3 B12 A11 n11 c11 y8 y9 A10 n10 c10 A7 n7 c7 B6 A4 n4 c4 A5 n5 c5 y1 y2 A3 n3 c3)) (A := fun u => [pureC (∃ (A25 : Option Addr) (n25 : Nat) (c25 : Nat), u = .slice A25 n25 c25), ownC rDValue 38 u ([y23] : List DValue)]) ?_ rfl rfl rfl
              generalize val 6 = u6
              generalize val 8 = u8
              refine X_pure 0 rfl ?_
              rintro rfl
              refine X_pure 1 rfl ?_
              rintro rfl
              refine X_op (op_bslice (R := rDValue) (vss := [[.int .i64 y23.Kind, .int .i64 y23.N, .string y23.S]]) (xs := [y23]) rfl (bsl_25_1 _ _ _) rfl rfl (fun _ _ hr => .cons rfl All2.nil)) (g_tt g22 rfl) ?_
              rintro _ _ ⟨A24, n24, c24, rfl, rfl⟩
              exact cv_put [ownC rDValue 38 (.slice A24 n24 c24) ([y23] : List DValue)] ⟨_, _, _, rfl⟩ (cv_refl _)
            refine steps_cons rfl ?_ ?_
            · intro val
              refine X_start (s := [(28, val 6), (0, .bool false), (1, .pointer (some ⟨B6, 0, none⟩)), (2, .pointer (some ⟨B12, 0, none⟩))]) (L := [pureC ((val 6) = .bool y21)] ++ (pantomimelaw19_goes_C3 B12 A11 n11 c11 y8 y9 A10 n10 c10 A7 n7 c7 B6 A4 n4 c4 A5 n5 c5 y1 y2 A3 n3 c3)) (A := fun u => [pureC (u = .agg #[.int .i64 y23.Kind, .int .i64 y23.N, .string y23.S])]) ?_ rfl rfl rfl
              generalize val 6 = u6
              refine X_pure 0 rfl ?_
              rintro rfl
              refine X_op (op_callR (pantomimelaw19_object_ok hy23) call47 rfl (mem_nil) pantomimelaw19_object_free) (g_tt g22 rfl) ?_
              rintro _ _ ⟨_, ⟨rfl, rfl⟩, rfl⟩
              exact cv_put [] rfl (cv_refl _)
            refine steps_cons rfl ?_ ?_
            · intro val
              refine X_start (s := [(28, val 6), (0, .bool false), (1, .pointer (some ⟨B6, 0, none⟩)), (2, .pointer (some ⟨B12, 0, none⟩))]) (L := [pureC ((val 6) = .bool y21)] ++ (pantomimelaw19_goes_C3 B12 A11 n11 c11 y8 y9 A10 n10 c10 A7 n7 c7 B6 A4 n4 c4 A5 n5 c5 y1 y2 A3 n3 c3)) (A := fun u => [pureC (u = .agg #[.slice A4 n4 c4, .slice A5 n5 c5])]) ?_ rfl rfl rfl
              generalize val 6 = u6
              refine X_pure 0 rfl ?_
              rintro rfl
              exact X_rd (rd_boxS (us := [.slice A4 n4 c4, .slice A5 n5 c5]) 5 rfl rfl agg24 rfl) (g_tt g22 rfl) (cv_put [] rfl (cv_refl _))
            refine steps_cons rfl ?_ ?_
            · intro val
              refine X_start (s := [(27, val 5), (0, .bool false), (1, .pointer (some ⟨B6, 0, none⟩)), (2, .pointer (some ⟨B12, 0, none⟩))]) (L := [pureC ((val 5) = .bool y21)] ++ (pantomimelaw19_goes_C3 B12 A11 n11 c11 y8 y9 A10 n10 c10 A7 n7 c7 B6 A4 n4 c4 A5 n5 c5 y1 y2 A3 n3 c3)) (A := fun u => [pureC (u = .bool y21)]) ?_ rfl rfl rfl
              generalize val 5 = u5
              refine X_pure 0 rfl ?_
              rintro rfl
              exact X_ev (ev_move rfl) rfl (cv_put [] rfl (cv_refl _))
            refine steps_cons rfl ?_ ?_
            · intro val
              refine X_start (s := [(25, val 3), (26, val 4), (0, .bool false), (1, .pointer (some ⟨B6, 0, none⟩)), (2, .pointer (some ⟨B12, 0, none⟩))]) (L := [pureC (∃ (A18 : Option Addr) (n18 : Nat) (c18 : Nat), (val 3) = .slice A18 n18 c18), ownC (rInt .i64) 3 (val 3) y16, pureC (∃ (A20 : Option Addr) (n20 : Nat) (c20 : Nat), (val 4) = .slice A20 n20 c20), ownC (rInt .i64) 3 (val 4) ([1, 3, 2] : List Int)] ++ (pantomimelaw19_goes_C3 B12 A11 n11 c11 y8 y9 A10 n10 c10 A7 n7 c7 B6 A4 n4 c4 A5 n5 c5 y1 y2 A3 n3 c3)) (A := fun u => [pureC (u = .bool y21)]) ?_ rfl rfl rfl
              generalize val 3 = u3
              generalize val 4 = u4
              refine X_pure 0 rfl ?_
              rintro ⟨A18, n18, c18, rfl⟩
              refine X_pure 2 rfl ?_
              rintro ⟨A20, n20, c20, rfl⟩
              refine X_op (op_callR (pantomimeref19_Same_ok hy21) call25 rfl (mem_cons (lent_own (i := 1) rfl) (mem_cons (lent_own (i := 3) rfl) mem_nil)) pantomimeref19_Same_free) rfl ?_
              rintro _ _ ⟨_, ⟨rfl, rfl⟩, rfl⟩
              exact cv_put [] rfl (cv_refl _)
            refine steps_cons rfl ?_ ?_
            · intro val
              refine X_start (s := [(0, .bool false), (1, .pointer (some ⟨B6, 0, none⟩)), (2, .pointer (some ⟨B12, 0, none⟩))]) (L := [] ++ (pantomimelaw19_goes_C3 B12 A11 n11 c11 y8 y9 A10 n10 c10 A7 n7 c7 B6 A4 n4 c4 A5 n5 c5 y1 y2 A3 n3 c3)) (A := fun u => [pureC (∃ (A20 : Option Addr) (n20 : Nat) (c20 : Nat), u = .slice A20 n20 c20), ownC (rInt .i64) 3 u ([1, 3, 2] : List Int)]) ?_ rfl rfl rfl
              refine X_op (op_bslice (R := (rInt .i64)) (vss := [[.int .i64 1], [.int .i64 3], [.int .i64 2]]) (xs := [1, 3, 2]) rfl (bsl_31_3 _ _ _) rfl rfl (fun _ _ hr => .cons rfl (.cons rfl (.cons rfl All2.nil)))) rfl ?_
              rintro _ _ ⟨A19, n19, c19, rfl, rfl⟩
              exact cv_put [ownC (rInt .i64) 3 (.slice A19 n19 c19) ([1, 3, 2] : List Int)] ⟨_, _, _, rfl⟩ (cv_refl _)
            refine steps_cons rfl ?_ ?_
            · intro val
              refine X_start (s := [(22, val 0), (24, val 2), (0, .bool false), (1, .pointer (some ⟨B6, 0, none⟩)), (2, .pointer (some ⟨B12, 0, none⟩))]) (L := [pureC ((val 0) = .agg #[.slice A4 n4 c4, .slice A5 n5 c5]), pureC (∃ (A15 : Option Addr) (n15 : Nat) (c15 : Nat), (val 2) = .slice A15 n15 c15), ownC rDValue 38 (val 2) ([y13] : List DValue)] ++ (pantomimelaw19_goes_C3 B12 A11 n11 c11 y8 y9 A10 n10 c10 A7 n7 c7 B6 A4 n4 c4 A5 n5 c5 y1 y2 A3 n3 c3)) (A := fun u => [pureC (∃ (A18 : Option Addr) (n18 : Nat) (c18 : Nat), u = .slice A18 n18 c18), ownC (rInt .i64) 3 u y16]) ?_ rfl rfl rfl
              generalize val 0 = u0
              generalize val 2 = u2
              refine X_pure 0 rfl ?_
              rintro rfl
              refine X_pure 1 rfl ?_
              rintro ⟨A15, n15, c15, rfl⟩
              refine X_op (op_callR (reach_Order_ok hy16) call23 rfl (mem_cons (lent_own (i := 9) rfl) (mem_cons (lent_own (i := 8) rfl) (mem_cons (lent_own (i := 2) rfl) mem_nil))) reach_Order_free) rfl ?_
              rintro _ _ ⟨_, ⟨A17, n17, c17, rfl, rfl⟩, rfl⟩
              exact cv_put [ownC (rInt .i64) 3 (.slice A17 n17 c17) y16] ⟨_, _, _, rfl⟩ (cv_refl _)
            refine steps_cons rfl ?_ ?_
            · intro val
              refine X_start (s := [(23, val 1), (0, .bool false), (1, .pointer (some ⟨B6, 0, none⟩)), (2, .pointer (some ⟨B12, 0, none⟩))]) (L := [pureC ((val 1) = .agg #[.int .i64 y13.Kind, .int .i64 y13.N, .string y13.S])] ++ (pantomimelaw19_goes_C3 B12 A11 n11 c11 y8 y9 A10 n10 c10 A7 n7 c7 B6 A4 n4 c4 A5 n5 c5 y1 y2 A3 n3 c3)) (A := fun u => [pureC (∃ (A15 : Option Addr) (n15 : Nat) (c15 : Nat), u = .slice A15 n15 c15), ownC rDValue 38 u ([y13] : List DValue)]) ?_ rfl rfl rfl
              generalize val 1 = u1
              refine X_pure 0 rfl ?_
              rintro rfl
              refine X_op (op_bslice (R := rDValue) (vss := [[.int .i64 y13.Kind, .int .i64 y13.N, .string y13.S]]) (xs := [y13]) rfl (bsl_25_1 _ _ _) rfl rfl (fun _ _ hr => .cons rfl All2.nil)) rfl ?_
              rintro _ _ ⟨A14, n14, c14, rfl, rfl⟩
              exact cv_put [ownC rDValue 38 (.slice A14 n14 c14) ([y13] : List DValue)] ⟨_, _, _, rfl⟩ (cv_refl _)
            refine steps_cons rfl ?_ ?_
            · intro val
              refine X_start (s := [(0, .bool false), (1, .pointer (some ⟨B6, 0, none⟩)), (2, .pointer (some ⟨B12, 0, none⟩))]) (L := [] ++ (pantomimelaw19_goes_C3 B12 A11 n11 c11 y8 y9 A10 n10 c10 A7 n7 c7 B6 A4 n4 c4 A5 n5 c5 y1 y2 A3 n3 c3)) (A := fun u => [pureC (u = .agg #[.int .i64 y13.Kind, .int .i64 y13.N, .string y13.S])]) ?_ rfl rfl rfl
              refine X_op (op_callR (pantomimelaw19_object_ok hy13) call47 rfl (mem_nil) pantomimelaw19_object_free) rfl ?_
              rintro _ _ ⟨_, ⟨rfl, rfl⟩, rfl⟩
              exact cv_put [] rfl (cv_refl _)
            refine steps_cons rfl ?_ ?_
            · intro val
              refine X_start (s := [(0, .bool false), (1, .pointer (some ⟨B6, 0, none⟩)), (2, .pointer (some ⟨B12, 0, none⟩))]) (L := [] ++ (pantomimelaw19_goes_C3 B12 A11 n11 c11 y8 y9 A10 n10 c10 A7 n7 c7 B6 A4 n4 c4 A5 n5 c5 y1 y2 A3 n3 c3)) (A := fun u => [pureC (u = .agg #[.slice A4 n4 c4, .slice A5 n5 c5])]) ?_ rfl rfl rfl
              exact X_rd (rd_boxS (us := [.slice A4 n4 c4, .slice A5 n5 c5]) 4 rfl rfl agg24 rfl) rfl (cv_put [] rfl (cv_refl _))
            exact steps_nil
          · intro val
            show TkN _ _ _ _ _ [(22, val 0), (23, val 1), (24, val 2), (25, val 3), (26, val 4), (27, val 5), (28, val 6), (29, val 7), (30, val 8), (31, val 9), (32, val 10), (33, val 11), (34, val 12), (35, val 13), (36, val 14), (37, val 15), (38, val 16), (39, val 17), (40, val 18), (41, val 19), (42, val 20), (43, val 21), (44, val 22), (45, val 23), (46, val 24), (47, val 25), (48, val 26), (49, val 27), (50, val 28), (51, val 29), (52, val 30), (53, val 31), (54, val 32), (55, val 33), (56, val 34), (57, val 35), (58, val 36), (59, val 37), (60, val 38), (61, val 39), (0, .bool false), (1, .pointer (some ⟨B6, 0, none⟩)), (2, .pointer (some ⟨B12, 0, none⟩))] ([pureC ((val 0) = .agg #[.slice A4 n4 c4, .slice A5 n5 c5]), pureC ((val 1) = .agg #[.int .i64 y13.Kind, .int .i64 y13.N, .string y13.S]), pureC (∃ (A15 : Option Addr) (n15 : Nat) (c15 : Nat), (val 2) = .slice A15 n15 c15), ownC rDValue 38 (val 2) ([y13] : List DValue), pureC (∃ (A18 : Option Addr) (n18 : Nat) (c18 : Nat), (val 3) = .slice A18 n18 c18), ownC (rInt .i64) 3 (val 3) y16, pureC (∃ (A20 : Option Addr) (n20 : Nat) (c20 : Nat), (val 4) = .slice A20 n20 c20), ownC (rInt .i64) 3 (val 4) ([1, 3, 2] : List Int), pureC ((val 5) = .bool y21), pureC ((val 6) = .bool y21), pureC ((val 7) = .agg #[.slice A4 n4 c4, .slice A5 n5 c5]), pureC ((val 8) = .agg #[.int .i64 y23.Kind, .int .i64 y23.N, .string y23.S]), pureC (∃ (A25 : Option Addr) (n25 : Nat) (c25 : Nat), (val 9) = .slice A25 n25 c25), ownC rDValue 38 (val 9) ([y23] : List DValue), pureC (∃ (A28 : Option Addr) (n28 : Nat) (c28 : Nat), (val 10) = .slice A28 n28 c28), ownC (rInt .i64) 3 (val 10) y26, pureC (∃ (A30 : Option Addr) (n30 : Nat) (c30 : Nat), (val 11) = .slice A30 n30 c30), ownC (rInt .i64) 3 (val 11) ([1, 2, 3] : List Int), pureC ((val 12) = .bool y31), pureC ((val 13) = .bool b22), pureC ((val 14) = .bool b22), pureC ((val 15) = .agg #[.slice A11 n11 c11, .slice none 0 0]), pureC ((val 16) = .agg #[.int .i64 y33.Kind, .int .i64 y33.N, .string y33.S]), pureC (∃ (A35 : Option Addr) (n35 : Nat) (c35 : Nat), (val 17) = .slice A35 n35 c35), ownC rDValue 38 (val 17) ([y33] : List DValue), pureC (∃ (A38 : Option Addr) (n38 : Nat) (c38 : Nat), (val 18) = .slice A38 n38 c38), ownC (rInt .i64) 3 (val 18) y36, pureC (∃ (A40 : Option Addr) (n40 : Nat) (c40 : Nat), (val 19) = .slice A40 n40 c40), ownC (rInt .i64) 3 (val 19) ([1] : List Int), pureC ((val 20) = .bool y41), pureC ((val 21) = .bool b32), pureC ((val 22) = .bool b32), pureC ((val 23) = .agg #[.slice A11 n11 c11, .slice none 0 0]), pureC ((val 24) = .agg #[.int .i64 y43.Kind, .int .i64 y43.N, .string y43.S]), pureC ((val 25) = .agg #[.int .i64 y44.Kind, .int .i64 y44.N, .string y44.S]), pureC (∃ (A46 : Option Addr) (n46 : Nat) (c46 : Nat), (val 26) = .slice A46 n46 c46), ownC rDValue 38 (val 26) ([y43, y44] : List DValue), pureC (∃ (A49 : Option Addr) (n49 : Nat) (c49 : Nat), (val 27) = .slice A49 n49 c49), ownC (rInt .i64) 3 (val 27) y47, pureC (∃ (A51 : Option Addr) (n51 : Nat) (c51 : Nat), (val 28) = .slice A51 n51 c51), ownC (rInt .i64) 3 (val 28) ([1, 3, 5] : List Int), pureC ((val 29) = .bool y52), pureC ((val 30) = .bool b42), pureC ((val 31) = .bool b42), pureC ((val 32) = undef), pureC ((val 33) = undef), pureC ((val 34) = undef), pureC ((val 35) = undef), pureC ((val 36) = undef), pureC ((val 37) = undef), pureC ((val 38) = undef), pureC ((val 39) = .bool b53)] ++ (pantomimelaw19_goes_C3 B12 A11 n11 c11 y8 y9 A10 n10 c10 A7 n7 c7 B6 A4 n4 c4 A5 n5 c5 y1 y2 A3 n3 c3))
            generalize val 0 = u0
            generalize val 1 = u1
            generalize val 2 = u2
            generalize val 3 = u3
            generalize val 4 = u4
            generalize val 5 = u5
            generalize val 6 = u6
            generalize val 7 = u7
            generalize val 8 = u8
            generalize val 9 = u9
            generalize val 10 = u10
            generalize val 11 = u11
            generalize val 12 = u12
            generalize val 13 = u13
            generalize val 14 = u14
            generalize val 15 = u15
            generalize val 16 = u16
            generalize val 17 = u17
            generalize val 18 = u18
            generalize val 19 = u19
            generalize val 20 = u20
            generalize val 21 = u21
            generalize val 22 = u22
            generalize val 23 = u23
            generalize val 24 = u24
            generalize val 25 = u25
            generalize val 26 = u26
            generalize val 27 = u27
            generalize val 28 = u28
            generalize val 29 = u29
            generalize val 30 = u30
            generalize val 31 = u31
            generalize val 32 = u32
            generalize val 33 = u33
            generalize val 34 = u34
            generalize val 35 = u35
            generalize val 36 = u36
            generalize val 37 = u37
            generalize val 38 = u38
            generalize val 39 = u39
            refine N_pure 0 rfl ?_
            rintro rfl
            refine N_pure 1 rfl ?_
            rintro rfl
            refine N_pure 2 rfl ?_
            rintro ⟨A15, n15, c15, rfl⟩
            refine N_pure 4 rfl ?_
            rintro ⟨A18, n18, c18, rfl⟩
            refine N_pure 6 rfl ?_
            rintro ⟨A20, n20, c20, rfl⟩
            refine N_pure 8 rfl ?_
            rintro rfl
            refine N_pure 9 rfl ?_
            rintro rfl
            refine N_pure 10 rfl ?_
            rintro rfl
            refine N_pure 11 rfl ?_
            rintro rfl
            refine N_pure 12 rfl ?_
            rintro ⟨A25, n25, c25, rfl⟩
            refine N_pure 14 rfl ?_
            rintro ⟨A28, n28, c28, rfl⟩
            refine N_pure 16 rfl ?_
            rintro ⟨A30, n30, c30, rfl⟩
            refine N_pure 18 rfl ?_
            rintro rfl
            refine N_pure 19 rfl ?_
            rintro rfl
            refine N_pure 20 rfl ?_
            rintro rfl
            refine N_pure 21 rfl ?_
            rintro rfl
            refine N_pure 22 rfl ?_
            rintro rfl
            refine N_pure 23 rfl ?_
            rintro ⟨A35, n35, c35, rfl⟩
            refine N_pure 25 rfl ?_
            rintro ⟨A38, n38, c38, rfl⟩
            refine N_pure 27 rfl ?_
            rintro ⟨A40, n40, c40, rfl⟩
            refine N_pure 29 rfl ?_
            rintro rfl
            refine N_pure 30 rfl ?_
            rintro rfl
            refine N_pure 31 rfl ?_
            rintro rfl
            refine N_pure 32 rfl ?_
            rintro rfl
            refine N_pure 33 rfl ?_
            rintro rfl
            refine N_pure 34 rfl ?_
            rintro rfl
            refine N_pure 35 rfl ?_
            rintro ⟨A46, n46, c46, rfl⟩
            refine N_pure 37 rfl ?_
            rintro ⟨A49, n49, c49, rfl⟩
            refine N_pure 39 rfl ?_
            rintro ⟨A51, n51, c51, rfl⟩
            refine N_pure 41 rfl ?_
            rintro rfl
            refine N_pure 42 rfl ?_
            rintro rfl
            refine N_pure 43 rfl ?_
            rintro rfl
            refine N_pure 44 rfl ?_
            rintro rfl
            refine N_pure 45 rfl ?_
            rintro rfl
            refine N_pure 46 rfl ?_
            rintro rfl
            refine N_pure 47 rfl ?_
            rintro rfl
            refine N_pure 48 rfl ?_
            rintro rfl
            refine N_pure 49 rfl ?_
            rintro rfl
            refine N_pure 50 rfl ?_
            rintro rfl
            refine N_pure 51 rfl ?_
            rintro rfl
            refine N_sub (L' := [ownC rDValue 38 (.slice A15 n15 c15) ([y13] : List DValue), ownC (rInt .i64) 3 (.slice A18 n18 c18) y16, ownC (rInt .i64) 3 (.slice A20 n20 c20) ([1, 3, 2] : List Int), ownC rDValue 38 (.slice A25 n25 c25) ([y23] : List DValue), ownC (rInt .i64) 3 (.slice A28 n28 c28) y26, ownC (rInt .i64) 3 (.slice A30 n30 c30) ([1, 2, 3] : List Int), ownC rDValue 38 (.slice A35 n35 c35) ([y33] : List DValue), ownC (rInt .i64) 3 (.slice A38 n38 c38) y36, ownC (rInt .i64) 3 (.slice A40 n40 c40) ([1] : List Int), ownC rDValue 38 (.slice A46 n46 c46) ([y43, y44] : List DValue), ownC (rInt .i64) 3 (.slice A49 n49 c49) y47, ownC (rInt .i64) 3 (.slice A51 n51 c51) ([1, 3, 5] : List Int), boxC B12 24 [.slice A11 n11 c11, .slice none 0 0], ownC rDCell 42 (.slice A11 n11 c11) ([(⟨8, 0, 0, 0, ([(⟨1, 0, ⟨#[]⟩⟩ : DValue)] : List DValue), ([y8, y9] : List DValue)⟩ : DCell), (⟨11, 0, 0, 0, [], []⟩ : DCell), (⟨11, 0, 0, 0, [], []⟩ : DCell)] : List DCell), slC rDValue (.slice A10 n10 c10) ([y8, y9] : List DValue), slC rDValue (.slice A7 n7 c7) ([(⟨1, 0, ⟨#[]⟩⟩ : DValue)] : List DValue), boxC B6 24 [.slice A4 n4 c4, .slice A5 n5 c5], ownC rDCell 42 (.slice A5 n5 c5) ([(⟨11, 0, 0, 0, [], []⟩ : DCell)] : List DCell), ownC rDCell 42 (.slice A4 n4 c4) ([(⟨11, 0, 0, 0, [], ([y1, y2] : List DValue)⟩ : DCell), (⟨11, 0, 0, 0, [], []⟩ : DCell)] : List DCell), slC rDValue (.slice A3 n3 c3) ([y1, y2] : List DValue)]) ?_ sub_refl (cv_sel [3, 5, 7, 13, 15, 17, 24, 26, 28, 36, 38, 40, 52, 53, 54, 55, 56, 57, 58, 59] 60 rfl rfl)
            refine N_ev 40 rfl (by kernel_rfl) (ev_assign rfl) rfl rfl rfl ?_
            refine N_done (by kernel_rfl) ?_
            refine nx_n ?_
            refine G_ret ?_
            obtain rfl := Option.some.inj h
            exact endG1 rfl rfl (cv_sel [] 20 rfl rfl) ⟨rfl, rfl⟩
      · replace hb42 := cond_f g42 hb42
        replace hb42 : false = b42 := Option.some.inj hb42
        obtain ⟨b64, hb64, h⟩ := bind_elim h
        have g64 : b42 = false := by first | exact g53 | exact hb42.symm | simp_all
        replace hb64 := cond_f g64 hb64
        replace hb64 : false = b64 := Option.some.inj hb64
        refine G_sub (t := [(0, .bool false), (1, .pointer (some ⟨B6, 0, none⟩)), (2, .pointer (some ⟨B12, 0, none⟩))]) ?_ (sub_cons rfl (sub_cons rfl (sub_cons rfl sub_nil))) (cv_refl _)
        refine G_monoR (by kernel_rfl) 40 [] [22, 23, 24, 25, 26, 27, 28, 29, 30, 31, 32, 33, 34, 35, 36, 37, 38, 39, 40, 41, 42, 43, 44, 45, 46, 47, 48, 49, 50, 51, 52, 53, 54, 55, 56, 57, 58, 59, 60, 61] [[], [], [1], [0, 2], [], [3, 4], [5], [6], [6], [6, 8], [6, 7, 9], [6], [6, 10, 11], [6, 12], [13], [14], [14], [14, 16], [14, 15, 17], [14], [14, 18, 19], [14, 20], [21], [22], [22], [22], [22], [22], [22], [22], [22, 29], [30], [31], [31], [31], [31], [31], [31], [31], [31, 38]] [fun u => [pureC (u = .agg #[.slice A4 n4 c4, .slice A5 n5 c5])],
      fun u => [pureC (u = .agg #[.int .i64 y13.Kind, .int .i64 y13.N, .string y13.S])],
      fun u => [pureC (∃ (A15 : Option Addr) (n15 : Nat) (c15 : Nat), u = .slice A15 n15 c15), ownC rDValue 38 u ([y13] : List DValue)],
      fun u => [pureC (∃ (A18 : Option Addr) (n18 : Nat) (c18 : Nat), u = .slice A18 n18 c18), ownC (rInt .i64) 3 u y16],
      fun u => [pureC (∃ (A20 : Option Addr) (n20 : Nat) (c20 : Nat), u = .slice A20 n20 c20), ownC (rInt .i64) 3 u ([1, 3, 2] : List Int)],
      fun u => [pureC (u = .bool y21)],
      fun u => [pureC (u = .bool y21)],
      fun u => [pureC (u = .agg #[.slice A4 n4 c4, .slice A5 n5 c5])],
      fun u => [pureC (u = .agg #[.int .i64 y23.Kind, .int .i64 y23.N, .string y23.S])],
      fun u => [pureC (∃ (A25 : Option Addr) (n25 : Nat) (c25 : Nat), u = .slice A25 n25 c25), ownC rDValue 38 u ([y23] : List DValue)],
      fun u => [pureC (∃ (A28 : Option Addr) (n28 : Nat) (c28 : Nat), u = .slice A28 n28 c28), ownC (rInt .i64) 3 u y26],
      fun u => [pureC (∃ (A30 : Option Addr) (n30 : Nat) (c30 : Nat), u = .slice A30 n30 c30), ownC (rInt .i64) 3 u ([1, 2, 3] : List Int)],
      fun u => [pureC (u = .bool y31)],
      fun u => [pureC (u = .bool b22)],
      fun u => [pureC (u = .bool b22)],
      fun u => [pureC (u = .agg #[.slice A11 n11 c11, .slice none 0 0])],
      fun u => [pureC (u = .agg #[.int .i64 y33.Kind, .int .i64 y33.N, .string y33.S])],
      fun u => [pureC (∃ (A35 : Option Addr) (n35 : Nat) (c35 : Nat), u = .slice A35 n35 c35), ownC rDValue 38 u ([y33] : List DValue)],
      fun u => [pureC (∃ (A38 : Option Addr) (n38 : Nat) (c38 : Nat), u = .slice A38 n38 c38), ownC (rInt .i64) 3 u y36],
      fun u => [pureC (∃ (A40 : Option Addr) (n40 : Nat) (c40 : Nat), u = .slice A40 n40 c40), ownC (rInt .i64) 3 u ([1] : List Int)],
      fun u => [pureC (u = .bool y41)],
      fun u => [pureC (u = .bool b32)],
      fun u => [pureC (u = .bool b32)],
      fun u => [pureC (u = undef)],
      fun u => [pureC (u = undef)],
      fun u => [pureC (u = undef)],
      fun u => [pureC (u = undef)],
      fun u => [pureC (u = undef)],
      fun u => [pureC (u = undef)],
      fun u => [pureC (u = undef)],
      fun u => [pureC (u = .bool b42)],
      fun u => [pureC (u = .bool b42)],
      fun u => [pureC (u = undef)],
      fun u => [pureC (u = undef)],
      fun u => [pureC (u = undef)],
      fun u => [pureC (u = undef)],
      fun u => [pureC (u = undef)],
      fun u => [pureC (u = undef)],
      fun u => [pureC (u = undef)],
      fun u => [pureC (u = .bool b64)]] (by kernel_rfl) ?_ ?_ ?_
        · exact qs_nil
        · refine steps_cons rfl ?_ ?_
          · intro val
            refine X_start (s := [(53, val 31), (60, val 38), (0, .bool false), (1, .pointer (some ⟨B6, 0, none⟩)), (2, .pointer (some ⟨B12, 0, none⟩))]) (L := [pureC ((val 31) = .bool b42), pureC ((val 38) = undef)] ++ (pantomimelaw19_goes_C3 B12 A11 n11 c11 y8 y9 A10 n10 c10 A7 n7 c7 B6 A4 n4 c4 A5 n5 c5 y1 y2 A3 n3 c3)) (A := fun u => [pureC (u = .bool b64)]) ?_ rfl rfl rfl
            generalize val 31 = u31
            generalize val 38 = u38
            refine X_pure 0 rfl ?_
            rintro rfl
            refine X_pure 1 rfl ?_
            rintro rfl
            exact X_ev (ev_pick_f' g64 rfl rfl) rfl (cv_put [] (by rw [hb64]) (cv_refl _))
          refine steps_cons rfl ?_ ?_
          · intro val
            refine X_start (s := [(53, val 31), (0, .bool false), (1, .pointer (some ⟨B6, 0, none⟩)), (2, .pointer (some ⟨B12, 0, none⟩))]) (L := [pureC ((val 31) = .bool b42)] ++ (pantomimelaw19_goes_C3 B12 A11 n11 c11 y8 y9 A10 n10 c10 A7 n7 c7 B6 A4 n4 c4 A5 n5 c5 y1 y2 A3 n3 c3)) (A := fun u => [pureC (u = undef)]) ?_ rfl rfl rfl
            generalize val 31 = u31
            refine X_pure 0 rfl ?_
            rintro rfl
            exact X_no (g_tf g64 rfl) (cv_put [] rfl (cv_refl _))
          refine steps_cons rfl ?_ ?_
          · intro val
            refine X_start (s := [(53, val 31), (0, .bool false), (1, .pointer (some ⟨B6, 0, none⟩)), (2, .pointer (some ⟨B12, 0, none⟩))]) (L := [pureC ((val 31) = .bool b42)] ++ (pantomimelaw19_goes_C3 B12 A11 n11 c11 y8 y9 A10 n10 c10 A7 n7 c7 B6 A4 n4 c4 A5 n5 c5 y1 y2 A3 n3 c3)) (A := fun u => [pureC (u = undef)]) ?_ rfl rfl rfl
            generalize val 31 = u31
            refine X_pure 0 rfl ?_
            rintro rfl
            exact X_no (g_tf g64 rfl) (cv_put [] rfl (cv_refl _))
          refine steps_cons rfl ?_ ?_
          · intro val
            refine X_start (s := [(53, val 31), (0, .bool false), (1, .pointer (some ⟨B6, 0, none⟩)), (2, .pointer (some ⟨B12, 0, none⟩))]) (L := [pureC ((val 31) = .bool b42)] ++ (pantomimelaw19_goes_C3 B12 A11 n11 c11 y8 y9 A10 n10 c10 A7 n7 c7 B6 A4 n4 c4 A5 n5 c5 y1 y2 A3 n3 c3)) (A := fun u => [pureC (u = undef)]) ?_ rfl rfl rfl
            generalize val 31 = u31
            refine X_pure 0 rfl ?_
            rintro rfl
            exact X_no (g_tf g64 rfl) (cv_put [] rfl (cv_refl _))
          refine steps_cons rfl ?_ ?_
          · intro val
            refine X_start (s := [(53, val 31), (0, .bool false), (1, .pointer (some ⟨B6, 0, none⟩)), (2, .pointer (some ⟨B12, 0, none⟩))]) (L := [pureC ((val 31) = .bool b42)] ++ (pantomimelaw19_goes_C3 B12 A11 n11 c11 y8 y9 A10 n10 c10 A7 n7 c7 B6 A4 n4 c4 A5 n5 c5 y1 y2 A3 n3 c3)) (A := fun u => [pureC (u = undef)]) ?_ rfl rfl rfl
            generalize val 31 = u31
            refine X_pure 0 rfl ?_
            rintro rfl
            exact X_no (g_tf g64 rfl) (cv_put [] rfl (cv_refl _))
          refine steps_cons rfl ?_ ?_
          · intro val
            refine X_start (s := [(53, val 31), (0, .bool false), (1, .pointer (some ⟨B6, 0, none⟩)), (2, .pointer (some ⟨B12, 0, none⟩))]) (L := [pureC ((val 31) = .bool b42)] ++ (pantomimelaw19_goes_C3 B12 A11 n11 c11 y8 y9 A10 n10 c10 A7 n7 c7 B6 A4 n4 c4 A5 n5 c5 y1 y2 A3 n3 c3)) (A := fun u => [pureC (u = undef)]) ?_ rfl rfl rfl
            generalize val 31 = u31
            refine X_pure 0 rfl ?_
            rintro rfl
            exact X_no (g_tf g64 rfl) (cv_put [] rfl (cv_refl _))
          refine steps_cons rfl ?_ ?_
          · intro val
            refine X_start (s := [(53, val 31), (0, .bool false), (1, .pointer (some ⟨B6, 0, none⟩)), (2, .pointer (some ⟨B12, 0, none⟩))]) (L := [pureC ((val 31) = .bool b42)] ++ (pantomimelaw19_goes_C3 B12 A11 n11 c11 y8 y9 A10 n10 c10 A7 n7 c7 B6 A4 n4 c4 A5 n5 c5 y1 y2 A3 n3 c3)) (A := fun u => [pureC (u = undef)]) ?_ rfl rfl rfl
            generalize val 31 = u31
            refine X_pure 0 rfl ?_
            rintro rfl
            exact X_no (g_tf g64 rfl) (cv_put [] rfl (cv_refl _))
          refine steps_cons rfl ?_ ?_
          · intro val
            refine X_start (s := [(53, val 31), (0, .bool false), (1, .pointer (some ⟨B6, 0, none⟩)), (2, .pointer (some ⟨B12, 0, none⟩))]) (L := [pureC ((val 31) = .bool b42)] ++ (pantomimelaw19_goes_C3 B12 A11 n11 c11 y8 y9 A10 n10 c10 A7 n7 c7 B6 A4 n4 c4 A5 n5 c5 y1 y2 A3 n3 c3)) (A := fun u => [pureC (u = undef)]) ?_ rfl rfl rfl
            generalize val 31 = u31
            refine X_pure 0 rfl ?_
            rintro rfl
            exact X_no (g_tf g64 rfl) (cv_put [] rfl (cv_refl _))
          refine steps_cons rfl ?_ ?_
          · intro val
            refine X_start (s := [(52, val 30), (0, .bool false), (1, .pointer (some ⟨B6, 0, none⟩)), (2, .pointer (some ⟨B12, 0, none⟩))]) (L := [pureC ((val 30) = .bool b42)] ++ (pantomimelaw19_goes_C3 B12 A11 n11 c11 y8 y9 A10 n10 c10 A7 n7 c7 B6 A4 n4 c4 A5 n5 c5 y1 y2 A3 n3 c3)) (A := fun u => [pureC (u = .bool b42)]) ?_ rfl rfl rfl
            generalize val 30 = u30
            refine X_pure 0 rfl ?_
            rintro rfl
            exact X_ev (ev_move rfl) rfl (cv_put [] rfl (cv_refl _))
          refine steps_cons rfl ?_ ?_
          · intro val
            refine X_start (s := [(44, val 22), (51, val 29), (0, .bool false), (1, .pointer (some ⟨B6, 0, none⟩)), (2, .pointer (some ⟨B12, 0, none⟩))]) (L := [pureC ((val 22) = .bool b32), pureC ((val 29) = undef)] ++ (pantomimelaw19_goes_C3 B12 A11 n11 c11 y8 y9 A10 n10 c10 A7 n7 c7 B6 A4 n4 c4 A5 n5 c5 y1 y2 A3 n3 c3)) (A := fun u => [pureC (u = .bool b42)]) ?_ rfl rfl rfl
            generalize val 22 = u22
            generalize val 29 = u29
            refine X_pure 0 rfl ?_
            rintro rfl
            refine X_pure 1 rfl ?_
            rintro rfl
            exact X_ev (ev_pick_f' g42 rfl rfl) rfl (cv_put [] (by rw [hb42]) (cv_refl _))
          refine steps_cons rfl ?_ ?_
          · intro val
            refine X_start (s := [(44, val 22), (0, .bool false), (1, .pointer (some ⟨B6, 0, none⟩)), (2, .pointer (some ⟨B12, 0, none⟩))]) (L := [pureC ((val 22) = .bool b32)] ++ (pantomimelaw19_goes_C3 B12 A11 n11 c11 y8 y9 A10 n10 c10 A7 n7 c7 B6 A4 n4 c4 A5 n5 c5 y1 y2 A3 n3 c3)) (A := fun u => [pureC (u = undef)]) ?_ rfl rfl rfl
            generalize val 22 = u22
            refine X_pure 0 rfl ?_
            rintro rfl
            exact X_no (g_tf g42 rfl) (cv_put [] rfl (cv_refl _))
          refine steps_cons rfl ?_ ?_
          · intro val
            refine X_start (s := [(44, val 22), (0, .bool false), (1, .pointer (some ⟨B6, 0, none⟩)), (2, .pointer (some ⟨B12, 0, none⟩))]) (L := [pureC ((val 22) = .bool b32)] ++ (pantomimelaw19_goes_C3 B12 A11 n11 c11 y8 y9 A10 n10 c10 A7 n7 c7 B6 A4 n4 c4 A5 n5 c5 y1 y2 A3 n3 c3)) (A := fun u => [pureC (u = undef)]) ?_ rfl rfl rfl
            generalize val 22 = u22
            refine X_pure 0 rfl ?_
            rintro rfl
            exact X_no (g_tf g42 rfl) (cv_put [] rfl (cv_refl _))
          refine steps_cons rfl ?_ ?_
          · intro val
            refine X_start (s := [(44, val 22), (0, .bool false), (1, .pointer (some ⟨B6, 0, none⟩)), (2, .pointer (some ⟨B12, 0, none⟩))]) (L := [pureC ((val 22) = .bool b32)] ++ (pantomimelaw19_goes_C3 B12 A11 n11 c11 y8 y9 A10 n10 c10 A7 n7 c7 B6 A4 n4 c4 A5 n5 c5 y1 y2 A3 n3 c3)) (A := fun u => [pureC (u = undef)]) ?_ rfl rfl rfl
            generalize val 22 = u22
            refine X_pure 0 rfl ?_
            rintro rfl
            exact X_no (g_tf g42 rfl) (cv_put [] rfl (cv_refl _))
          refine steps_cons rfl ?_ ?_
          · intro val
            refine X_start (s := [(44, val 22), (0, .bool false), (1, .pointer (some ⟨B6, 0, none⟩)), (2, .pointer (some ⟨B12, 0, none⟩))]) (L := [pureC ((val 22) = .bool b32)] ++ (pantomimelaw19_goes_C3 B12 A11 n11 c11 y8 y9 A10 n10 c10 A7 n7 c7 B6 A4 n4 c4 A5 n5 c5 y1 y2 A3 n3 c3)) (A := fun u => [pureC (u = undef)]) ?_ rfl rfl rfl
            generalize val 22 = u22
            refine X_pure 0 rfl ?_
            rintro rfl
            exact X_no (g_tf g42 rfl) (cv_put [] rfl (cv_refl _))
          refine steps_cons rfl ?_ ?_
          · intro val
            refine X_start (s := [(44, val 22), (0, .bool false), (1, .pointer (some ⟨B6, 0, none⟩)), (2, .pointer (some ⟨B12, 0, none⟩))]) (L := [pureC ((val 22) = .bool b32)] ++ (pantomimelaw19_goes_C3 B12 A11 n11 c11 y8 y9 A10 n10 c10 A7 n7 c7 B6 A4 n4 c4 A5 n5 c5 y1 y2 A3 n3 c3)) (A := fun u => [pureC (u = undef)]) ?_ rfl rfl rfl
            generalize val 22 = u22
            refine X_pure 0 rfl ?_
            rintro rfl
            exact X_no (g_tf g42 rfl) (cv_put [] rfl (cv_refl _))
          refine steps_cons rfl ?_ ?_
          · intro val
            refine X_start (s := [(44, val 22), (0, .bool false), (1, .pointer (some ⟨B6, 0, none⟩)), (2, .pointer (some ⟨B12, 0, none⟩))]) (L := [pureC ((val 22) = .bool b32)] ++ (pantomimelaw19_goes_C3 B12 A11 n11 c11 y8 y9 A10 n10 c10 A7 n7 c7 B6 A4 n4 c4 A5 n5 c5 y1 y2 A3 n3 c3)) (A := fun u => [pureC (u = undef)]) ?_ rfl rfl rfl
            generalize val 22 = u22
            refine X_pure 0 rfl ?_
            rintro rfl
            exact X_no (g_tf g42 rfl) (cv_put [] rfl (cv_refl _))
          refine steps_cons rfl ?_ ?_
          · intro val
            refine X_start (s := [(44, val 22), (0, .bool false), (1, .pointer (some ⟨B6, 0, none⟩)), (2, .pointer (some ⟨B12, 0, none⟩))]) (L := [pureC ((val 22) = .bool b32)] ++ (pantomimelaw19_goes_C3 B12 A11 n11 c11 y8 y9 A10 n10 c10 A7 n7 c7 B6 A4 n4 c4 A5 n5 c5 y1 y2 A3 n3 c3)) (A := fun u => [pureC (u = undef)]) ?_ rfl rfl rfl
            generalize val 22 = u22
            refine X_pure 0 rfl ?_
            rintro rfl
            exact X_no (g_tf g42 rfl) (cv_put [] rfl (cv_refl _))
          refine steps_cons rfl ?_ ?_
          · intro val
            refine X_start (s := [(43, val 21), (0, .bool false), (1, .pointer (some ⟨B6, 0, none⟩)), (2, .pointer (some ⟨B12, 0, none⟩))]) (L := [pureC ((val 21) = .bool b32)] ++ (pantomimelaw19_goes_C3 B12 A11 n11 c11 y8 y9 A10 n10 c10 A7 n7 c7 B6 A4 n4 c4 A5 n5 c5 y1 y2 A3 n3 c3)) (A := fun u => [pureC (u = .bool b32)]) ?_ rfl rfl rfl
            generalize val 21 = u21
            refine X_pure 0 rfl ?_
            rintro rfl
            exact X_ev (ev_move rfl) rfl (cv_put [] rfl (cv_refl _))
          refine steps_cons rfl ?_ ?_
          · intro val
            refine X_start (s := [(36, val 14), (42, val 20), (0, .bool false), (1, .pointer (some ⟨B6, 0, none⟩)), (2, .pointer (some ⟨B12, 0, none⟩))]) (L := [pureC ((val 14) = .bool b22), pureC ((val 20) = .bool y41)] ++ (pantomimelaw19_goes_C3 B12 A11 n11 c11 y8 y9 A10 n10 c10 A7 n7 c7 B6 A4 n4 c4 A5 n5 c5 y1 y2 A3 n3 c3)) (A := fun u => [pureC (u = .bool b32)]) ?_ rfl rfl rfl
            generalize val 14 = u14
            generalize val 20 = u20
            refine X_pure 0 rfl ?_
            rintro rfl
            refine X_pure 1 rfl ?_
            rintro rfl
            exact X_ev (ev_pick_t' g32 rfl rfl) rfl (cv_put [] (by rw [hb32]) (cv_refl _))
          refine steps_cons rfl ?_ ?_
          · intro val
            refine X_start (s := [(36, val 14), (40, val 18), (41, val 19), (0, .bool false), (1, .pointer (some ⟨B6, 0, none⟩)), (2, .pointer (some ⟨B12, 0, none⟩))]) (L := [pureC ((val 14) = .bool b22), pureC (∃ (A38 : Option Addr) (n38 : Nat) (c38 : Nat), (val 18) = .slice A38 n38 c38), ownC (rInt .i64) 3 (val 18) y36, pureC (∃ (A40 : Option Addr) (n40 : Nat) (c40 : Nat), (val 19) = .slice A40 n40 c40), ownC (rInt .i64) 3 (val 19) ([1] : List Int)] ++ (pantomimelaw19_goes_C3 B12 A11 n11 c11 y8 y9 A10 n10 c10 A7 n7 c7 B6 A4 n4 c4 A5 n5 c5 y1 y2 A3 n3 c3)) (A := fun u => [pureC (u = .bool y41)]) ?_ rfl rfl rfl
            generalize val 14 = u14
            generalize val 18 = u18
            generalize val 19 = u19
            refine X_pure 0 rfl ?_
            rintro rfl
            refine X_pure 1 rfl ?_
            rintro ⟨A38, n38, c38, rfl⟩
            refine X_pure 3 rfl ?_
            rintro ⟨A40, n40, c40, rfl⟩
            refine X_op (op_callR (pantomimeref19_Same_ok hy41) call25 rfl (mem_cons (lent_own (i := 2) rfl) (mem_cons (lent_own (i := 4) rfl) mem_nil)) pantomimeref19_Same_free) (g_tt g32 rfl) ?_
            rintro _ _ ⟨_, ⟨rfl, rfl⟩, rfl⟩
            exact cv_put [] rfl (cv_refl _)
          refine steps_cons rfl ?_ ?_
          · intro val
            refine X_start (s := [(36, val 14), (0, .bool false), (1, .pointer (some ⟨B6, 0, none⟩)), (2, .pointer (some ⟨B12, 0, none⟩))]) (L := [pureC ((val 14) = .bool b22)] ++ (pantomimelaw19_goes_C3 B12 A11 n11 c11 y8 y9 A10 n10 c10 A7 n7 c7 B6 A4 n4 c4 A5 n5 c5 y1 y2 A3 n3 c3)) (A := fun u => [pureC (∃ (A40 : Option Addr) (n40 : Nat) (c40 : Nat), u = .slice A40 n40 c40), ownC (rInt .i64) 3 u ([1] : List Int)]) ?_ rfl rfl rfl
            generalize val 14 = u14
            refine X_pure 0 rfl ?_
            rintro rfl
            refine X_op (op_bslice (R := (rInt .i64)) (vss := [[.int .i64 1]]) (xs := [1]) rfl (bsl_31_1 _) rfl rfl (fun _ _ hr => .cons rfl All2.nil)) (g_tt g32 rfl) ?_
            rintro _ _ ⟨A39, n39, c39, rfl, rfl⟩
            exact cv_put [ownC (rInt .i64) 3 (.slice A39 n39 c39) ([1] : List Int)] ⟨_, _, _, rfl⟩ (cv_refl _)
          refine steps_cons rfl ?_ ?_
          · intro val
            refine X_start (s := [(36, val 14), (37, val 15), (39, val 17), (0, .bool false), (1, .pointer (some ⟨B6, 0, none⟩)), (2, .pointer (some ⟨B12, 0, none⟩))]) (L := [pureC ((val 14) = .bool b22), pureC ((val 15) = .agg #[.slice A11 n11 c11, .slice none 0 0]), pureC (∃ (A35 : Option Addr) (n35 : Nat) (c35 : Nat), (val 17) = .slice A35 n35 c35), ownC rDValue 38 (val 17) ([y33] : List DValue)] ++ (pantomimelaw19_goes_C3 B12 A11 n11 c11 y8 y9 A10 n10 c10 A7 n7 c7 B6 A4 n4 c4 A5 n5 c5 y1 y2 A3 n3 c3)) (A := fun u => [pureC (∃ (A38 : Option Addr) (n38 : Nat) (c38 : Nat), u = .slice A38 n38 c38), ownC (rInt .i64) 3 u y36]) ?_ rfl rfl rfl
            generalize val 14 = u14
            generalize val 15 = u15
            generalize val 17 = u17
            refine X_pure 0 rfl ?_
            rintro rfl
            refine X_pure 1 rfl ?_
            rintro rfl
            refine X_pure 2 rfl ?_
            rintro ⟨A35, n35, c35, rfl⟩
            refine X_op (op_callR (reach_Live_ok hy36) call16 rfl (mem_cons (lent_own (i := 5) rfl) (mem_cons (lent_nil) (mem_cons (lent_own (i := 3) rfl) mem_nil))) reach_Live_free) (g_tt g32 rfl) ?_
            rintro _ _ ⟨_, ⟨A37, n37, c37, rfl, rfl⟩, rfl⟩
            exact cv_put [ownC (rInt .i64) 3 (.slice A37 n37 c37) y36] ⟨_, _, _, rfl⟩ (cv_refl _)
          refine steps_cons rfl ?_ ?_
          · intro val
            refine X_start (s := [(36, val 14), (38, val 16), (0, .bool false), (1, .pointer (some ⟨B6, 0, none⟩)), (2, .pointer (some ⟨B12, 0, none⟩))]) (L := [pureC ((val 14) = .bool b22), pureC ((val 16) = .agg #[.int .i64 y33.Kind, .int .i64 y33.N, .string y33.S])] ++ (pantomimelaw19_goes_C3 B12 A11 n11 c11 y8 y9 A10 n10 c10 A7 n7 c7 B6 A4 n4 c4 A5 n5 c5 y1 y2 A3 n3 c3)) (A := fun u => [pureC (∃ (A35 : Option Addr) (n35 : Nat) (c35 : Nat), u = .slice A35 n35 c35), ownC rDValue 38 u ([y33] : List DValue)]) ?_ rfl rfl rfl
            generalize val 14 = u14
            generalize val 16 = u16
            refine X_pure 0 rfl ?_
            rintro rfl
            refine X_pure 1 rfl ?_
            rintro rfl
            refine X_op (op_bslice (R := rDValue) (vss := [[.int .i64 y33.Kind, .int .i64 y33.N, .string y33.S]]) (xs := [y33]) rfl (bsl_25_1 _ _ _) rfl rfl (fun _ _ hr => .cons rfl All2.nil)) (g_tt g32 rfl) ?_
            rintro _ _ ⟨A34, n34, c34, rfl, rfl⟩
            exact cv_put [ownC rDValue 38 (.slice A34 n34 c34) ([y33] : List DValue)] ⟨_, _, _, rfl⟩ (cv_refl _)
          refine steps_cons rfl ?_ ?_
          · intro val
            refine X_start (s := [(36, val 14), (0, .bool false), (1, .pointer (some ⟨B6, 0, none⟩)), (2, .pointer (some ⟨B12, 0, none⟩))]) (L := [pureC ((val 14) = .bool b22)] ++ (pantomimelaw19_goes_C3 B12 A11 n11 c11 y8 y9 A10 n10 c10 A7 n7 c7 B6 A4 n4 c4 A5 n5 c5 y1 y2 A3 n3 c3)) (A := fun u => [pureC (u = .agg #[.int .i64 y33.Kind, .int .i64 y33.N, .string y33.S])]) ?_ rfl rfl rfl
            generalize val 14 = u14
            refine X_pure 0 rfl ?_
            rintro rfl
            refine X_op (op_callR (pantomimelaw19_object_ok hy33) call47 rfl (mem_nil) pantomimelaw19_object_free) (g_tt g32 rfl) ?_
            rintro _ _ ⟨_, ⟨rfl, rfl⟩, rfl⟩
            exact cv_put [] rfl (cv_refl _)
          refine steps_cons rfl ?_ ?_
          · intro val
            refine X_start (s := [(36, val 14), (0, .bool false), (1, .pointer (some ⟨B6, 0, none⟩)), (2, .pointer (some ⟨B12, 0, none⟩))]) (L := [pureC ((val 14) = .bool b22)] ++ (pantomimelaw19_goes_C3 B12 A11 n11 c11 y8 y9 A10 n10 c10 A7 n7 c7 B6 A4 n4 c4 A5 n5 c5 y1 y2 A3 n3 c3)) (A := fun u => [pureC (u = .agg #[.slice A11 n11 c11, .slice none 0 0])]) ?_ rfl rfl rfl
            generalize val 14 = u14
            refine X_pure 0 rfl ?_
            rintro rfl
            exact X_rd (rd_boxS (us := [.slice A11 n11 c11, .slice none 0 0]) 1 rfl rfl agg24 rfl) (g_tt g32 rfl) (cv_put [] rfl (cv_refl _))
          refine steps_cons rfl ?_ ?_
          · intro val
            refine X_start (s := [(35, val 13), (0, .bool false), (1, .pointer (some ⟨B6, 0, none⟩)), (2, .pointer (some ⟨B12, 0, none⟩))]) (L := [pureC ((val 13) = .bool b22)] ++ (pantomimelaw19_goes_C3 B12 A11 n11 c11 y8 y9 A10 n10 c10 A7 n7 c7 B6 A4 n4 c4 A5 n5 c5 y1 y2 A3 n3 c3)) (A := fun u => [pureC (u = .bool b22)]) ?_ rfl rfl rfl
            generalize val 13 = u13
            refine X_pure 0 rfl ?_
            rintro rfl
            exact X_ev (ev_move rfl) rfl (cv_put [] rfl (cv_refl _))
          refine steps_cons rfl ?_ ?_
          · intro val
            refine X_start (s := [(28, val 6), (34, val 12), (0, .bool false), (1, .pointer (some ⟨B6, 0, none⟩)), (2, .pointer (some ⟨B12, 0, none⟩))]) (L := [pureC ((val 6) = .bool y21), pureC ((val 12) = .bool y31)] ++ (pantomimelaw19_goes_C3 B12 A11 n11 c11 y8 y9 A10 n10 c10 A7 n7 c7 B6 A4 n4 c4 A5 n5 c5 y1 y2 A3 n3 c3)) (A := fun u => [pureC (u = .bool b22)]) ?_ rfl rfl rfl
            generalize val 6 = u6
            generalize val 12 = u12
            refine X_pure 0 rfl ?_
            rintro rfl
            refine X_pure 1 rfl ?_
            rintro rfl
            exact X_ev (ev_pick_t' g22 rfl rfl) rfl (cv_put [] (by rw [hb22]) (cv_refl _))
          refine steps_cons rfl ?_ ?_
          · intro val
            refine X_start (s := [(28, val 6), (32, val 10), (33, val 11), (0, .bool false), (1, .pointer (some ⟨B6, 0, none⟩)), (2, .pointer (some ⟨B12, 0, none⟩))]) (L := [pureC ((val 6) = .bool y21), pureC (∃ (A28 : Option Addr) (n28 : Nat) (c28 : Nat), (val 10) = .slice A28 n28 c28), ownC (rInt .i64) 3 (val 10) y26, pureC (∃ (A30 : Option Addr) (n30 : Nat) (c30 : Nat), (val 11) = .slice A30 n30 c30), ownC (rInt .i64) 3 (val 11) ([1, 2, 3] : List Int)] ++ (pantomimelaw19_goes_C3 B12 A11 n11 c11 y8 y9 A10 n10 c10 A7 n7 c7 B6 A4 n4 c4 A5 n5 c5 y1 y2 A3 n3 c3)) (A := fun u => [pureC (u = .bool y31)]) ?_ rfl rfl rfl
            generalize val 6 = u6
            generalize val 10 = u10
            generalize val 11 = u11
            refine X_pure 0 rfl ?_
            rintro rfl
            refine X_pure 1 rfl ?_
            rintro ⟨A28, n28, c28, rfl⟩
            refine X_pure 3 rfl ?_
            rintro ⟨A30, n30, c30, rfl⟩
            refine X_op (op_callR (pantomimeref19_Same_ok hy31) call25 rfl (mem_cons (lent_own (i := 2) rfl) (mem_cons (lent_own (i := 4) rfl) mem_nil)) pantomimeref19_Same_free) (g_tt g22 rfl) ?_
            rintro _ _ ⟨_, ⟨rfl, rfl⟩, rfl⟩
            exact cv_put [] rfl (cv_refl _)
          refine steps_cons rfl ?_ ?_
          · intro val
            refine X_start (s := [(28, val 6), (0, .bool false), (1, .pointer (some ⟨B6, 0, none⟩)), (2, .pointer (some ⟨B12, 0, none⟩))]) (L := [pureC ((val 6) = .bool y21)] ++ (pantomimelaw19_goes_C3 B12 A11 n11 c11 y8 y9 A10 n10 c10 A7 n7 c7 B6 A4 n4 c4 A5 n5 c5 y1 y2 A3 n3 c3)) (A := fun u => [pureC (∃ (A30 : Option Addr) (n30 : Nat) (c30 : Nat), u = .slice A30 n30 c30), ownC (rInt .i64) 3 u ([1, 2, 3] : List Int)]) ?_ rfl rfl rfl
            generalize val 6 = u6
            refine X_pure 0 rfl ?_
            rintro rfl
            refine X_op (op_bslice (R := (rInt .i64)) (vss := [[.int .i64 1], [.int .i64 2], [.int .i64 3]]) (xs := [1, 2, 3]) rfl (bsl_31_3 _ _ _) rfl rfl (fun _ _ hr => .cons rfl (.cons rfl (.cons rfl All2.nil)))) (g_tt g22 rfl) ?_
            rintro _ _ ⟨A29, n29, c29, rfl, rfl⟩
            exact cv_put [ownC (rInt .i64) 3 (.slice A29 n29 c29) ([1, 2, 3] : List Int)] ⟨_, _, _, rfl⟩ (cv_refl _)
          refine steps_cons rfl ?_ ?_
          · intro val
            refine X_start (s := [(28, val 6), (29, val 7), (31, val 9), (0, .bool false), (1, .pointer (some ⟨B6, 0, none⟩)), (2, .pointer (some ⟨B12, 0, none⟩))]) (L := [pureC ((val 6) = .bool y21), pureC ((val 7) = .agg #[.slice A4 n4 c4, .slice A5 n5 c5]), pureC (∃ (A25 : Option Addr) (n25 : Nat) (c25 : Nat), (val 9) = .slice A25 n25 c25), ownC rDValue 38 (val 9) ([y23] : List DValue)] ++ (pantomimelaw19_goes_C3 B12 A11 n11 c11 y8 y9 A10 n10 c10 A7 n7 c7 B6 A4 n4 c4 A5 n5 c5 y1 y2 A3 n3 c3)) (A := fun u => [pureC (∃ (A28 : Option Addr) (n28 : Nat) (c28 : Nat), u = .slice A28 n28 c28), ownC (rInt .i64) 3 u y26]) ?_ rfl rfl rfl
            generalize val 6 = u6
            generalize val 7 = u7
            generalize val 9 = u9
            refine X_pure 0 rfl ?_
            rintro rfl
            refine X_pure 1 rfl ?_
            rintro rfl
            refine X_pure 2 rfl ?_
            rintro ⟨A25, n25, c25, rfl⟩
            refine X_op (op_callR (reach_Live_ok hy26) call16 rfl (mem_cons (lent_own (i := 10) rfl) (mem_cons (lent_own (i := 9) rfl) (mem_cons (lent_own (i := 3) rfl) mem_nil))) reach_Live_free) (g_tt g22 rfl) ?_
            rintro _ _ ⟨_, ⟨A27, n27, c27, rfl, rfl⟩, rfl⟩
            exact cv_put [ownC (rInt .i64) 3 (.slice A27 n27 c27) y26] ⟨_, _, _, rfl⟩ (cv_refl _)
          refine steps_cons rfl ?_ ?_
          · intro val
            refine X_start (s := [(28, val 6), (30, val 8), (0, .bool false), (1, .pointer (some ⟨B6, 0, none⟩)), (2, .pointer (some ⟨B12, 0, none⟩))]) (L := [pureC ((val 6) = .bool y21), pureC ((val 8) = .agg #[.int .i64 y23.Kind, .int .i64 y23.N, .string y23.S])] ++ (pantomimelaw19_goes_C3 B12 A11 n11 c11 y8 y9 A10 n10 c10 A7 n7 c7 B6 A4 n4 c4 A5 n5 c5 y1 y2 A3 n3 c3)) (A := fun u => [pureC (∃ (A25 : Option Addr) (n25 : Nat) (c25 : Nat), u = .slice A25 n25 c25), ownC rDValue 38 u ([y23] : List DValue)]) ?_ rfl rfl rfl
            generalize val 6 = u6
            generalize val 8 = u8
            refine X_pure 0 rfl ?_
            rintro rfl
            refine X_pure 1 rfl ?_
            rintro rfl
            refine X_op (op_bslice (R := rDValue) (vss := [[.int .i64 y23.Kind, .int .i64 y23.N, .string y23.S]]) (xs := [y23]) rfl (bsl_25_1 _ _ _) rfl rfl (fun _ _ hr => .cons rfl All2.nil)) (g_tt g22 rfl) ?_
            rintro _ _ ⟨A24, n24, c24, rfl, rfl⟩
            exact cv_put [ownC rDValue 38 (.slice A24 n24 c24) ([y23] : List DValue)] ⟨_, _, _, rfl⟩ (cv_refl _)
          refine steps_cons rfl ?_ ?_
          · intro val
            refine X_start (s := [(28, val 6), (0, .bool false), (1, .pointer (some ⟨B6, 0, none⟩)), (2, .pointer (some ⟨B12, 0, none⟩))]) (L := [pureC ((val 6) = .bool y21)] ++ (pantomimelaw19_goes_C3 B12 A11 n11 c11 y8 y9 A10 n10 c10 A7 n7 c7 B6 A4 n4 c4 A5 n5 c5 y1 y2 A3 n3 c3)) (A := fun u => [pureC (u = .agg #[.int .i64 y23.Kind, .int .i64 y23.N, .string y23.S])]) ?_ rfl rfl rfl
            generalize val 6 = u6
            refine X_pure 0 rfl ?_
            rintro rfl
            refine X_op (op_callR (pantomimelaw19_object_ok hy23) call47 rfl (mem_nil) pantomimelaw19_object_free) (g_tt g22 rfl) ?_
            rintro _ _ ⟨_, ⟨rfl, rfl⟩, rfl⟩
            exact cv_put [] rfl (cv_refl _)
          refine steps_cons rfl ?_ ?_
          · intro val
            refine X_start (s := [(28, val 6), (0, .bool false), (1, .pointer (some ⟨B6, 0, none⟩)), (2, .pointer (some ⟨B12, 0, none⟩))]) (L := [pureC ((val 6) = .bool y21)] ++ (pantomimelaw19_goes_C3 B12 A11 n11 c11 y8 y9 A10 n10 c10 A7 n7 c7 B6 A4 n4 c4 A5 n5 c5 y1 y2 A3 n3 c3)) (A := fun u => [pureC (u = .agg #[.slice A4 n4 c4, .slice A5 n5 c5])]) ?_ rfl rfl rfl
            generalize val 6 = u6
            refine X_pure 0 rfl ?_
            rintro rfl
            exact X_rd (rd_boxS (us := [.slice A4 n4 c4, .slice A5 n5 c5]) 5 rfl rfl agg24 rfl) (g_tt g22 rfl) (cv_put [] rfl (cv_refl _))
          refine steps_cons rfl ?_ ?_
          · intro val
            refine X_start (s := [(27, val 5), (0, .bool false), (1, .pointer (some ⟨B6, 0, none⟩)), (2, .pointer (some ⟨B12, 0, none⟩))]) (L := [pureC ((val 5) = .bool y21)] ++ (pantomimelaw19_goes_C3 B12 A11 n11 c11 y8 y9 A10 n10 c10 A7 n7 c7 B6 A4 n4 c4 A5 n5 c5 y1 y2 A3 n3 c3)) (A := fun u => [pureC (u = .bool y21)]) ?_ rfl rfl rfl
            generalize val 5 = u5
            refine X_pure 0 rfl ?_
            rintro rfl
            exact X_ev (ev_move rfl) rfl (cv_put [] rfl (cv_refl _))
          refine steps_cons rfl ?_ ?_
          · intro val
            refine X_start (s := [(25, val 3), (26, val 4), (0, .bool false), (1, .pointer (some ⟨B6, 0, none⟩)), (2, .pointer (some ⟨B12, 0, none⟩))]) (L := [pureC (∃ (A18 : Option Addr) (n18 : Nat) (c18 : Nat), (val 3) = .slice A18 n18 c18), ownC (rInt .i64) 3 (val 3) y16, pureC (∃ (A20 : Option Addr) (n20 : Nat) (c20 : Nat), (val 4) = .slice A20 n20 c20), ownC (rInt .i64) 3 (val 4) ([1, 3, 2] : List Int)] ++ (pantomimelaw19_goes_C3 B12 A11 n11 c11 y8 y9 A10 n10 c10 A7 n7 c7 B6 A4 n4 c4 A5 n5 c5 y1 y2 A3 n3 c3)) (A := fun u => [pureC (u = .bool y21)]) ?_ rfl rfl rfl
            generalize val 3 = u3
            generalize val 4 = u4
            refine X_pure 0 rfl ?_
            rintro ⟨A18, n18, c18, rfl⟩
            refine X_pure 2 rfl ?_
            rintro ⟨A20, n20, c20, rfl⟩
            refine X_op (op_callR (pantomimeref19_Same_ok hy21) call25 rfl (mem_cons (lent_own (i := 1) rfl) (mem_cons (lent_own (i := 3) rfl) mem_nil)) pantomimeref19_Same_free) rfl ?_
            rintro _ _ ⟨_, ⟨rfl, rfl⟩, rfl⟩
            exact cv_put [] rfl (cv_refl _)
          refine steps_cons rfl ?_ ?_
          · intro val
            refine X_start (s := [(0, .bool false), (1, .pointer (some ⟨B6, 0, none⟩)), (2, .pointer (some ⟨B12, 0, none⟩))]) (L := [] ++ (pantomimelaw19_goes_C3 B12 A11 n11 c11 y8 y9 A10 n10 c10 A7 n7 c7 B6 A4 n4 c4 A5 n5 c5 y1 y2 A3 n3 c3)) (A := fun u => [pureC (∃ (A20 : Option Addr) (n20 : Nat) (c20 : Nat), u = .slice A20 n20 c20), ownC (rInt .i64) 3 u ([1, 3, 2] : List Int)]) ?_ rfl rfl rfl
            refine X_op (op_bslice (R := (rInt .i64)) (vss := [[.int .i64 1], [.int .i64 3], [.int .i64 2]]) (xs := [1, 3, 2]) rfl (bsl_31_3 _ _ _) rfl rfl (fun _ _ hr => .cons rfl (.cons rfl (.cons rfl All2.nil)))) rfl ?_
            rintro _ _ ⟨A19, n19, c19, rfl, rfl⟩
            exact cv_put [ownC (rInt .i64) 3 (.slice A19 n19 c19) ([1, 3, 2] : List Int)] ⟨_, _, _, rfl⟩ (cv_refl _)
          refine steps_cons rfl ?_ ?_
          · intro val
            refine X_start (s := [(22, val 0), (24, val 2), (0, .bool false), (1, .pointer (some ⟨B6, 0, none⟩)), (2, .pointer (some ⟨B12, 0, none⟩))]) (L := [pureC ((val 0) = .agg #[.slice A4 n4 c4, .slice A5 n5 c5]), pureC (∃ (A15 : Option Addr) (n15 : Nat) (c15 : Nat), (val 2) = .slice A15 n15 c15), ownC rDValue 38 (val 2) ([y13] : List DValue)] ++ (pantomimelaw19_goes_C3 B12 A11 n11 c11 y8 y9 A10 n10 c10 A7 n7 c7 B6 A4 n4 c4 A5 n5 c5 y1 y2 A3 n3 c3)) (A := fun u => [pureC (∃ (A18 : Option Addr) (n18 : Nat) (c18 : Nat), u = .slice A18 n18 c18), ownC (rInt .i64) 3 u y16]) ?_ rfl rfl rfl
            generalize val 0 = u0
            generalize val 2 = u2
            refine X_pure 0 rfl ?_
            rintro rfl
            refine X_pure 1 rfl ?_
            rintro ⟨A15, n15, c15, rfl⟩
            refine X_op (op_callR (reach_Order_ok hy16) call23 rfl (mem_cons (lent_own (i := 9) rfl) (mem_cons (lent_own (i := 8) rfl) (mem_cons (lent_own (i := 2) rfl) mem_nil))) reach_Order_free) rfl ?_
            rintro _ _ ⟨_, ⟨A17, n17, c17, rfl, rfl⟩, rfl⟩
            exact cv_put [ownC (rInt .i64) 3 (.slice A17 n17 c17) y16] ⟨_, _, _, rfl⟩ (cv_refl _)
          refine steps_cons rfl ?_ ?_
          · intro val
            refine X_start (s := [(23, val 1), (0, .bool false), (1, .pointer (some ⟨B6, 0, none⟩)), (2, .pointer (some ⟨B12, 0, none⟩))]) (L := [pureC ((val 1) = .agg #[.int .i64 y13.Kind, .int .i64 y13.N, .string y13.S])] ++ (pantomimelaw19_goes_C3 B12 A11 n11 c11 y8 y9 A10 n10 c10 A7 n7 c7 B6 A4 n4 c4 A5 n5 c5 y1 y2 A3 n3 c3)) (A := fun u => [pureC (∃ (A15 : Option Addr) (n15 : Nat) (c15 : Nat), u = .slice A15 n15 c15), ownC rDValue 38 u ([y13] : List DValue)]) ?_ rfl rfl rfl
            generalize val 1 = u1
            refine X_pure 0 rfl ?_
            rintro rfl
            refine X_op (op_bslice (R := rDValue) (vss := [[.int .i64 y13.Kind, .int .i64 y13.N, .string y13.S]]) (xs := [y13]) rfl (bsl_25_1 _ _ _) rfl rfl (fun _ _ hr => .cons rfl All2.nil)) rfl ?_
            rintro _ _ ⟨A14, n14, c14, rfl, rfl⟩
            exact cv_put [ownC rDValue 38 (.slice A14 n14 c14) ([y13] : List DValue)] ⟨_, _, _, rfl⟩ (cv_refl _)
          refine steps_cons rfl ?_ ?_
          · intro val
            refine X_start (s := [(0, .bool false), (1, .pointer (some ⟨B6, 0, none⟩)), (2, .pointer (some ⟨B12, 0, none⟩))]) (L := [] ++ (pantomimelaw19_goes_C3 B12 A11 n11 c11 y8 y9 A10 n10 c10 A7 n7 c7 B6 A4 n4 c4 A5 n5 c5 y1 y2 A3 n3 c3)) (A := fun u => [pureC (u = .agg #[.int .i64 y13.Kind, .int .i64 y13.N, .string y13.S])]) ?_ rfl rfl rfl
            refine X_op (op_callR (pantomimelaw19_object_ok hy13) call47 rfl (mem_nil) pantomimelaw19_object_free) rfl ?_
            rintro _ _ ⟨_, ⟨rfl, rfl⟩, rfl⟩
            exact cv_put [] rfl (cv_refl _)
          refine steps_cons rfl ?_ ?_
          · intro val
            refine X_start (s := [(0, .bool false), (1, .pointer (some ⟨B6, 0, none⟩)), (2, .pointer (some ⟨B12, 0, none⟩))]) (L := [] ++ (pantomimelaw19_goes_C3 B12 A11 n11 c11 y8 y9 A10 n10 c10 A7 n7 c7 B6 A4 n4 c4 A5 n5 c5 y1 y2 A3 n3 c3)) (A := fun u => [pureC (u = .agg #[.slice A4 n4 c4, .slice A5 n5 c5])]) ?_ rfl rfl rfl
            exact X_rd (rd_boxS (us := [.slice A4 n4 c4, .slice A5 n5 c5]) 4 rfl rfl agg24 rfl) rfl (cv_put [] rfl (cv_refl _))
          exact steps_nil
        · intro val
          show TkN _ _ _ _ _ [(22, val 0), (23, val 1), (24, val 2), (25, val 3), (26, val 4), (27, val 5), (28, val 6), (29, val 7), (30, val 8), (31, val 9), (32, val 10), (33, val 11), (34, val 12), (35, val 13), (36, val 14), (37, val 15), (38, val 16), (39, val 17), (40, val 18), (41, val 19), (42, val 20), (43, val 21), (44, val 22), (45, val 23), (46, val 24), (47, val 25), (48, val 26), (49, val 27), (50, val 28), (51, val 29), (52, val 30), (53, val 31), (54, val 32), (55, val 33), (56, val 34), (57, val 35), (58, val 36), (59, val 37), (60, val 38), (61, val 39), (0, .bool false), (1, .pointer (some ⟨B6, 0, none⟩)), (2, .pointer (some ⟨B12, 0, none⟩))] ([pureC ((val 0) = .agg #[.slice A4 n4 c4, .slice A5 n5 c5]), pureC ((val 1) = .agg #[.int .i64 y13.Kind, .int .i64 y13.N, .string y13.S]), pureC (∃ (A15 : Option Addr) (n15 : Nat) (c15 : Nat), (val 2) = .slice A15 n15 c15), ownC rDValue 38 (val 2) ([y13] : List DValue), pureC (∃ (A18 : Option Addr) (n18 : Nat) (c18 : Nat), (val 3) = .slice A18 n18 c18), ownC (rInt .i64) 3 (val 3) y16, pureC (∃ (A20 : Option Addr) (n20 : Nat) (c20 : Nat), (val 4) = .slice A20 n20 c20), ownC (rInt .i64) 3 (val 4) ([1, 3, 2] : List Int), pureC ((val 5) = .bool y21), pureC ((val 6) = .bool y21), pureC ((val 7) = .agg #[.slice A4 n4 c4, .slice A5 n5 c5]), pureC ((val 8) = .agg #[.int .i64 y23.Kind, .int .i64 y23.N, .string y23.S]), pureC (∃ (A25 : Option Addr) (n25 : Nat) (c25 : Nat), (val 9) = .slice A25 n25 c25), ownC rDValue 38 (val 9) ([y23] : List DValue), pureC (∃ (A28 : Option Addr) (n28 : Nat) (c28 : Nat), (val 10) = .slice A28 n28 c28), ownC (rInt .i64) 3 (val 10) y26, pureC (∃ (A30 : Option Addr) (n30 : Nat) (c30 : Nat), (val 11) = .slice A30 n30 c30), ownC (rInt .i64) 3 (val 11) ([1, 2, 3] : List Int), pureC ((val 12) = .bool y31), pureC ((val 13) = .bool b22), pureC ((val 14) = .bool b22), pureC ((val 15) = .agg #[.slice A11 n11 c11, .slice none 0 0]), pureC ((val 16) = .agg #[.int .i64 y33.Kind, .int .i64 y33.N, .string y33.S]), pureC (∃ (A35 : Option Addr) (n35 : Nat) (c35 : Nat), (val 17) = .slice A35 n35 c35), ownC rDValue 38 (val 17) ([y33] : List DValue), pureC (∃ (A38 : Option Addr) (n38 : Nat) (c38 : Nat), (val 18) = .slice A38 n38 c38), ownC (rInt .i64) 3 (val 18) y36, pureC (∃ (A40 : Option Addr) (n40 : Nat) (c40 : Nat), (val 19) = .slice A40 n40 c40), ownC (rInt .i64) 3 (val 19) ([1] : List Int), pureC ((val 20) = .bool y41), pureC ((val 21) = .bool b32), pureC ((val 22) = .bool b32), pureC ((val 23) = undef), pureC ((val 24) = undef), pureC ((val 25) = undef), pureC ((val 26) = undef), pureC ((val 27) = undef), pureC ((val 28) = undef), pureC ((val 29) = undef), pureC ((val 30) = .bool b42), pureC ((val 31) = .bool b42), pureC ((val 32) = undef), pureC ((val 33) = undef), pureC ((val 34) = undef), pureC ((val 35) = undef), pureC ((val 36) = undef), pureC ((val 37) = undef), pureC ((val 38) = undef), pureC ((val 39) = .bool b64)] ++ (pantomimelaw19_goes_C3 B12 A11 n11 c11 y8 y9 A10 n10 c10 A7 n7 c7 B6 A4 n4 c4 A5 n5 c5 y1 y2 A3 n3 c3))
          generalize val 0 = u0
          generalize val 1 = u1
          generalize val 2 = u2
          generalize val 3 = u3
          generalize val 4 = u4
          generalize val 5 = u5
          generalize val 6 = u6
          generalize val 7 = u7
          generalize val 8 = u8
          generalize val 9 = u9
          generalize val 10 = u10
          generalize val 11 = u11
          generalize val 12 = u12
          generalize val 13 = u13
          generalize val 14 = u14
          generalize val 15 = u15
          generalize val 16 = u16
          generalize val 17 = u17
          generalize val 18 = u18
          generalize val 19 = u19
          generalize val 20 = u20
          generalize val 21 = u21
          generalize val 22 = u22
          generalize val 23 = u23
          generalize val 24 = u24
          generalize val 25 = u25
          generalize val 26 = u26
          generalize val 27 = u27
          generalize val 28 = u28
          generalize val 29 = u29
          generalize val 30 = u30
          generalize val 31 = u31
          generalize val 32 = u32
          generalize val 33 = u33
          generalize val 34 = u34
          generalize val 35 = u35
          generalize val 36 = u36
          generalize val 37 = u37
          generalize val 38 = u38
          generalize val 39 = u39
          refine N_pure 0 rfl ?_
          rintro rfl
          refine N_pure 1 rfl ?_
          rintro rfl
          refine N_pure 2 rfl ?_
          rintro ⟨A15, n15, c15, rfl⟩
          refine N_pure 4 rfl ?_
          rintro ⟨A18, n18, c18, rfl⟩
          refine N_pure 6 rfl ?_
          rintro ⟨A20, n20, c20, rfl⟩
          refine N_pure 8 rfl ?_
          rintro rfl
          refine N_pure 9 rfl ?_
          rintro rfl
          refine N_pure 10 rfl ?_
          rintro rfl
          refine N_pure 11 rfl ?_
          rintro rfl
          refine N_pure 12 rfl ?_
          rintro ⟨A25, n25, c25, rfl⟩
          refine N_pure 14 rfl ?_
          rintro ⟨A28, n28, c28, rfl⟩
          refine N_pure 16 rfl ?_
          rintro ⟨A30, n30, c30, rfl⟩
          refine N_pure 18 rfl ?_
          rintro rfl
          refine N_pure 19 rfl ?_
          rintro rfl
          refine N_pure 20 rfl ?_
          rintro rfl
          refine N_pure 21 rfl ?_
          rintro rfl
          refine N_pure 22 rfl ?_
          rintro rfl
          refine N_pure 23 rfl ?_
          rintro ⟨A35, n35, c35, rfl⟩
          refine N_pure 25 rfl ?_
          rintro ⟨A38, n38, c38, rfl⟩
          refine N_pure 27 rfl ?_
          rintro ⟨A40, n40, c40, rfl⟩
          refine N_pure 29 rfl ?_
          rintro rfl
          refine N_pure 30 rfl ?_
          rintro rfl
          refine N_pure 31 rfl ?_
          rintro rfl
          refine N_pure 32 rfl ?_
          rintro rfl
          refine N_pure 33 rfl ?_
          rintro rfl
          refine N_pure 34 rfl ?_
          rintro rfl
          refine N_pure 35 rfl ?_
          rintro rfl
          refine N_pure 36 rfl ?_
          rintro rfl
          refine N_pure 37 rfl ?_
          rintro rfl
          refine N_pure 38 rfl ?_
          rintro rfl
          refine N_pure 39 rfl ?_
          rintro rfl
          refine N_pure 40 rfl ?_
          rintro rfl
          refine N_pure 41 rfl ?_
          rintro rfl
          refine N_pure 42 rfl ?_
          rintro rfl
          refine N_pure 43 rfl ?_
          rintro rfl
          refine N_pure 44 rfl ?_
          rintro rfl
          refine N_pure 45 rfl ?_
          rintro rfl
          refine N_pure 46 rfl ?_
          rintro rfl
          refine N_pure 47 rfl ?_
          rintro rfl
          refine N_pure 48 rfl ?_
          rintro rfl
          refine N_sub (L' := [ownC rDValue 38 (.slice A15 n15 c15) ([y13] : List DValue), ownC (rInt .i64) 3 (.slice A18 n18 c18) y16, ownC (rInt .i64) 3 (.slice A20 n20 c20) ([1, 3, 2] : List Int), ownC rDValue 38 (.slice A25 n25 c25) ([y23] : List DValue), ownC (rInt .i64) 3 (.slice A28 n28 c28) y26, ownC (rInt .i64) 3 (.slice A30 n30 c30) ([1, 2, 3] : List Int), ownC rDValue 38 (.slice A35 n35 c35) ([y33] : List DValue), ownC (rInt .i64) 3 (.slice A38 n38 c38) y36, ownC (rInt .i64) 3 (.slice A40 n40 c40) ([1] : List Int), boxC B12 24 [.slice A11 n11 c11, .slice none 0 0], ownC rDCell 42 (.slice A11 n11 c11) ([(⟨8, 0, 0, 0, ([(⟨1, 0, ⟨#[]⟩⟩ : DValue)] : List DValue), ([y8, y9] : List DValue)⟩ : DCell), (⟨11, 0, 0, 0, [], []⟩ : DCell), (⟨11, 0, 0, 0, [], []⟩ : DCell)] : List DCell), slC rDValue (.slice A10 n10 c10) ([y8, y9] : List DValue), slC rDValue (.slice A7 n7 c7) ([(⟨1, 0, ⟨#[]⟩⟩ : DValue)] : List DValue), boxC B6 24 [.slice A4 n4 c4, .slice A5 n5 c5], ownC rDCell 42 (.slice A5 n5 c5) ([(⟨11, 0, 0, 0, [], []⟩ : DCell)] : List DCell), ownC rDCell 42 (.slice A4 n4 c4) ([(⟨11, 0, 0, 0, [], ([y1, y2] : List DValue)⟩ : DCell), (⟨11, 0, 0, 0, [], []⟩ : DCell)] : List DCell), slC rDValue (.slice A3 n3 c3) ([y1, y2] : List DValue)]) ?_ sub_refl (cv_sel [3, 5, 7, 13, 15, 17, 24, 26, 28, 49, 50, 51, 52, 53, 54, 55, 56] 57 rfl rfl)
          refine N_ev 40 rfl (by kernel_rfl) (ev_assign rfl) rfl rfl rfl ?_
          refine N_done (by kernel_rfl) ?_
          refine nx_n ?_
          refine G_ret ?_
          obtain rfl := Option.some.inj h
          exact endG1 rfl rfl (cv_sel [] 17 rfl rfl) ⟨rfl, rfl⟩
    · replace hb32 := cond_f g32 hb32
      replace hb32 : false = b32 := Option.some.inj hb32
      obtain ⟨b75, hb75, h⟩ := bind_elim h
      have g75 : b32 = false := by first | exact g42 | exact hb32.symm | simp_all
      replace hb75 := cond_f g75 hb75
      replace hb75 : false = b75 := Option.some.inj hb75
      obtain ⟨b76, hb76, h⟩ := bind_elim h
      have g76 : b75 = false := by first | exact hb75 | exact hb75.symm | simp_all
      replace hb76 := cond_f g76 hb76
      replace hb76 : false = b76 := Option.some.inj hb76
      refine G_sub (t := [(0, .bool false), (1, .pointer (some ⟨B6, 0, none⟩)), (2, .pointer (some ⟨B12, 0, none⟩))]) ?_ (sub_cons rfl (sub_cons rfl (sub_cons rfl sub_nil))) (cv_refl _)
      refine G_monoR (by kernel_rfl) 40 [] [22, 23, 24, 25, 26, 27, 28, 29, 30, 31, 32, 33, 34, 35, 36, 37, 38, 39, 40, 41, 42, 43, 44, 45, 46, 47, 48, 49, 50, 51, 52, 53, 54, 55, 56, 57, 58, 59, 60, 61] [[], [], [1], [0, 2], [], [3, 4], [5], [6], [6], [6, 8], [6, 7, 9], [6], [6, 10, 11], [6, 12], [13], [14], [14], [14], [14], [14], [14], [14, 20], [21], [22], [22], [22], [22], [22], [22], [22], [22, 29], [30], [31], [31], [31], [31], [31], [31], [31], [31, 38]] [fun u => [pureC (u = .agg #[.slice A4 n4 c4, .slice A5 n5 c5])],
      fun u => [pureC (u = .agg #[.int .i64 y13.Kind, .int .i64 y13.N, .string y13.S])],
      fun u => [pureC (∃ (A15 : Option Addr) (n15 : Nat) (c15 : Nat), u = .slice A15 n15 c15), ownC rDValue 38 u ([y13] : List DValue)],
      fun u => [pureC (∃ (A18 : Option Addr) (n18 : Nat) (c18 : Nat), u = .slice A18 n18 c18), ownC (rInt .i64) 3 u y16],
      fun u => [pureC (∃ (A20 : Option Addr) (n20 : Nat) (c20 : Nat), u = .slice A20 n20 c20), ownC (rInt .i64) 3 u ([1, 3, 2] : List Int)],
      fun u => [pureC (u = .bool y21)],
      fun u => [pureC (u = .bool y21)],
      fun u => [pureC (u = .agg #[.slice A4 n4 c4, .slice A5 n5 c5])],
      fun u => [pureC (u = .agg #[.int .i64 y23.Kind, .int .i64 y23.N, .string y23.S])],
      fun u => [pureC (∃ (A25 : Option Addr) (n25 : Nat) (c25 : Nat), u = .slice A25 n25 c25), ownC rDValue 38 u ([y23] : List DValue)],
      fun u => [pureC (∃ (A28 : Option Addr) (n28 : Nat) (c28 : Nat), u = .slice A28 n28 c28), ownC (rInt .i64) 3 u y26],
      fun u => [pureC (∃ (A30 : Option Addr) (n30 : Nat) (c30 : Nat), u = .slice A30 n30 c30), ownC (rInt .i64) 3 u ([1, 2, 3] : List Int)],
      fun u => [pureC (u = .bool y31)],
      fun u => [pureC (u = .bool b22)],
      fun u => [pureC (u = .bool b22)],
      fun u => [pureC (u = undef)],
      fun u => [pureC (u = undef)],
      fun u => [pureC (u = undef)],
      fun u => [pureC (u = undef)],
      fun u => [pureC (u = undef)],
      fun u => [pureC (u = undef)],
      fun u => [pureC (u = .bool b32)],
      fun u => [pureC (u = .bool b32)],
      fun u => [pureC (u = undef)],
      fun u => [pureC (u = undef)],
      fun u => [pureC (u = undef)],
      fun u => [pureC (u = undef)],
      fun u => [pureC (u = undef)],
      fun u => [pureC (u = undef)],
      fun u => [pureC (u = undef)],
      fun u => [pureC (u = .bool b75)],
      fun u => [pureC (u = .bool b75)],
      fun u => [pureC (u = undef)],
      fun u => [pureC (u = undef)],
      fun u => [pureC (u = undef)],
      fun u => [pureC (u = undef)],
      fun u => [pureC (u = undef)],
      fun u => [pureC (u = undef)],
      fun u => [pureC (u = undef)],
      fun u => [pureC (u = .bool b76)]] (by kernel_rfl) ?_ ?_ ?_
      · exact qs_nil
      · refine steps_cons rfl ?_ ?_
        · intro val
          refine X_start (s := [(53, val 31), (60, val 38), (0, .bool false), (1, .pointer (some ⟨B6, 0, none⟩)), (2, .pointer (some ⟨B12, 0, none⟩))]) (L := [pureC ((val 31) = .bool b75), pureC ((val 38) = undef)] ++ (pantomimelaw19_goes_C3 B12 A11 n11 c11 y8 y9 A10 n10 c10 A7 n7 c7 B6 A4 n4 c4 A5 n5 c5 y1 y2 A3 n3 c3)) (A := fun u => [pureC (u = .bool b76)]) ?_ rfl rfl rfl
          generalize val 31 = u31
          generalize val 38 = u38
          refine X_pure 0 rfl ?_
          rintro rfl
          refine X_pure 1 rfl ?_
          rintro rfl
          exact X_ev (ev_pick_f' g76 rfl rfl) rfl (cv_put [] (by rw [hb76]) (cv_refl _))
        refine steps_cons rfl ?_ ?_
        · intro val
          refine X_start (s := [(53, val 31), (0, .bool false), (1, .pointer (some ⟨B6, 0, none⟩)), (2, .pointer (some ⟨B12, 0, none⟩))]) (L := [pureC ((val 31) = .bool b75)] ++ (pantomimelaw19_goes_C3 B12 A11 n11 c11 y8 y9 A10 n10 c10 A7 n7 c7 B6 A4 n4 c4 A5 n5 c5 y1 y2 A3 n3 c3)) (A := fun u => [pureC (u = undef)]) ?_ rfl rfl rfl
          generalize val 31 = u31
          refine X_pure 0 rfl ?_
          rintro rfl
          exact X_no (g_tf g76 rfl) (cv_put [] rfl (cv_refl _))
        refine steps_cons rfl ?_ ?_
        · intro val
          refine X_start (s := [(53, val 31), (0, .bool false), (1, .pointer (some ⟨B6, 0, none⟩)), (2, .pointer (some ⟨B12, 0, none⟩))]) (L := [pureC ((val 31) = .bool b75)] ++ (pantomimelaw19_goes_C3 B12 A11 n11 c11 y8 y9 A10 n10 c10 A7 n7 c7 B6 A4 n4 c4 A5 n5 c5 y1 y2 A3 n3 c3)) (A := fun u => [pureC (u = undef)]) ?_ rfl rfl rfl
          generalize val 31 = u31
          refine X_pure 0 rfl ?_
          rintro rfl
          exact X_no (g_tf g76 rfl) (cv_put [] rfl (cv_refl _))
        refine steps_cons rfl ?_ ?_
        · intro val
          refine X_start (s := [(53, val 31), (0, .bool false), (1, .pointer (some ⟨B6, 0, none⟩)), (2, .pointer (some ⟨B12, 0, none⟩))]) (L := [pureC ((val 31) = .bool b75)] ++ (pantomimelaw19_goes_C3 B12 A11 n11 c11 y8 y9 A10 n10 c10 A7 n7 c7 B6 A4 n4 c4 A5 n5 c5 y1 y2 A3 n3 c3)) (A := fun u => [pureC (u = undef)]) ?_ rfl rfl rfl
          generalize val 31 = u31
          refine X_pure 0 rfl ?_
          rintro rfl
          exact X_no (g_tf g76 rfl) (cv_put [] rfl (cv_refl _))
        refine steps_cons rfl ?_ ?_
        · intro val
          refine X_start (s := [(53, val 31), (0, .bool false), (1, .pointer (some ⟨B6, 0, none⟩)), (2, .pointer (some ⟨B12, 0, none⟩))]) (L := [pureC ((val 31) = .bool b75)] ++ (pantomimelaw19_goes_C3 B12 A11 n11 c11 y8 y9 A10 n10 c10 A7 n7 c7 B6 A4 n4 c4 A5 n5 c5 y1 y2 A3 n3 c3)) (A := fun u => [pureC (u = undef)]) ?_ rfl rfl rfl
          generalize val 31 = u31
          refine X_pure 0 rfl ?_
          rintro rfl
          exact X_no (g_tf g76 rfl) (cv_put [] rfl (cv_refl _))
        refine steps_cons rfl ?_ ?_
        · intro val
          refine X_start (s := [(53, val 31), (0, .bool false), (1, .pointer (some ⟨B6, 0, none⟩)), (2, .pointer (some ⟨B12, 0, none⟩))]) (L := [pureC ((val 31) = .bool b75)] ++ (pantomimelaw19_goes_C3 B12 A11 n11 c11 y8 y9 A10 n10 c10 A7 n7 c7 B6 A4 n4 c4 A5 n5 c5 y1 y2 A3 n3 c3)) (A := fun u => [pureC (u = undef)]) ?_ rfl rfl rfl
          generalize val 31 = u31
          refine X_pure 0 rfl ?_
          rintro rfl
          exact X_no (g_tf g76 rfl) (cv_put [] rfl (cv_refl _))
        refine steps_cons rfl ?_ ?_
        · intro val
          refine X_start (s := [(53, val 31), (0, .bool false), (1, .pointer (some ⟨B6, 0, none⟩)), (2, .pointer (some ⟨B12, 0, none⟩))]) (L := [pureC ((val 31) = .bool b75)] ++ (pantomimelaw19_goes_C3 B12 A11 n11 c11 y8 y9 A10 n10 c10 A7 n7 c7 B6 A4 n4 c4 A5 n5 c5 y1 y2 A3 n3 c3)) (A := fun u => [pureC (u = undef)]) ?_ rfl rfl rfl
          generalize val 31 = u31
          refine X_pure 0 rfl ?_
          rintro rfl
          exact X_no (g_tf g76 rfl) (cv_put [] rfl (cv_refl _))
        refine steps_cons rfl ?_ ?_
        · intro val
          refine X_start (s := [(53, val 31), (0, .bool false), (1, .pointer (some ⟨B6, 0, none⟩)), (2, .pointer (some ⟨B12, 0, none⟩))]) (L := [pureC ((val 31) = .bool b75)] ++ (pantomimelaw19_goes_C3 B12 A11 n11 c11 y8 y9 A10 n10 c10 A7 n7 c7 B6 A4 n4 c4 A5 n5 c5 y1 y2 A3 n3 c3)) (A := fun u => [pureC (u = undef)]) ?_ rfl rfl rfl
          generalize val 31 = u31
          refine X_pure 0 rfl ?_
          rintro rfl
          exact X_no (g_tf g76 rfl) (cv_put [] rfl (cv_refl _))
        refine steps_cons rfl ?_ ?_
        · intro val
          refine X_start (s := [(52, val 30), (0, .bool false), (1, .pointer (some ⟨B6, 0, none⟩)), (2, .pointer (some ⟨B12, 0, none⟩))]) (L := [pureC ((val 30) = .bool b75)] ++ (pantomimelaw19_goes_C3 B12 A11 n11 c11 y8 y9 A10 n10 c10 A7 n7 c7 B6 A4 n4 c4 A5 n5 c5 y1 y2 A3 n3 c3)) (A := fun u => [pureC (u = .bool b75)]) ?_ rfl rfl rfl
          generalize val 30 = u30
          refine X_pure 0 rfl ?_
          rintro rfl
          exact X_ev (ev_move rfl) rfl (cv_put [] rfl (cv_refl _))
        refine steps_cons rfl ?_ ?_
        · intro val
          refine X_start (s := [(44, val 22), (51, val 29), (0, .bool false), (1, .pointer (some ⟨B6, 0, none⟩)), (2, .pointer (some ⟨B12, 0, none⟩))]) (L := [pureC ((val 22) = .bool b32), pureC ((val 29) = undef)] ++ (pantomimelaw19_goes_C3 B12 A11 n11 c11 y8 y9 A10 n10 c10 A7 n7 c7 B6 A4 n4 c4 A5 n5 c5 y1 y2 A3 n3 c3)) (A := fun u => [pureC (u = .bool b75)]) ?_ rfl rfl rfl
          generalize val 22 = u22
          generalize val 29 = u29
          refine X_pure 0 rfl ?_
          rintro rfl
          refine X_pure 1 rfl ?_
          rintro rfl
          exact X_ev (ev_pick_f' g75 rfl rfl) rfl (cv_put [] (by rw [hb75]) (cv_refl _))
        refine steps_cons rfl ?_ ?_
        · intro val
          refine X_start (s := [(44, val 22), (0, .bool false), (1, .pointer (some ⟨B6, 0, none⟩)), (2, .pointer (some ⟨B12, 0, none⟩))]) (L := [pureC ((val 22) = .bool b32)] ++ (pantomimelaw19_goes_C3 B12 A11 n11 c11 y8 y9 A10 n10 c10 A7 n7 c7 B6 A4 n4 c4 A5 n5 c5 y1 y2 A3 n3 c3)) (A := fun u => [pureC (u = undef)]) ?_ rfl rfl rfl
          generalize val 22 = u22
          refine X_pure 0 rfl ?_
          rintro rfl
          exact X_no (g_tf g75 rfl) (cv_put [] rfl (cv_refl _))
        refine steps_cons rfl ?_ ?_
        · intro val
          refine X_start (s := [(44, val 22), (0, .bool false), (1, .pointer (some ⟨B6, 0, none⟩)), (2, .pointer (some ⟨B12, 0, none⟩))]) (L := [pureC ((val 22) = .bool b32)] ++ (pantomimelaw19_goes_C3 B12 A11 n11 c11 y8 y9 A10 n10 c10 A7 n7 c7 B6 A4 n4 c4 A5 n5 c5 y1 y2 A3 n3 c3)) (A := fun u => [pureC (u = undef)]) ?_ rfl rfl rfl
          generalize val 22 = u22
          refine X_pure 0 rfl ?_
          rintro rfl
          exact X_no (g_tf g75 rfl) (cv_put [] rfl (cv_refl _))
        refine steps_cons rfl ?_ ?_
        · intro val
          refine X_start (s := [(44, val 22), (0, .bool false), (1, .pointer (some ⟨B6, 0, none⟩)), (2, .pointer (some ⟨B12, 0, none⟩))]) (L := [pureC ((val 22) = .bool b32)] ++ (pantomimelaw19_goes_C3 B12 A11 n11 c11 y8 y9 A10 n10 c10 A7 n7 c7 B6 A4 n4 c4 A5 n5 c5 y1 y2 A3 n3 c3)) (A := fun u => [pureC (u = undef)]) ?_ rfl rfl rfl
          generalize val 22 = u22
          refine X_pure 0 rfl ?_
          rintro rfl
          exact X_no (g_tf g75 rfl) (cv_put [] rfl (cv_refl _))
        refine steps_cons rfl ?_ ?_
        · intro val
          refine X_start (s := [(44, val 22), (0, .bool false), (1, .pointer (some ⟨B6, 0, none⟩)), (2, .pointer (some ⟨B12, 0, none⟩))]) (L := [pureC ((val 22) = .bool b32)] ++ (pantomimelaw19_goes_C3 B12 A11 n11 c11 y8 y9 A10 n10 c10 A7 n7 c7 B6 A4 n4 c4 A5 n5 c5 y1 y2 A3 n3 c3)) (A := fun u => [pureC (u = undef)]) ?_ rfl rfl rfl
          generalize val 22 = u22
          refine X_pure 0 rfl ?_
          rintro rfl
          exact X_no (g_tf g75 rfl) (cv_put [] rfl (cv_refl _))
        refine steps_cons rfl ?_ ?_
        · intro val
          refine X_start (s := [(44, val 22), (0, .bool false), (1, .pointer (some ⟨B6, 0, none⟩)), (2, .pointer (some ⟨B12, 0, none⟩))]) (L := [pureC ((val 22) = .bool b32)] ++ (pantomimelaw19_goes_C3 B12 A11 n11 c11 y8 y9 A10 n10 c10 A7 n7 c7 B6 A4 n4 c4 A5 n5 c5 y1 y2 A3 n3 c3)) (A := fun u => [pureC (u = undef)]) ?_ rfl rfl rfl
          generalize val 22 = u22
          refine X_pure 0 rfl ?_
          rintro rfl
          exact X_no (g_tf g75 rfl) (cv_put [] rfl (cv_refl _))
        refine steps_cons rfl ?_ ?_
        · intro val
          refine X_start (s := [(44, val 22), (0, .bool false), (1, .pointer (some ⟨B6, 0, none⟩)), (2, .pointer (some ⟨B12, 0, none⟩))]) (L := [pureC ((val 22) = .bool b32)] ++ (pantomimelaw19_goes_C3 B12 A11 n11 c11 y8 y9 A10 n10 c10 A7 n7 c7 B6 A4 n4 c4 A5 n5 c5 y1 y2 A3 n3 c3)) (A := fun u => [pureC (u = undef)]) ?_ rfl rfl rfl
          generalize val 22 = u22
          refine X_pure 0 rfl ?_
          rintro rfl
          exact X_no (g_tf g75 rfl) (cv_put [] rfl (cv_refl _))
        refine steps_cons rfl ?_ ?_
        · intro val
          refine X_start (s := [(44, val 22), (0, .bool false), (1, .pointer (some ⟨B6, 0, none⟩)), (2, .pointer (some ⟨B12, 0, none⟩))]) (L := [pureC ((val 22) = .bool b32)] ++ (pantomimelaw19_goes_C3 B12 A11 n11 c11 y8 y9 A10 n10 c10 A7 n7 c7 B6 A4 n4 c4 A5 n5 c5 y1 y2 A3 n3 c3)) (A := fun u => [pureC (u = undef)]) ?_ rfl rfl rfl
          generalize val 22 = u22
          refine X_pure 0 rfl ?_
          rintro rfl
          exact X_no (g_tf g75 rfl) (cv_put [] rfl (cv_refl _))
        refine steps_cons rfl ?_ ?_
        · intro val
          refine X_start (s := [(43, val 21), (0, .bool false), (1, .pointer (some ⟨B6, 0, none⟩)), (2, .pointer (some ⟨B12, 0, none⟩))]) (L := [pureC ((val 21) = .bool b32)] ++ (pantomimelaw19_goes_C3 B12 A11 n11 c11 y8 y9 A10 n10 c10 A7 n7 c7 B6 A4 n4 c4 A5 n5 c5 y1 y2 A3 n3 c3)) (A := fun u => [pureC (u = .bool b32)]) ?_ rfl rfl rfl
          generalize val 21 = u21
          refine X_pure 0 rfl ?_
          rintro rfl
          exact X_ev (ev_move rfl) rfl (cv_put [] rfl (cv_refl _))
        refine steps_cons rfl ?_ ?_
        · intro val
          refine X_start (s := [(36, val 14), (42, val 20), (0, .bool false), (1, .pointer (some ⟨B6, 0, none⟩)), (2, .pointer (some ⟨B12, 0, none⟩))]) (L := [pureC ((val 14) = .bool b22), pureC ((val 20) = undef)] ++ (pantomimelaw19_goes_C3 B12 A11 n11 c11 y8 y9 A10 n10 c10 A7 n7 c7 B6 A4 n4 c4 A5 n5 c5 y1 y2 A3 n3 c3)) (A := fun u => [pureC (u = .bool b32)]) ?_ rfl rfl rfl
          generalize val 14 = u14
          generalize val 20 = u20
          refine X_pure 0 rfl ?_
          rintro rfl
          refine X_pure 1 rfl ?_
          rintro rfl
          exact X_ev (ev_pick_f' g32 rfl rfl) rfl (cv_put [] (by rw [hb32]) (cv_refl _))
        refine steps_cons rfl ?_ ?_
        · intro val
          refine X_start (s := [(36, val 14), (0, .bool false), (1, .pointer (some ⟨B6, 0, none⟩)), (2, .pointer (some ⟨B12, 0, none⟩))]) (L := [pureC ((val 14) = .bool b22)] ++ (pantomimelaw19_goes_C3 B12 A11 n11 c11 y8 y9 A10 n10 c10 A7 n7 c7 B6 A4 n4 c4 A5 n5 c5 y1 y2 A3 n3 c3)) (A := fun u => [pureC (u = undef)]) ?_ rfl rfl rfl
          generalize val 14 = u14
          refine X_pure 0 rfl ?_
          rintro rfl
          exact X_no (g_tf g32 rfl) (cv_put [] rfl (cv_refl _))
        refine steps_cons rfl ?_ ?_
        · intro val
          refine X_start (s := [(36, val 14), (0, .bool false), (1, .pointer (some ⟨B6, 0, none⟩)), (2, .pointer (some ⟨B12, 0, none⟩))]) (L := [pureC ((val 14) = .bool b22)] ++ (pantomimelaw19_goes_C3 B12 A11 n11 c11 y8 y9 A10 n10 c10 A7 n7 c7 B6 A4 n4 c4 A5 n5 c5 y1 y2 A3 n3 c3)) (A := fun u => [pureC (u = undef)]) ?_ rfl rfl rfl
          generalize val 14 = u14
          refine X_pure 0 rfl ?_
          rintro rfl
          exact X_no (g_tf g32 rfl) (cv_put [] rfl (cv_refl _))
        refine steps_cons rfl ?_ ?_
        · intro val
          refine X_start (s := [(36, val 14), (0, .bool false), (1, .pointer (some ⟨B6, 0, none⟩)), (2, .pointer (some ⟨B12, 0, none⟩))]) (L := [pureC ((val 14) = .bool b22)] ++ (pantomimelaw19_goes_C3 B12 A11 n11 c11 y8 y9 A10 n10 c10 A7 n7 c7 B6 A4 n4 c4 A5 n5 c5 y1 y2 A3 n3 c3)) (A := fun u => [pureC (u = undef)]) ?_ rfl rfl rfl
          generalize val 14 = u14
          refine X_pure 0 rfl ?_
          rintro rfl
          exact X_no (g_tf g32 rfl) (cv_put [] rfl (cv_refl _))
        refine steps_cons rfl ?_ ?_
        · intro val
          refine X_start (s := [(36, val 14), (0, .bool false), (1, .pointer (some ⟨B6, 0, none⟩)), (2, .pointer (some ⟨B12, 0, none⟩))]) (L := [pureC ((val 14) = .bool b22)] ++ (pantomimelaw19_goes_C3 B12 A11 n11 c11 y8 y9 A10 n10 c10 A7 n7 c7 B6 A4 n4 c4 A5 n5 c5 y1 y2 A3 n3 c3)) (A := fun u => [pureC (u = undef)]) ?_ rfl rfl rfl
          generalize val 14 = u14
          refine X_pure 0 rfl ?_
          rintro rfl
          exact X_no (g_tf g32 rfl) (cv_put [] rfl (cv_refl _))
        refine steps_cons rfl ?_ ?_
        · intro val
          refine X_start (s := [(36, val 14), (0, .bool false), (1, .pointer (some ⟨B6, 0, none⟩)), (2, .pointer (some ⟨B12, 0, none⟩))]) (L := [pureC ((val 14) = .bool b22)] ++ (pantomimelaw19_goes_C3 B12 A11 n11 c11 y8 y9 A10 n10 c10 A7 n7 c7 B6 A4 n4 c4 A5 n5 c5 y1 y2 A3 n3 c3)) (A := fun u => [pureC (u = undef)]) ?_ rfl rfl rfl
          generalize val 14 = u14
          refine X_pure 0 rfl ?_
          rintro rfl
          exact X_no (g_tf g32 rfl) (cv_put [] rfl (cv_refl _))
        refine steps_cons rfl ?_ ?_
        · intro val
          refine X_start (s := [(36, val 14), (0, .bool false), (1, .pointer (some ⟨B6, 0, none⟩)), (2, .pointer (some ⟨B12, 0, none⟩))]) (L := [pureC ((val 14) = .bool b22)] ++ (pantomimelaw19_goes_C3 B12 A11 n11 c11 y8 y9 A10 n10 c10 A7 n7 c7 B6 A4 n4 c4 A5 n5 c5 y1 y2 A3 n3 c3)) (A := fun u => [pureC (u = undef)]) ?_ rfl rfl rfl
          generalize val 14 = u14
          refine X_pure 0 rfl ?_
          rintro rfl
          exact X_no (g_tf g32 rfl) (cv_put [] rfl (cv_refl _))
        refine steps_cons rfl ?_ ?_
        · intro val
          refine X_start (s := [(35, val 13), (0, .bool false), (1, .pointer (some ⟨B6, 0, none⟩)), (2, .pointer (some ⟨B12, 0, none⟩))]) (L := [pureC ((val 13) = .bool b22)] ++ (pantomimelaw19_goes_C3 B12 A11 n11 c11 y8 y9 A10 n10 c10 A7 n7 c7 B6 A4 n4 c4 A5 n5 c5 y1 y2 A3 n3 c3)) (A := fun u => [pureC (u = .bool b22)]) ?_ rfl rfl rfl
          generalize val 13 = u13
          refine X_pure 0 rfl ?_
          rintro rfl
          exact X_ev (ev_move rfl) rfl (cv_put [] rfl (cv_refl _))
        refine steps_cons rfl ?_ ?_
        · intro val
          refine X_start (s := [(28, val 6), (34, val 12), (0, .bool false), (1, .pointer (some ⟨B6, 0, none⟩)), (2, .pointer (some ⟨B12, 0, none⟩))]) (L := [pureC ((val 6) = .bool y21), pureC ((val 12) = .bool y31)] ++ (pantomimelaw19_goes_C3 B12 A11 n11 c11 y8 y9 A10 n10 c10 A7 n7 c7 B6 A4 n4 c4 A5 n5 c5 y1 y2 A3 n3 c3)) (A := fun u => [pureC (u = .bool b22)]) ?_ rfl rfl rfl
          generalize val 6 = u6
          generalize val 12 = u12
          refine X_pure 0 rfl ?_
          rintro rfl
          refine X_pure 1 rfl ?_
          rintro rfl
          exact X_ev (ev_pick_t' g22 rfl rfl) rfl (cv_put [] (by rw [hb22]) (cv_refl _))
        refine steps_cons rfl ?_ ?_
        · intro val
          refine X_start (s := [(28, val 6), (32, val 10), (33, val 11), (0, .bool false), (1, .pointer (some ⟨B6, 0, none⟩)), (2, .pointer (some ⟨B12, 0, none⟩))]) (L := [pureC ((val 6) = .bool y21), pureC (∃ (A28 : Option Addr) (n28 : Nat) (c28 : Nat), (val 10) = .slice A28 n28 c28), ownC (rInt .i64) 3 (val 10) y26, pureC (∃ (A30 : Option Addr) (n30 : Nat) (c30 : Nat), (val 11) = .slice A30 n30 c30), ownC (rInt .i64) 3 (val 11) ([1, 2, 3] : List Int)] ++ (pantomimelaw19_goes_C3 B12 A11 n11 c11 y8 y9 A10 n10 c10 A7 n7 c7 B6 A4 n4 c4 A5 n5 c5 y1 y2 A3 n3 c3)) (A := fun u => [pureC (u = .bool y31)]) ?_ rfl rfl rfl
          generalize val 6 = u6
          generalize val 10 = u10
          generalize val 11 = u11
          refine X_pure 0 rfl ?_
          rintro rfl
          refine X_pure 1 rfl ?_
          rintro ⟨A28, n28, c28, rfl⟩
          refine X_pure 3 rfl ?_
          rintro ⟨A30, n30, c30, rfl⟩
          refine X_op (op_callR (pantomimeref19_Same_ok hy31) call25 rfl (mem_cons (lent_own (i := 2) rfl) (mem_cons (lent_own (i := 4) rfl) mem_nil)) pantomimeref19_Same_free) (g_tt g22 rfl) ?_
          rintro _ _ ⟨_, ⟨rfl, rfl⟩, rfl⟩
          exact cv_put [] rfl (cv_refl _)
        refine steps_cons rfl ?_ ?_
        · intro val
          refine X_start (s := [(28, val 6), (0, .bool false), (1, .pointer (some ⟨B6, 0, none⟩)), (2, .pointer (some ⟨B12, 0, none⟩))]) (L := [pureC ((val 6) = .bool y21)] ++ (pantomimelaw19_goes_C3 B12 A11 n11 c11 y8 y9 A10 n10 c10 A7 n7 c7 B6 A4 n4 c4 A5 n5 c5 y1 y2 A3 n3 c3)) (A := fun u => [pureC (∃ (A30 : Option Addr) (n30 : Nat) (c30 : Nat), u = .slice A30 n30 c30), ownC (rInt .i64) 3 u ([1, 2, 3] : List Int)]) ?_ rfl rfl rfl
          generalize val 6 = u6
          refine X_pure 0 rfl ?_
          rintro rfl
          refine X_op (op_bslice (R := (rInt .i64)) (vss := [[.int .i64 1], [.int .i64 2], [.int .i64 3]]) (xs := [1, 2, 3]) rfl (bsl_31_3 _ _ _) rfl rfl (fun _ _ hr => .cons rfl (.cons rfl (.cons rfl All2.nil)))) (g_tt g22 rfl) ?_
          rintro _ _ ⟨A29, n29, c29, rfl, rfl⟩
          exact cv_put [ownC (rInt .i64) 3 (.slice A29 n29 c29) ([1, 2, 3] : List Int)] ⟨_, _, _, rfl⟩ (cv_refl _)
        refine steps_cons rfl ?_ ?_
        · intro val
          refine X_start (s := [(28, val 6), (29, val 7), (31, val 9), (0, .bool false), (1, .pointer (some ⟨B6, 0, none⟩)), (2, .pointer (some ⟨B12, 0, none⟩))]) (L := [pureC ((val 6) = .bool y21), pureC ((val 7) = .agg #[.slice A4 n4 c4, .slice A5 n5 c5]), pureC (∃ (A25 : Option Addr) (n25 : Nat) (c25 : Nat), (val 9) = .slice A25 n25 c25), ownC rDValue 38 (val 9) ([y23] : List DValue)] ++ (pantomimelaw19_goes_C3 B12 A11 n11 c11 y8 y9 A10 n10 c10 A7 n7 c7 B6 A4 n4 c4 A5 n5 c5 y1 y2 A3 n3 c3)) (A := fun u => [pureC (∃ (A28 : Option Addr) (n28 : Nat) (c28 : Nat), u = .slice A28 n28 c28), ownC (rInt .i64) 3 u y26]) ?_ rfl rfl rfl
          generalize val 6 = u6
          generalize val 7 = u7
          generalize val 9 = u9
          refine X_pure 0 rfl ?_
          rintro rfl
          refine X_pure 1 rfl ?_
          rintro rfl
          refine X_pure 2 rfl ?_
          rintro ⟨A25, n25, c25, rfl⟩
          refine X_op (op_callR (reach_Live_ok hy26) call16 rfl (mem_cons (lent_own (i := 10) rfl) (mem_cons (lent_own (i := 9) rfl) (mem_cons (lent_own (i := 3) rfl) mem_nil))) reach_Live_free) (g_tt g22 rfl) ?_
          rintro _ _ ⟨_, ⟨A27, n27, c27, rfl, rfl⟩, rfl⟩
          exact cv_put [ownC (rInt .i64) 3 (.slice A27 n27 c27) y26] ⟨_, _, _, rfl⟩ (cv_refl _)
        refine steps_cons rfl ?_ ?_
        · intro val
          refine X_start (s := [(28, val 6), (30, val 8), (0, .bool false), (1, .pointer (some ⟨B6, 0, none⟩)), (2, .pointer (some ⟨B12, 0, none⟩))]) (L := [pureC ((val 6) = .bool y21), pureC ((val 8) = .agg #[.int .i64 y23.Kind, .int .i64 y23.N, .string y23.S])] ++ (pantomimelaw19_goes_C3 B12 A11 n11 c11 y8 y9 A10 n10 c10 A7 n7 c7 B6 A4 n4 c4 A5 n5 c5 y1 y2 A3 n3 c3)) (A := fun u => [pureC (∃ (A25 : Option Addr) (n25 : Nat) (c25 : Nat), u = .slice A25 n25 c25), ownC rDValue 38 u ([y23] : List DValue)]) ?_ rfl rfl rfl
          generalize val 6 = u6
          generalize val 8 = u8
          refine X_pure 0 rfl ?_
          rintro rfl
          refine X_pure 1 rfl ?_
          rintro rfl
          refine X_op (op_bslice (R := rDValue) (vss := [[.int .i64 y23.Kind, .int .i64 y23.N, .string y23.S]]) (xs := [y23]) rfl (bsl_25_1 _ _ _) rfl rfl (fun _ _ hr => .cons rfl All2.nil)) (g_tt g22 rfl) ?_
          rintro _ _ ⟨A24, n24, c24, rfl, rfl⟩
          exact cv_put [ownC rDValue 38 (.slice A24 n24 c24) ([y23] : List DValue)] ⟨_, _, _, rfl⟩ (cv_refl _)
        refine steps_cons rfl ?_ ?_
        · intro val
          refine X_start (s := [(28, val 6), (0, .bool false), (1, .pointer (some ⟨B6, 0, none⟩)), (2, .pointer (some ⟨B12, 0, none⟩))]) (L := [pureC ((val 6) = .bool y21)] ++ (pantomimelaw19_goes_C3 B12 A11 n11 c11 y8 y9 A10 n10 c10 A7 n7 c7 B6 A4 n4 c4 A5 n5 c5 y1 y2 A3 n3 c3)) (A := fun u => [pureC (u = .agg #[.int .i64 y23.Kind, .int .i64 y23.N, .string y23.S])]) ?_ rfl rfl rfl
          generalize val 6 = u6
          refine X_pure 0 rfl ?_
          rintro rfl
          refine X_op (op_callR (pantomimelaw19_object_ok hy23) call47 rfl (mem_nil) pantomimelaw19_object_free) (g_tt g22 rfl) ?_
          rintro _ _ ⟨_, ⟨rfl, rfl⟩, rfl⟩
          exact cv_put [] rfl (cv_refl _)
        refine steps_cons rfl ?_ ?_
        · intro val
          refine X_start (s := [(28, val 6), (0, .bool false), (1, .pointer (some ⟨B6, 0, none⟩)), (2, .pointer (some ⟨B12, 0, none⟩))]) (L := [pureC ((val 6) = .bool y21)] ++ (pantomimelaw19_goes_C3 B12 A11 n11 c11 y8 y9 A10 n10 c10 A7 n7 c7 B6 A4 n4 c4 A5 n5 c5 y1 y2 A3 n3 c3)) (A := fun u => [pureC (u = .agg #[.slice A4 n4 c4, .slice A5 n5 c5])]) ?_ rfl rfl rfl
          generalize val 6 = u6
          refine X_pure 0 rfl ?_
          rintro rfl
          exact X_rd (rd_boxS (us := [.slice A4 n4 c4, .slice A5 n5 c5]) 5 rfl rfl agg24 rfl) (g_tt g22 rfl) (cv_put [] rfl (cv_refl _))
        refine steps_cons rfl ?_ ?_
        · intro val
          refine X_start (s := [(27, val 5), (0, .bool false), (1, .pointer (some ⟨B6, 0, none⟩)), (2, .pointer (some ⟨B12, 0, none⟩))]) (L := [pureC ((val 5) = .bool y21)] ++ (pantomimelaw19_goes_C3 B12 A11 n11 c11 y8 y9 A10 n10 c10 A7 n7 c7 B6 A4 n4 c4 A5 n5 c5 y1 y2 A3 n3 c3)) (A := fun u => [pureC (u = .bool y21)]) ?_ rfl rfl rfl
          generalize val 5 = u5
          refine X_pure 0 rfl ?_
          rintro rfl
          exact X_ev (ev_move rfl) rfl (cv_put [] rfl (cv_refl _))
        refine steps_cons rfl ?_ ?_
        · intro val
          refine X_start (s := [(25, val 3), (26, val 4), (0, .bool false), (1, .pointer (some ⟨B6, 0, none⟩)), (2, .pointer (some ⟨B12, 0, none⟩))]) (L := [pureC (∃ (A18 : Option Addr) (n18 : Nat) (c18 : Nat), (val 3) = .slice A18 n18 c18), ownC (rInt .i64) 3 (val 3) y16, pureC (∃ (A20 : Option Addr) (n20 : Nat) (c20 : Nat), (val 4) = .slice A20 n20 c20), ownC (rInt .i64) 3 (val 4) ([1, 3, 2] : List Int)] ++ (pantomimelaw19_goes_C3 B12 A11 n11 c11 y8 y9 A10 n10 c10 A7 n7 c7 B6 A4 n4 c4 A5 n5 c5 y1 y2 A3 n3 c3)) (A := fun u => [pureC (u = .bool y21)]) ?_ rfl rfl rfl
          generalize val 3 = u3
          generalize val 4 = u4
          refine X_pure 0 rfl ?_
          rintro ⟨A18, n18, c18, rfl⟩
          refine X_pure 2 rfl ?_
          rintro ⟨A20, n20, c20, rfl⟩
          refine X_op (op_callR (pantomimeref19_Same_ok hy21) call25 rfl (mem_cons (lent_own (i := 1) rfl) (mem_cons (lent_own (i := 3) rfl) mem_nil)) pantomimeref19_Same_free) rfl ?_
          rintro _ _ ⟨_, ⟨rfl, rfl⟩, rfl⟩
          exact cv_put [] rfl (cv_refl _)
        refine steps_cons rfl ?_ ?_
        · intro val
          refine X_start (s := [(0, .bool false), (1, .pointer (some ⟨B6, 0, none⟩)), (2, .pointer (some ⟨B12, 0, none⟩))]) (L := [] ++ (pantomimelaw19_goes_C3 B12 A11 n11 c11 y8 y9 A10 n10 c10 A7 n7 c7 B6 A4 n4 c4 A5 n5 c5 y1 y2 A3 n3 c3)) (A := fun u => [pureC (∃ (A20 : Option Addr) (n20 : Nat) (c20 : Nat), u = .slice A20 n20 c20), ownC (rInt .i64) 3 u ([1, 3, 2] : List Int)]) ?_ rfl rfl rfl
          refine X_op (op_bslice (R := (rInt .i64)) (vss := [[.int .i64 1], [.int .i64 3], [.int .i64 2]]) (xs := [1, 3, 2]) rfl (bsl_31_3 _ _ _) rfl rfl (fun _ _ hr => .cons rfl (.cons rfl (.cons rfl All2.nil)))) rfl ?_
          rintro _ _ ⟨A19, n19, c19, rfl, rfl⟩
          exact cv_put [ownC (rInt .i64) 3 (.slice A19 n19 c19) ([1, 3, 2] : List Int)] ⟨_, _, _, rfl⟩ (cv_refl _)
        refine steps_cons rfl ?_ ?_
        · intro val
          refine X_start (s := [(22, val 0), (24, val 2), (0, .bool false), (1, .pointer (some ⟨B6, 0, none⟩)), (2, .pointer (some ⟨B12, 0, none⟩))]) (L := [pureC ((val 0) = .agg #[.slice A4 n4 c4, .slice A5 n5 c5]), pureC (∃ (A15 : Option Addr) (n15 : Nat) (c15 : Nat), (val 2) = .slice A15 n15 c15), ownC rDValue 38 (val 2) ([y13] : List DValue)] ++ (pantomimelaw19_goes_C3 B12 A11 n11 c11 y8 y9 A10 n10 c10 A7 n7 c7 B6 A4 n4 c4 A5 n5 c5 y1 y2 A3 n3 c3)) (A := fun u => [pureC (∃ (A18 : Option Addr) (n18 : Nat) (c18 : Nat), u = .slice A18 n18 c18), ownC (rInt .i64) 3 u y16]) ?_ rfl rfl rfl
          generalize val 0 = u0
          generalize val 2 = u2
          refine X_pure 0 rfl ?_
          rintro rfl
          refine X_pure 1 rfl ?_
          rintro ⟨A15, n15, c15, rfl⟩
          refine X_op (op_callR (reach_Order_ok hy16) call23 rfl (mem_cons (lent_own (i := 9) rfl) (mem_cons (lent_own (i := 8) rfl) (mem_cons (lent_own (i := 2) rfl) mem_nil))) reach_Order_free) rfl ?_
          rintro _ _ ⟨_, ⟨A17, n17, c17, rfl, rfl⟩, rfl⟩
          exact cv_put [ownC (rInt .i64) 3 (.slice A17 n17 c17) y16] ⟨_, _, _, rfl⟩ (cv_refl _)
        refine steps_cons rfl ?_ ?_
        · intro val
          refine X_start (s := [(23, val 1), (0, .bool false), (1, .pointer (some ⟨B6, 0, none⟩)), (2, .pointer (some ⟨B12, 0, none⟩))]) (L := [pureC ((val 1) = .agg #[.int .i64 y13.Kind, .int .i64 y13.N, .string y13.S])] ++ (pantomimelaw19_goes_C3 B12 A11 n11 c11 y8 y9 A10 n10 c10 A7 n7 c7 B6 A4 n4 c4 A5 n5 c5 y1 y2 A3 n3 c3)) (A := fun u => [pureC (∃ (A15 : Option Addr) (n15 : Nat) (c15 : Nat), u = .slice A15 n15 c15), ownC rDValue 38 u ([y13] : List DValue)]) ?_ rfl rfl rfl
          generalize val 1 = u1
          refine X_pure 0 rfl ?_
          rintro rfl
          refine X_op (op_bslice (R := rDValue) (vss := [[.int .i64 y13.Kind, .int .i64 y13.N, .string y13.S]]) (xs := [y13]) rfl (bsl_25_1 _ _ _) rfl rfl (fun _ _ hr => .cons rfl All2.nil)) rfl ?_
          rintro _ _ ⟨A14, n14, c14, rfl, rfl⟩
          exact cv_put [ownC rDValue 38 (.slice A14 n14 c14) ([y13] : List DValue)] ⟨_, _, _, rfl⟩ (cv_refl _)
        refine steps_cons rfl ?_ ?_
        · intro val
          refine X_start (s := [(0, .bool false), (1, .pointer (some ⟨B6, 0, none⟩)), (2, .pointer (some ⟨B12, 0, none⟩))]) (L := [] ++ (pantomimelaw19_goes_C3 B12 A11 n11 c11 y8 y9 A10 n10 c10 A7 n7 c7 B6 A4 n4 c4 A5 n5 c5 y1 y2 A3 n3 c3)) (A := fun u => [pureC (u = .agg #[.int .i64 y13.Kind, .int .i64 y13.N, .string y13.S])]) ?_ rfl rfl rfl
          refine X_op (op_callR (pantomimelaw19_object_ok hy13) call47 rfl (mem_nil) pantomimelaw19_object_free) rfl ?_
          rintro _ _ ⟨_, ⟨rfl, rfl⟩, rfl⟩
          exact cv_put [] rfl (cv_refl _)
        refine steps_cons rfl ?_ ?_
        · intro val
          refine X_start (s := [(0, .bool false), (1, .pointer (some ⟨B6, 0, none⟩)), (2, .pointer (some ⟨B12, 0, none⟩))]) (L := [] ++ (pantomimelaw19_goes_C3 B12 A11 n11 c11 y8 y9 A10 n10 c10 A7 n7 c7 B6 A4 n4 c4 A5 n5 c5 y1 y2 A3 n3 c3)) (A := fun u => [pureC (u = .agg #[.slice A4 n4 c4, .slice A5 n5 c5])]) ?_ rfl rfl rfl
          exact X_rd (rd_boxS (us := [.slice A4 n4 c4, .slice A5 n5 c5]) 4 rfl rfl agg24 rfl) rfl (cv_put [] rfl (cv_refl _))
        exact steps_nil
      · intro val
        show TkN _ _ _ _ _ [(22, val 0), (23, val 1), (24, val 2), (25, val 3), (26, val 4), (27, val 5), (28, val 6), (29, val 7), (30, val 8), (31, val 9), (32, val 10), (33, val 11), (34, val 12), (35, val 13), (36, val 14), (37, val 15), (38, val 16), (39, val 17), (40, val 18), (41, val 19), (42, val 20), (43, val 21), (44, val 22), (45, val 23), (46, val 24), (47, val 25), (48, val 26), (49, val 27), (50, val 28), (51, val 29), (52, val 30), (53, val 31), (54, val 32), (55, val 33), (56, val 34), (57, val 35), (58, val 36), (59, val 37), (60, val 38), (61, val 39), (0, .bool false), (1, .pointer (some ⟨B6, 0, none⟩)), (2, .pointer (some ⟨B12, 0, none⟩))] ([pureC ((val 0) = .agg #[.slice A4 n4 c4, .slice A5 n5 c5]), pureC ((val 1) = .agg #[.int .i64 y13.Kind, .int .i64 y13.N, .string y13.S]), pureC (∃ (A15 : Option Addr) (n15 : Nat) (c15 : Nat), (val 2) = .slice A15 n15 c15), ownC rDValue 38 (val 2) ([y13] : List DValue), pureC (∃ (A18 : Option Addr) (n18 : Nat) (c18 : Nat), (val 3) = .slice A18 n18 c18), ownC (rInt .i64) 3 (val 3) y16, pureC (∃ (A20 : Option Addr) (n20 : Nat) (c20 : Nat), (val 4) = .slice A20 n20 c20), ownC (rInt .i64) 3 (val 4) ([1, 3, 2] : List Int), pureC ((val 5) = .bool y21), pureC ((val 6) = .bool y21), pureC ((val 7) = .agg #[.slice A4 n4 c4, .slice A5 n5 c5]), pureC ((val 8) = .agg #[.int .i64 y23.Kind, .int .i64 y23.N, .string y23.S]), pureC (∃ (A25 : Option Addr) (n25 : Nat) (c25 : Nat), (val 9) = .slice A25 n25 c25), ownC rDValue 38 (val 9) ([y23] : List DValue), pureC (∃ (A28 : Option Addr) (n28 : Nat) (c28 : Nat), (val 10) = .slice A28 n28 c28), ownC (rInt .i64) 3 (val 10) y26, pureC (∃ (A30 : Option Addr) (n30 : Nat) (c30 : Nat), (val 11) = .slice A30 n30 c30), ownC (rInt .i64) 3 (val 11) ([1, 2, 3] : List Int), pureC ((val 12) = .bool y31), pureC ((val 13) = .bool b22), pureC ((val 14) = .bool b22), pureC ((val 15) = undef), pureC ((val 16) = undef), pureC ((val 17) = undef), pureC ((val 18) = undef), pureC ((val 19) = undef), pureC ((val 20) = undef), pureC ((val 21) = .bool b32), pureC ((val 22) = .bool b32), pureC ((val 23) = undef), pureC ((val 24) = undef), pureC ((val 25) = undef), pureC ((val 26) = undef), pureC ((val 27) = undef), pureC ((val 28) = undef), pureC ((val 29) = undef), pureC ((val 30) = .bool b75), pureC ((val 31) = .bool b75), pureC ((val 32) = undef), pureC ((val 33) = undef), pureC ((val 34) = undef), pureC ((val 35) = undef), pureC ((val 36) = undef), pureC ((val 37) = undef), pureC ((val 38) = undef), pureC ((val 39) = .bool b76)] ++ (pantomimelaw19_goes_C3 B12 A11 n11 c11 y8 y9 A10 n10 c10 A7 n7 c7 B6 A4 n4 c4 A5 n5 c5 y1 y2 A3 n3 c3))
        generalize val 0 = u0
        generalize val 1 = u1
        generalize val 2 = u2
        generalize val 3 = u3
        generalize val 4 = u4
        generalize val 5 = u5
        generalize val 6 = u6
        generalize val 7 = u7
        generalize val 8 = u8
        generalize val 9 = u9
        generalize val 10 = u10
        generalize val 11 = u11
        generalize val 12 = u12
        generalize val 13 = u13
        generalize val 14 = u14
        generalize val 15 = u15
        generalize val 16 = u16
        generalize val 17 = u17
        generalize val 18 = u18
        generalize val 19 = u19
        generalize val 20 = u20
        generalize val 21 = u21
        generalize val 22 = u22
        generalize val 23 = u23
        generalize val 24 = u24
        generalize val 25 = u25
        generalize val 26 = u26
        generalize val 27 = u27
        generalize val 28 = u28
        generalize val 29 = u29
        generalize val 30 = u30
        generalize val 31 = u31
        generalize val 32 = u32
        generalize val 33 = u33
        generalize val 34 = u34
        generalize val 35 = u35
        generalize val 36 = u36
        generalize val 37 = u37
        generalize val 38 = u38
        generalize val 39 = u39
        refine N_pure 0 rfl ?_
        rintro rfl
        refine N_pure 1 rfl ?_
        rintro rfl
        refine N_pure 2 rfl ?_
        rintro ⟨A15, n15, c15, rfl⟩
        refine N_pure 4 rfl ?_
        rintro ⟨A18, n18, c18, rfl⟩
        refine N_pure 6 rfl ?_
        rintro ⟨A20, n20, c20, rfl⟩
        refine N_pure 8 rfl ?_
        rintro rfl
        refine N_pure 9 rfl ?_
        rintro rfl
        refine N_pure 10 rfl ?_
        rintro rfl
        refine N_pure 11 rfl ?_
        rintro rfl
        refine N_pure 12 rfl ?_
        rintro ⟨A25, n25, c25, rfl⟩
        refine N_pure 14 rfl ?_
        rintro ⟨A28, n28, c28, rfl⟩
        refine N_pure 16 rfl ?_
        rintro ⟨A30, n30, c30, rfl⟩
        refine N_pure 18 rfl ?_
        rintro rfl
        refine N_pure 19 rfl ?_
        rintro rfl
        refine N_pure 20 rfl ?_
        rintro rfl
        refine N_pure 21 rfl ?_
        rintro rfl
        refine N_pure 22 rfl ?_
        rintro rfl
        refine N_pure 23 rfl ?_
        rintro rfl
        refine N_pure 24 rfl ?_
        rintro rfl
        refine N_pure 25 rfl ?_
        rintro rfl
        refine N_pure 26 rfl ?_
        rintro rfl
        refine N_pure 27 rfl ?_
        rintro rfl
        refine N_pure 28 rfl ?_
        rintro rfl
        refine N_pure 29 rfl ?_
        rintro rfl
        refine N_pure 30 rfl ?_
        rintro rfl
        refine N_pure 31 rfl ?_
        rintro rfl
        refine N_pure 32 rfl ?_
        rintro rfl
        refine N_pure 33 rfl ?_
        rintro rfl
        refine N_pure 34 rfl ?_
        rintro rfl
        refine N_pure 35 rfl ?_
        rintro rfl
        refine N_pure 36 rfl ?_
        rintro rfl
        refine N_pure 37 rfl ?_
        rintro rfl
        refine N_pure 38 rfl ?_
        rintro rfl
        refine N_pure 39 rfl ?_
        rintro rfl
        refine N_pure 40 rfl ?_
        rintro rfl
        refine N_pure 41 rfl ?_
        rintro rfl
        refine N_pure 42 rfl ?_
        rintro rfl
        refine N_pure 43 rfl ?_
        rintro rfl
        refine N_pure 44 rfl ?_
        rintro rfl
        refine N_pure 45 rfl ?_
        rintro rfl
        refine N_sub (L' := [ownC rDValue 38 (.slice A15 n15 c15) ([y13] : List DValue), ownC (rInt .i64) 3 (.slice A18 n18 c18) y16, ownC (rInt .i64) 3 (.slice A20 n20 c20) ([1, 3, 2] : List Int), ownC rDValue 38 (.slice A25 n25 c25) ([y23] : List DValue), ownC (rInt .i64) 3 (.slice A28 n28 c28) y26, ownC (rInt .i64) 3 (.slice A30 n30 c30) ([1, 2, 3] : List Int), boxC B12 24 [.slice A11 n11 c11, .slice none 0 0], ownC rDCell 42 (.slice A11 n11 c11) ([(⟨8, 0, 0, 0, ([(⟨1, 0, ⟨#[]⟩⟩ : DValue)] : List DValue), ([y8, y9] : List DValue)⟩ : DCell), (⟨11, 0, 0, 0, [], []⟩ : DCell), (⟨11, 0, 0, 0, [], []⟩ : DCell)] : List DCell), slC rDValue (.slice A10 n10 c10) ([y8, y9] : List DValue), slC rDValue (.slice A7 n7 c7) ([(⟨1, 0, ⟨#[]⟩⟩ : DValue)] : List DValue), boxC B6 24 [.slice A4 n4 c4, .slice A5 n5 c5], ownC rDCell 42 (.slice A5 n5 c5) ([(⟨11, 0, 0, 0, [], []⟩ : DCell)] : List DCell), ownC rDCell 42 (.slice A4 n4 c4) ([(⟨11, 0, 0, 0, [], ([y1, y2] : List DValue)⟩ : DCell), (⟨11, 0, 0, 0, [], []⟩ : DCell)] : List DCell), slC rDValue (.slice A3 n3 c3) ([y1, y2] : List DValue)]) ?_ sub_refl (cv_sel [3, 5, 7, 13, 15, 17, 46, 47, 48, 49, 50, 51, 52, 53] 54 rfl rfl)
        refine N_ev 40 rfl (by kernel_rfl) (ev_assign rfl) rfl rfl rfl ?_
        refine N_done (by kernel_rfl) ?_
        refine nx_n ?_
        refine G_ret ?_
        obtain rfl := Option.some.inj h
        exact endG1 rfl rfl (cv_sel [] 14 rfl rfl) ⟨rfl, rfl⟩
  · replace hb22 := cond_f g22 hb22
    replace hb22 : false = b22 := Option.some.inj hb22
    obtain ⟨b97, hb97, h⟩ := bind_elim h
    have g97 : b22 = false := by first | exact g32 | exact hb22.symm | simp_all
    replace hb97 := cond_f g97 hb97
    replace hb97 : false = b97 := Option.some.inj hb97
    obtain ⟨b98, hb98, h⟩ := bind_elim h
    have g98 : b97 = false := by first | exact hb97 | exact hb97.symm | simp_all
    replace hb98 := cond_f g98 hb98
    replace hb98 : false = b98 := Option.some.inj hb98
    obtain ⟨b99, hb99, h⟩ := bind_elim h
    have g99 : b98 = false := by first | exact hb98 | exact hb98.symm | simp_all
    replace hb99 := cond_f g99 hb99
    replace hb99 : false = b99 := Option.some.inj hb99
    refine G_sub (t := [(0, .bool false), (1, .pointer (some ⟨B6, 0, none⟩)), (2, .pointer (some ⟨B12, 0, none⟩))]) ?_ (sub_cons rfl (sub_cons rfl (sub_cons rfl sub_nil))) (cv_refl _)
    refine G_monoR (by kernel_rfl) 40 [] [22, 23, 24, 25, 26, 27, 28, 29, 30, 31, 32, 33, 34, 35, 36, 37, 38, 39, 40, 41, 42, 43, 44, 45, 46, 47, 48, 49, 50, 51, 52, 53, 54, 55, 56, 57, 58, 59, 60, 61] [[], [], [1], [0, 2], [], [3, 4], [5], [6], [6], [6], [6], [6], [6], [6, 12], [13], [14], [14], [14], [14], [14], [14], [14, 20], [21], [22], [22], [22], [22], [22], [22], [22], [22, 29], [30], [31], [31], [31], [31], [31], [31], [31], [31, 38]] [fun u => [pureC (u = .agg #[.slice A4 n4 c4, .slice A5 n5 c5])],
      fun u => [pureC (u = .agg #[.int .i64 y13.Kind, .int .i64 y13.N, .string y13.S])],
      fun u => [pureC (∃ (A15 : Option Addr) (n15 : Nat) (c15 : Nat), u = .slice A15 n15 c15), ownC rDValue 38 u ([y13] : List DValue)],
      fun u => [pureC (∃ (A18 : Option Addr) (n18 : Nat) (c18 : Nat), u = .slice A18 n18 c18), ownC (rInt .i64) 3 u y16],
      fun u => [pureC (∃ (A20 : Option Addr) (n20 : Nat) (c20 : Nat), u = .slice A20 n20 c20), ownC (rInt .i64) 3 u ([1, 3, 2] : List Int)],
      fun u => [pureC (u = .bool y21)],
      fun u => [pureC (u = .bool y21)],
      fun u => [pureC (u = undef)],
      fun u => [pureC (u = undef)],
      fun u => [pureC (u = undef)],
      fun u => [pureC (u = undef)],
      fun u => [pureC (u = undef)],
      fun u => [pureC (u = undef)],
      fun u => [pureC (u = .bool b22)],
      fun u => [pureC (u = .bool b22)],
      fun u => [pureC (u = undef)],
      fun u => [pureC (u = undef)],
      fun u => [pureC (u = undef)],
      fun u => [pureC (u = undef)],
      fun u => [pureC (u = undef)],
      fun u => [pureC (u = undef)],
      fun u => [pureC (u = .bool b97)],
      fun u => [pureC (u = .bool b97)],
      fun u => [pureC (u = undef)],
      fun u => [pureC (u = undef)],
      fun u => [pureC (u = undef)],
      fun u => [pureC (u = undef)],
      fun u => [pureC (u = undef)],
      fun u => [pureC (u = undef)],
      fun u => [pureC (u = undef)],
      fun u => [pureC (u = .bool b98)],
      fun u => [pureC (u = .bool b98)],
      fun u => [pureC (u = undef)],
      fun u => [pureC (u = undef)],
      fun u => [pureC (u = undef)],
      fun u => [pureC (u = undef)],
      fun u => [pureC (u = undef)],
      fun u => [pureC (u = undef)],
      fun u => [pureC (u = undef)],
      fun u => [pureC (u = .bool b99)]] (by kernel_rfl) ?_ ?_ ?_
    · exact qs_nil
    · refine steps_cons rfl ?_ ?_
      · intro val
        refine X_start (s := [(53, val 31), (60, val 38), (0, .bool false), (1, .pointer (some ⟨B6, 0, none⟩)), (2, .pointer (some ⟨B12, 0, none⟩))]) (L := [pureC ((val 31) = .bool b98), pureC ((val 38) = undef)] ++ (pantomimelaw19_goes_C3 B12 A11 n11 c11 y8 y9 A10 n10 c10 A7 n7 c7 B6 A4 n4 c4 A5 n5 c5 y1 y2 A3 n3 c3)) (A := fun u => [pureC (u = .bool b99)]) ?_ rfl rfl rfl
        generalize val 31 = u31
        generalize val 38 = u38
        refine X_pure 0 rfl ?_
        rintro rfl
        refine X_pure 1 rfl ?_
        rintro rfl
        exact X_ev (ev_pick_f' g99 rfl rfl) rfl (cv_put [] (by rw [hb99]) (cv_refl _))
      refine steps_cons rfl ?_ ?_
      · intro val
        refine X_start (s := [(53, val 31), (0, .bool false), (1, .pointer (some ⟨B6, 0, none⟩)), (2, .pointer (some ⟨B12, 0, none⟩))]) (L := [pureC ((val 31) = .bool b98)] ++ (pantomimelaw19_goes_C3 B12 A11 n11 c11 y8 y9 A10 n10 c10 A7 n7 c7 B6 A4 n4 c4 A5 n5 c5 y1 y2 A3 n3 c3)) (A := fun u => [pureC (u = undef)]) ?_ rfl rfl rfl
        generalize val 31 = u31
        refine X_pure 0 rfl ?_
        rintro rfl
        exact X_no (g_tf g99 rfl) (cv_put [] rfl (cv_refl _))
      refine steps_cons rfl ?_ ?_
      · intro val
        refine X_start (s := [(53, val 31), (0, .bool false), (1, .pointer (some ⟨B6, 0, none⟩)), (2, .pointer (some ⟨B12, 0, none⟩))]) (L := [pureC ((val 31) = .bool b98)] ++ (pantomimelaw19_goes_C3 B12 A11 n11 c11 y8 y9 A10 n10 c10 A7 n7 c7 B6 A4 n4 c4 A5 n5 c5 y1 y2 A3 n3 c3)) (A := fun u => [pureC (u = undef)]) ?_ rfl rfl rfl
        generalize val 31 = u31
        refine X_pure 0 rfl ?_
        rintro rfl
        exact X_no (g_tf g99 rfl) (cv_put [] rfl (cv_refl _))
      refine steps_cons rfl ?_ ?_
      · intro val
        refine X_start (s := [(53, val 31), (0, .bool false), (1, .pointer (some ⟨B6, 0, none⟩)), (2, .pointer (some ⟨B12, 0, none⟩))]) (L := [pureC ((val 31) = .bool b98)] ++ (pantomimelaw19_goes_C3 B12 A11 n11 c11 y8 y9 A10 n10 c10 A7 n7 c7 B6 A4 n4 c4 A5 n5 c5 y1 y2 A3 n3 c3)) (A := fun u => [pureC (u = undef)]) ?_ rfl rfl rfl
        generalize val 31 = u31
        refine X_pure 0 rfl ?_
        rintro rfl
        exact X_no (g_tf g99 rfl) (cv_put [] rfl (cv_refl _))
      refine steps_cons rfl ?_ ?_
      · intro val
        refine X_start (s := [(53, val 31), (0, .bool false), (1, .pointer (some ⟨B6, 0, none⟩)), (2, .pointer (some ⟨B12, 0, none⟩))]) (L := [pureC ((val 31) = .bool b98)] ++ (pantomimelaw19_goes_C3 B12 A11 n11 c11 y8 y9 A10 n10 c10 A7 n7 c7 B6 A4 n4 c4 A5 n5 c5 y1 y2 A3 n3 c3)) (A := fun u => [pureC (u = undef)]) ?_ rfl rfl rfl
        generalize val 31 = u31
        refine X_pure 0 rfl ?_
        rintro rfl
        exact X_no (g_tf g99 rfl) (cv_put [] rfl (cv_refl _))
      refine steps_cons rfl ?_ ?_
      · intro val
        refine X_start (s := [(53, val 31), (0, .bool false), (1, .pointer (some ⟨B6, 0, none⟩)), (2, .pointer (some ⟨B12, 0, none⟩))]) (L := [pureC ((val 31) = .bool b98)] ++ (pantomimelaw19_goes_C3 B12 A11 n11 c11 y8 y9 A10 n10 c10 A7 n7 c7 B6 A4 n4 c4 A5 n5 c5 y1 y2 A3 n3 c3)) (A := fun u => [pureC (u = undef)]) ?_ rfl rfl rfl
        generalize val 31 = u31
        refine X_pure 0 rfl ?_
        rintro rfl
        exact X_no (g_tf g99 rfl) (cv_put [] rfl (cv_refl _))
      refine steps_cons rfl ?_ ?_
      · intro val
        refine X_start (s := [(53, val 31), (0, .bool false), (1, .pointer (some ⟨B6, 0, none⟩)), (2, .pointer (some ⟨B12, 0, none⟩))]) (L := [pureC ((val 31) = .bool b98)] ++ (pantomimelaw19_goes_C3 B12 A11 n11 c11 y8 y9 A10 n10 c10 A7 n7 c7 B6 A4 n4 c4 A5 n5 c5 y1 y2 A3 n3 c3)) (A := fun u => [pureC (u = undef)]) ?_ rfl rfl rfl
        generalize val 31 = u31
        refine X_pure 0 rfl ?_
        rintro rfl
        exact X_no (g_tf g99 rfl) (cv_put [] rfl (cv_refl _))
      refine steps_cons rfl ?_ ?_
      · intro val
        refine X_start (s := [(53, val 31), (0, .bool false), (1, .pointer (some ⟨B6, 0, none⟩)), (2, .pointer (some ⟨B12, 0, none⟩))]) (L := [pureC ((val 31) = .bool b98)] ++ (pantomimelaw19_goes_C3 B12 A11 n11 c11 y8 y9 A10 n10 c10 A7 n7 c7 B6 A4 n4 c4 A5 n5 c5 y1 y2 A3 n3 c3)) (A := fun u => [pureC (u = undef)]) ?_ rfl rfl rfl
        generalize val 31 = u31
        refine X_pure 0 rfl ?_
        rintro rfl
        exact X_no (g_tf g99 rfl) (cv_put [] rfl (cv_refl _))
      refine steps_cons rfl ?_ ?_
      · intro val
        refine X_start (s := [(52, val 30), (0, .bool false), (1, .pointer (some ⟨B6, 0, none⟩)), (2, .pointer (some ⟨B12, 0, none⟩))]) (L := [pureC ((val 30) = .bool b98)] ++ (pantomimelaw19_goes_C3 B12 A11 n11 c11 y8 y9 A10 n10 c10 A7 n7 c7 B6 A4 n4 c4 A5 n5 c5 y1 y2 A3 n3 c3)) (A := fun u => [pureC (u = .bool b98)]) ?_ rfl rfl rfl
        generalize val 30 = u30
        refine X_pure 0 rfl ?_
        rintro rfl
        exact X_ev (ev_move rfl) rfl (cv_put [] rfl (cv_refl _))
      refine steps_cons rfl ?_ ?_
      · intro val
        refine X_start (s := [(44, val 22), (51, val 29), (0, .bool false), (1, .pointer (some ⟨B6, 0, none⟩)), (2, .pointer (some ⟨B12, 0, none⟩))]) (L := [pureC ((val 22) = .bool b97), pureC ((val 29) = undef)] ++ (pantomimelaw19_goes_C3 B12 A11 n11 c11 y8 y9 A10 n10 c10 A7 n7 c7 B6 A4 n4 c4 A5 n5 c5 y1 y2 A3 n3 c3)) (A := fun u => [pureC (u = .bool b98)]) ?_ rfl rfl rfl
        generalize val 22 = u22
        generalize val 29 = u29
        refine X_pure 0 rfl ?_
        rintro rfl
        refine X_pure 1 rfl ?_
        rintro rfl
        exact X_ev (ev_pick_f' g98 rfl rfl) rfl (cv_put [] (by rw [hb98]) (cv_refl _))
      refine steps_cons rfl ?_ ?_
      · intro val
        refine X_start (s := [(44, val 22), (0, .bool false), (1, .pointer (some ⟨B6, 0, none⟩)), (2, .pointer (some ⟨B12, 0, none⟩))]) (L := [pureC ((val 22) = .bool b97)] ++ (pantomimelaw19_goes_C3 B12 A11 n11 c11 y8 y9 A10 n10 c10 A7 n7 c7 B6 A4 n4 c4 A5 n5 c5 y1 y2 A3 n3 c3)) (A := fun u => [pureC (u = undef)]) ?_ rfl rfl rfl
        generalize val 22 = u22
        refine X_pure 0 rfl ?_
        rintro rfl
        exact X_no (g_tf g98 rfl) (cv_put [] rfl (cv_refl _))
      refine steps_cons rfl ?_ ?_
      · intro val
        refine X_start (s := [(44, val 22), (0, .bool false), (1, .pointer (some ⟨B6, 0, none⟩)), (2, .pointer (some ⟨B12, 0, none⟩))]) (L := [pureC ((val 22) = .bool b97)] ++ (pantomimelaw19_goes_C3 B12 A11 n11 c11 y8 y9 A10 n10 c10 A7 n7 c7 B6 A4 n4 c4 A5 n5 c5 y1 y2 A3 n3 c3)) (A := fun u => [pureC (u = undef)]) ?_ rfl rfl rfl
        generalize val 22 = u22
        refine X_pure 0 rfl ?_
        rintro rfl
        exact X_no (g_tf g98 rfl) (cv_put [] rfl (cv_refl _))
      refine steps_cons rfl ?_ ?_
      · intro val
        refine X_start (s := [(44, val 22), (0, .bool false), (1, .pointer (some ⟨B6, 0, none⟩)), (2, .pointer (some ⟨B12, 0, none⟩))]) (L := [pureC ((val 22) = .bool b97)] ++ (pantomimelaw19_goes_C3 B12 A11 n11 c11 y8 y9 A10 n10 c10 A7 n7 c7 B6 A4 n4 c4 A5 n5 c5 y1 y2 A3 n3 c3)) (A := fun u => [pureC (u = undef)]) ?_ rfl rfl rfl
        generalize val 22 = u22
        refine X_pure 0 rfl ?_
        rintro rfl
        exact X_no (g_tf g98 rfl) (cv_put [] rfl (cv_refl _))
      refine steps_cons rfl ?_ ?_
      · intro val
        refine X_start (s := [(44, val 22), (0, .bool false), (1, .pointer (some ⟨B6, 0, none⟩)), (2, .pointer (some ⟨B12, 0, none⟩))]) (L := [pureC ((val 22) = .bool b97)] ++ (pantomimelaw19_goes_C3 B12 A11 n11 c11 y8 y9 A10 n10 c10 A7 n7 c7 B6 A4 n4 c4 A5 n5 c5 y1 y2 A3 n3 c3)) (A := fun u => [pureC (u = undef)]) ?_ rfl rfl rfl
        generalize val 22 = u22
        refine X_pure 0 rfl ?_
        rintro rfl
        exact X_no (g_tf g98 rfl) (cv_put [] rfl (cv_refl _))
      refine steps_cons rfl ?_ ?_
      · intro val
        refine X_start (s := [(44, val 22), (0, .bool false), (1, .pointer (some ⟨B6, 0, none⟩)), (2, .pointer (some ⟨B12, 0, none⟩))]) (L := [pureC ((val 22) = .bool b97)] ++ (pantomimelaw19_goes_C3 B12 A11 n11 c11 y8 y9 A10 n10 c10 A7 n7 c7 B6 A4 n4 c4 A5 n5 c5 y1 y2 A3 n3 c3)) (A := fun u => [pureC (u = undef)]) ?_ rfl rfl rfl
        generalize val 22 = u22
        refine X_pure 0 rfl ?_
        rintro rfl
        exact X_no (g_tf g98 rfl) (cv_put [] rfl (cv_refl _))
      refine steps_cons rfl ?_ ?_
      · intro val
        refine X_start (s := [(44, val 22), (0, .bool false), (1, .pointer (some ⟨B6, 0, none⟩)), (2, .pointer (some ⟨B12, 0, none⟩))]) (L := [pureC ((val 22) = .bool b97)] ++ (pantomimelaw19_goes_C3 B12 A11 n11 c11 y8 y9 A10 n10 c10 A7 n7 c7 B6 A4 n4 c4 A5 n5 c5 y1 y2 A3 n3 c3)) (A := fun u => [pureC (u = undef)]) ?_ rfl rfl rfl
        generalize val 22 = u22
        refine X_pure 0 rfl ?_
        rintro rfl
        exact X_no (g_tf g98 rfl) (cv_put [] rfl (cv_refl _))
      refine steps_cons rfl ?_ ?_
      · intro val
        refine X_start (s := [(44, val 22), (0, .bool false), (1, .pointer (some ⟨B6, 0, none⟩)), (2, .pointer (some ⟨B12, 0, none⟩))]) (L := [pureC ((val 22) = .bool b97)] ++ (pantomimelaw19_goes_C3 B12 A11 n11 c11 y8 y9 A10 n10 c10 A7 n7 c7 B6 A4 n4 c4 A5 n5 c5 y1 y2 A3 n3 c3)) (A := fun u => [pureC (u = undef)]) ?_ rfl rfl rfl
        generalize val 22 = u22
        refine X_pure 0 rfl ?_
        rintro rfl
        exact X_no (g_tf g98 rfl) (cv_put [] rfl (cv_refl _))
      refine steps_cons rfl ?_ ?_
      · intro val
        refine X_start (s := [(43, val 21), (0, .bool false), (1, .pointer (some ⟨B6, 0, none⟩)), (2, .pointer (some ⟨B12, 0, none⟩))]) (L := [pureC ((val 21) = .bool b97)] ++ (pantomimelaw19_goes_C3 B12 A11 n11 c11 y8 y9 A10 n10 c10 A7 n7 c7 B6 A4 n4 c4 A5 n5 c5 y1 y2 A3 n3 c3)) (A := fun u => [pureC (u = .bool b97)]) ?_ rfl rfl rfl
        generalize val 21 = u21
        refine X_pure 0 rfl ?_
        rintro rfl
        exact X_ev (ev_move rfl) rfl (cv_put [] rfl (cv_refl _))
      refine steps_cons rfl ?_ ?_
      · intro val
        refine X_start (s := [(36, val 14), (42, val 20), (0, .bool false), (1, .pointer (some ⟨B6, 0, none⟩)), (2, .pointer (some ⟨B12, 0, none⟩))]) (L := [pureC ((val 14) = .bool b22), pureC ((val 20) = undef)] ++ (pantomimelaw19_goes_C3 B12 A11 n11 c11 y8 y9 A10 n10 c10 A7 n7 c7 B6 A4 n4 c4 A5 n5 c5 y1 y2 A3 n3 c3)) (A := fun u => [pureC (u = .bool b97)]) ?_ rfl rfl rfl
        generalize val 14 = u14
        generalize val 20 = u20
        refine X_pure 0 rfl ?_
        rintro rfl
        refine X_pure 1 rfl ?_
        rintro rfl
        exact X_ev (ev_pick_f' g97 rfl rfl) rfl (cv_put [] (by rw [hb97]) (cv_refl _))
      refine steps_cons rfl ?_ ?_
      · intro val
        refine X_start (s := [(36, val 14), (0, .bool false), (1, .pointer (some ⟨B6, 0, none⟩)), (2, .pointer (some ⟨B12, 0, none⟩))]) (L := [pureC ((val 14) = .bool b22)] ++ (pantomimelaw19_goes_C3 B12 A11 n11 c11 y8 y9 A10 n10 c10 A7 n7 c7 B6 A4 n4 c4 A5 n5 c5 y1 y2 A3 n3 c3)) (A := fun u => [pureC (u = undef)]) ?_ rfl rfl rfl
        generalize val 14 = u14
        refine X_pure 0 rfl ?_
        rintro rfl
        exact X_no (g_tf g97 rfl) (cv_put [] rfl (cv_refl _))
      refine steps_cons rfl ?_ ?_
      · intro val
        refine X_start (s := [(36, val 14), (0, .bool false), (1, .pointer (some ⟨B6, 0, none⟩)), (2, .pointer (some ⟨B12, 0, none⟩))]) (L := [pureC ((val 14) = .bool b22)] ++ (pantomimelaw19_goes_C3 B12 A11 n11 c11 y8 y9 A10 n10 c10 A7 n7 c7 B6 A4 n4 c4 A5 n5 c5 y1 y2 A3 n3 c3)) (A := fun u => [pureC (u = undef)]) ?_ rfl rfl rfl
        generalize val 14 = u14
        refine X_pure 0 rfl ?_
        rintro rfl
        exact X_no (g_tf g97 rfl) (cv_put [] rfl (cv_refl _))
      refine steps_cons rfl ?_ ?_
      · intro val
        refine X_start (s := [(36, val 14), (0, .bool false), (1, .pointer (some ⟨B6, 0, none⟩)), (2, .pointer (some ⟨B12, 0, none⟩))]) (L := [pureC ((val 14) = .bool b22)] ++ (pantomimelaw19_goes_C3 B12 A11 n11 c11 y8 y9 A10 n10 c10 A7 n7 c7 B6 A4 n4 c4 A5 n5 c5 y1 y2 A3 n3 c3)) (A := fun u => [pureC (u = undef)]) ?_ rfl rfl rfl
        generalize val 14 = u14
        refine X_pure 0 rfl ?_
        rintro rfl
        exact X_no (g_tf g97 rfl) (cv_put [] rfl (cv_refl _))
      refine steps_cons rfl ?_ ?_
      · intro val
        refine X_start (s := [(36, val 14), (0, .bool false), (1, .pointer (some ⟨B6, 0, none⟩)), (2, .pointer (some ⟨B12, 0, none⟩))]) (L := [pureC ((val 14) = .bool b22)] ++ (pantomimelaw19_goes_C3 B12 A11 n11 c11 y8 y9 A10 n10 c10 A7 n7 c7 B6 A4 n4 c4 A5 n5 c5 y1 y2 A3 n3 c3)) (A := fun u => [pureC (u = undef)]) ?_ rfl rfl rfl
        generalize val 14 = u14
        refine X_pure 0 rfl ?_
        rintro rfl
        exact X_no (g_tf g97 rfl) (cv_put [] rfl (cv_refl _))
      refine steps_cons rfl ?_ ?_
      · intro val
        refine X_start (s := [(36, val 14), (0, .bool false), (1, .pointer (some ⟨B6, 0, none⟩)), (2, .pointer (some ⟨B12, 0, none⟩))]) (L := [pureC ((val 14) = .bool b22)] ++ (pantomimelaw19_goes_C3 B12 A11 n11 c11 y8 y9 A10 n10 c10 A7 n7 c7 B6 A4 n4 c4 A5 n5 c5 y1 y2 A3 n3 c3)) (A := fun u => [pureC (u = undef)]) ?_ rfl rfl rfl
        generalize val 14 = u14
        refine X_pure 0 rfl ?_
        rintro rfl
        exact X_no (g_tf g97 rfl) (cv_put [] rfl (cv_refl _))
      refine steps_cons rfl ?_ ?_
      · intro val
        refine X_start (s := [(36, val 14), (0, .bool false), (1, .pointer (some ⟨B6, 0, none⟩)), (2, .pointer (some ⟨B12, 0, none⟩))]) (L := [pureC ((val 14) = .bool b22)] ++ (pantomimelaw19_goes_C3 B12 A11 n11 c11 y8 y9 A10 n10 c10 A7 n7 c7 B6 A4 n4 c4 A5 n5 c5 y1 y2 A3 n3 c3)) (A := fun u => [pureC (u = undef)]) ?_ rfl rfl rfl
        generalize val 14 = u14
        refine X_pure 0 rfl ?_
        rintro rfl
        exact X_no (g_tf g97 rfl) (cv_put [] rfl (cv_refl _))
      refine steps_cons rfl ?_ ?_
      · intro val
        refine X_start (s := [(35, val 13), (0, .bool false), (1, .pointer (some ⟨B6, 0, none⟩)), (2, .pointer (some ⟨B12, 0, none⟩))]) (L := [pureC ((val 13) = .bool b22)] ++ (pantomimelaw19_goes_C3 B12 A11 n11 c11 y8 y9 A10 n10 c10 A7 n7 c7 B6 A4 n4 c4 A5 n5 c5 y1 y2 A3 n3 c3)) (A := fun u => [pureC (u = .bool b22)]) ?_ rfl rfl rfl
        generalize val 13 = u13
        refine X_pure 0 rfl ?_
        rintro rfl
        exact X_ev (ev_move rfl) rfl (cv_put [] rfl (cv_refl _))
      refine steps_cons rfl ?_ ?_
      · intro val
        refine X_start (s := [(28, val 6), (34, val 12), (0, .bool false), (1, .pointer (some ⟨B6, 0, none⟩)), (2, .pointer (some ⟨B12, 0, none⟩))]) (L := [pureC ((val 6) = .bool y21), pureC ((val 12) = undef)] ++ (pantomimelaw19_goes_C3 B12 A11 n11 c11 y8 y9 A10 n10 c10 A7 n7 c7 B6 A4 n4 c4 A5 n5 c5 y1 y2 A3 n3 c3)) (A := fun u => [pureC (u = .bool b22)]) ?_ rfl rfl rfl
        generalize val 6 = u6
        generalize val 12 = u12
        refine X_pure 0 rfl ?_
        rintro rfl
        refine X_pure 1 rfl ?_
        rintro rfl
        exact X_ev (ev_pick_f' g22 rfl rfl) rfl (cv_put [] (by rw [hb22]) (cv_refl _))
      refine steps_cons rfl ?_ ?_
      · intro val
        refine X_start (s := [(28, val 6), (0, .bool false), (1, .pointer (some ⟨B6, 0, none⟩)), (2, .pointer (some ⟨B12, 0, none⟩))]) (L := [pureC ((val 6) = .bool y21)] ++ (pantomimelaw19_goes_C3 B12 A11 n11 c11 y8 y9 A10 n10 c10 A7 n7 c7 B6 A4 n4 c4 A5 n5 c5 y1 y2 A3 n3 c3)) (A := fun u => [pureC (u = undef)]) ?_ rfl rfl rfl
        generalize val 6 = u6
        refine X_pure 0 rfl ?_
        rintro rfl
        exact X_no (g_tf g22 rfl) (cv_put [] rfl (cv_refl _))
      refine steps_cons rfl ?_ ?_
      · intro val
        refine X_start (s := [(28, val 6), (0, .bool false), (1, .pointer (some ⟨B6, 0, none⟩)), (2, .pointer (some ⟨B12, 0, none⟩))]) (L := [pureC ((val 6) = .bool y21)] ++ (pantomimelaw19_goes_C3 B12 A11 n11 c11 y8 y9 A10 n10 c10 A7 n7 c7 B6 A4 n4 c4 A5 n5 c5 y1 y2 A3 n3 c3)) (A := fun u => [pureC (u = undef)]) ?_ rfl rfl rfl
        generalize val 6 = u6
        refine X_pure 0 rfl ?_
        rintro rfl
        exact X_no (g_tf g22 rfl) (cv_put [] rfl (cv_refl _))
      refine steps_cons rfl ?_ ?_
      · intro val
        refine X_start (s := [(28, val 6), (0, .bool false), (1, .pointer (some ⟨B6, 0, none⟩)), (2, .pointer (some ⟨B12, 0, none⟩))]) (L := [pureC ((val 6) = .bool y21)] ++ (pantomimelaw19_goes_C3 B12 A11 n11 c11 y8 y9 A10 n10 c10 A7 n7 c7 B6 A4 n4 c4 A5 n5 c5 y1 y2 A3 n3 c3)) (A := fun u => [pureC (u = undef)]) ?_ rfl rfl rfl
        generalize val 6 = u6
        refine X_pure 0 rfl ?_
        rintro rfl
        exact X_no (g_tf g22 rfl) (cv_put [] rfl (cv_refl _))
      refine steps_cons rfl ?_ ?_
      · intro val
        refine X_start (s := [(28, val 6), (0, .bool false), (1, .pointer (some ⟨B6, 0, none⟩)), (2, .pointer (some ⟨B12, 0, none⟩))]) (L := [pureC ((val 6) = .bool y21)] ++ (pantomimelaw19_goes_C3 B12 A11 n11 c11 y8 y9 A10 n10 c10 A7 n7 c7 B6 A4 n4 c4 A5 n5 c5 y1 y2 A3 n3 c3)) (A := fun u => [pureC (u = undef)]) ?_ rfl rfl rfl
        generalize val 6 = u6
        refine X_pure 0 rfl ?_
        rintro rfl
        exact X_no (g_tf g22 rfl) (cv_put [] rfl (cv_refl _))
      refine steps_cons rfl ?_ ?_
      · intro val
        refine X_start (s := [(28, val 6), (0, .bool false), (1, .pointer (some ⟨B6, 0, none⟩)), (2, .pointer (some ⟨B12, 0, none⟩))]) (L := [pureC ((val 6) = .bool y21)] ++ (pantomimelaw19_goes_C3 B12 A11 n11 c11 y8 y9 A10 n10 c10 A7 n7 c7 B6 A4 n4 c4 A5 n5 c5 y1 y2 A3 n3 c3)) (A := fun u => [pureC (u = undef)]) ?_ rfl rfl rfl
        generalize val 6 = u6
        refine X_pure 0 rfl ?_
        rintro rfl
        exact X_no (g_tf g22 rfl) (cv_put [] rfl (cv_refl _))
      refine steps_cons rfl ?_ ?_
      · intro val
        refine X_start (s := [(28, val 6), (0, .bool false), (1, .pointer (some ⟨B6, 0, none⟩)), (2, .pointer (some ⟨B12, 0, none⟩))]) (L := [pureC ((val 6) = .bool y21)] ++ (pantomimelaw19_goes_C3 B12 A11 n11 c11 y8 y9 A10 n10 c10 A7 n7 c7 B6 A4 n4 c4 A5 n5 c5 y1 y2 A3 n3 c3)) (A := fun u => [pureC (u = undef)]) ?_ rfl rfl rfl
        generalize val 6 = u6
        refine X_pure 0 rfl ?_
        rintro rfl
        exact X_no (g_tf g22 rfl) (cv_put [] rfl (cv_refl _))
      refine steps_cons rfl ?_ ?_
      · intro val
        refine X_start (s := [(27, val 5), (0, .bool false), (1, .pointer (some ⟨B6, 0, none⟩)), (2, .pointer (some ⟨B12, 0, none⟩))]) (L := [pureC ((val 5) = .bool y21)] ++ (pantomimelaw19_goes_C3 B12 A11 n11 c11 y8 y9 A10 n10 c10 A7 n7 c7 B6 A4 n4 c4 A5 n5 c5 y1 y2 A3 n3 c3)) (A := fun u => [pureC (u = .bool y21)]) ?_ rfl rfl rfl
        generalize val 5 = u5
        refine X_pure 0 rfl ?_
        rintro rfl
        exact X_ev (ev_move rfl) rfl (cv_put [] rfl (cv_refl _))
      refine steps_cons rfl ?_ ?_
      · intro val
        refine X_start (s := [(25, val 3), (26, val 4), (0, .bool false), (1, .pointer (some ⟨B6, 0, none⟩)), (2, .pointer (some ⟨B12, 0, none⟩))]) (L := [pureC (∃ (A18 : Option Addr) (n18 : Nat) (c18 : Nat), (val 3) = .slice A18 n18 c18), ownC (rInt .i64) 3 (val 3) y16, pureC (∃ (A20 : Option Addr) (n20 : Nat) (c20 : Nat), (val 4) = .slice A20 n20 c20), ownC (rInt .i64) 3 (val 4) ([1, 3, 2] : List Int)] ++ (pantomimelaw19_goes_C3 B12 A11 n11 c11 y8 y9 A10 n10 c10 A7 n7 c7 B6 A4 n4 c4 A5 n5 c5 y1 y2 A3 n3 c3)) (A := fun u => [pureC (u = .bool y21)]) ?_ rfl rfl rfl
        generalize val 3 = u3
        generalize val 4 = u4
        refine X_pure 0 rfl ?_
        rintro ⟨A18, n18, c18, rfl⟩
        refine X_pure 2 rfl ?_
        rintro ⟨A20, n20, c20, rfl⟩
        refine X_op (op_callR (pantomimeref19_Same_ok hy21) call25 rfl (mem_cons (lent_own (i := 1) rfl) (mem_cons (lent_own (i := 3) rfl) mem_nil)) pantomimeref19_Same_free) rfl ?_
        rintro _ _ ⟨_, ⟨rfl, rfl⟩, rfl⟩
        exact cv_put [] rfl (cv_refl _)
      refine steps_cons rfl ?_ ?_
      · intro val
        refine X_start (s := [(0, .bool false), (1, .pointer (some ⟨B6, 0, none⟩)), (2, .pointer (some ⟨B12, 0, none⟩))]) (L := [] ++ (pantomimelaw19_goes_C3 B12 A11 n11 c11 y8 y9 A10 n10 c10 A7 n7 c7 B6 A4 n4 c4 A5 n5 c5 y1 y2 A3 n3 c3)) (A := fun u => [pureC (∃ (A20 : Option Addr) (n20 : Nat) (c20 : Nat), u = .slice A20 n20 c20), ownC (rInt .i64) 3 u ([1, 3, 2] : List Int)]) ?_ rfl rfl rfl
        refine X_op (op_bslice (R := (rInt .i64)) (vss := [[.int .i64 1], [.int .i64 3], [.int .i64 2]]) (xs := [1, 3, 2]) rfl (bsl_31_3 _ _ _) rfl rfl (fun _ _ hr => .cons rfl (.cons rfl (.cons rfl All2.nil)))) rfl ?_
        rintro _ _ ⟨A19, n19, c19, rfl, rfl⟩
        exact cv_put [ownC (rInt .i64) 3 (.slice A19 n19 c19) ([1, 3, 2] : List Int)] ⟨_, _, _, rfl⟩ (cv_refl _)
      refine steps_cons rfl ?_ ?_
      · intro val
        refine X_start (s := [(22, val 0), (24, val 2), (0, .bool false), (1, .pointer (some ⟨B6, 0, none⟩)), (2, .pointer (some ⟨B12, 0, none⟩))]) (L := [pureC ((val 0) = .agg #[.slice A4 n4 c4, .slice A5 n5 c5]), pureC (∃ (A15 : Option Addr) (n15 : Nat) (c15 : Nat), (val 2) = .slice A15 n15 c15), ownC rDValue 38 (val 2) ([y13] : List DValue)] ++ (pantomimelaw19_goes_C3 B12 A11 n11 c11 y8 y9 A10 n10 c10 A7 n7 c7 B6 A4 n4 c4 A5 n5 c5 y1 y2 A3 n3 c3)) (A := fun u => [pureC (∃ (A18 : Option Addr) (n18 : Nat) (c18 : Nat), u = .slice A18 n18 c18), ownC (rInt .i64) 3 u y16]) ?_ rfl rfl rfl
        generalize val 0 = u0
        generalize val 2 = u2
        refine X_pure 0 rfl ?_
        rintro rfl
        refine X_pure 1 rfl ?_
        rintro ⟨A15, n15, c15, rfl⟩
        refine X_op (op_callR (reach_Order_ok hy16) call23 rfl (mem_cons (lent_own (i := 9) rfl) (mem_cons (lent_own (i := 8) rfl) (mem_cons (lent_own (i := 2) rfl) mem_nil))) reach_Order_free) rfl ?_
        rintro _ _ ⟨_, ⟨A17, n17, c17, rfl, rfl⟩, rfl⟩
        exact cv_put [ownC (rInt .i64) 3 (.slice A17 n17 c17) y16] ⟨_, _, _, rfl⟩ (cv_refl _)
      refine steps_cons rfl ?_ ?_
      · intro val
        refine X_start (s := [(23, val 1), (0, .bool false), (1, .pointer (some ⟨B6, 0, none⟩)), (2, .pointer (some ⟨B12, 0, none⟩))]) (L := [pureC ((val 1) = .agg #[.int .i64 y13.Kind, .int .i64 y13.N, .string y13.S])] ++ (pantomimelaw19_goes_C3 B12 A11 n11 c11 y8 y9 A10 n10 c10 A7 n7 c7 B6 A4 n4 c4 A5 n5 c5 y1 y2 A3 n3 c3)) (A := fun u => [pureC (∃ (A15 : Option Addr) (n15 : Nat) (c15 : Nat), u = .slice A15 n15 c15), ownC rDValue 38 u ([y13] : List DValue)]) ?_ rfl rfl rfl
        generalize val 1 = u1
        refine X_pure 0 rfl ?_
        rintro rfl
        refine X_op (op_bslice (R := rDValue) (vss := [[.int .i64 y13.Kind, .int .i64 y13.N, .string y13.S]]) (xs := [y13]) rfl (bsl_25_1 _ _ _) rfl rfl (fun _ _ hr => .cons rfl All2.nil)) rfl ?_
        rintro _ _ ⟨A14, n14, c14, rfl, rfl⟩
        exact cv_put [ownC rDValue 38 (.slice A14 n14 c14) ([y13] : List DValue)] ⟨_, _, _, rfl⟩ (cv_refl _)
      refine steps_cons rfl ?_ ?_
      · intro val
        refine X_start (s := [(0, .bool false), (1, .pointer (some ⟨B6, 0, none⟩)), (2, .pointer (some ⟨B12, 0, none⟩))]) (L := [] ++ (pantomimelaw19_goes_C3 B12 A11 n11 c11 y8 y9 A10 n10 c10 A7 n7 c7 B6 A4 n4 c4 A5 n5 c5 y1 y2 A3 n3 c3)) (A := fun u => [pureC (u = .agg #[.int .i64 y13.Kind, .int .i64 y13.N, .string y13.S])]) ?_ rfl rfl rfl
        refine X_op (op_callR (pantomimelaw19_object_ok hy13) call47 rfl (mem_nil) pantomimelaw19_object_free) rfl ?_
        rintro _ _ ⟨_, ⟨rfl, rfl⟩, rfl⟩
        exact cv_put [] rfl (cv_refl _)
      refine steps_cons rfl ?_ ?_
      · intro val
        refine X_start (s := [(0, .bool false), (1, .pointer (some ⟨B6, 0, none⟩)), (2, .pointer (some ⟨B12, 0, none⟩))]) (L := [] ++ (pantomimelaw19_goes_C3 B12 A11 n11 c11 y8 y9 A10 n10 c10 A7 n7 c7 B6 A4 n4 c4 A5 n5 c5 y1 y2 A3 n3 c3)) (A := fun u => [pureC (u = .agg #[.slice A4 n4 c4, .slice A5 n5 c5])]) ?_ rfl rfl rfl
        exact X_rd (rd_boxS (us := [.slice A4 n4 c4, .slice A5 n5 c5]) 4 rfl rfl agg24 rfl) rfl (cv_put [] rfl (cv_refl _))
      exact steps_nil
    · intro val
      show TkN _ _ _ _ _ [(22, val 0), (23, val 1), (24, val 2), (25, val 3), (26, val 4), (27, val 5), (28, val 6), (29, val 7), (30, val 8), (31, val 9), (32, val 10), (33, val 11), (34, val 12), (35, val 13), (36, val 14), (37, val 15), (38, val 16), (39, val 17), (40, val 18), (41, val 19), (42, val 20), (43, val 21), (44, val 22), (45, val 23), (46, val 24), (47, val 25), (48, val 26), (49, val 27), (50, val 28), (51, val 29), (52, val 30), (53, val 31), (54, val 32), (55, val 33), (56, val 34), (57, val 35), (58, val 36), (59, val 37), (60, val 38), (61, val 39), (0, .bool false), (1, .pointer (some ⟨B6, 0, none⟩)), (2, .pointer (some ⟨B12, 0, none⟩))] ([pureC ((val 0) = .agg #[.slice A4 n4 c4, .slice A5 n5 c5]), pureC ((val 1) = .agg #[.int .i64 y13.Kind, .int .i64 y13.N, .string y13.S]), pureC (∃ (A15 : Option Addr) (n15 : Nat) (c15 : Nat), (val 2) = .slice A15 n15 c15), ownC rDValue 38 (val 2) ([y13] : List DValue), pureC (∃ (A18 : Option Addr) (n18 : Nat) (c18 : Nat), (val 3) = .slice A18 n18 c18), ownC (rInt .i64) 3 (val 3) y16, pureC (∃ (A20 : Option Addr) (n20 : Nat) (c20 : Nat), (val 4) = .slice A20 n20 c20), ownC (rInt .i64) 3 (val 4) ([1, 3, 2] : List Int), pureC ((val 5) = .bool y21), pureC ((val 6) = .bool y21), pureC ((val 7) = undef), pureC ((val 8) = undef), pureC ((val 9) = undef), pureC ((val 10) = undef), pureC ((val 11) = undef), pureC ((val 12) = undef), pureC ((val 13) = .bool b22), pureC ((val 14) = .bool b22), pureC ((val 15) = undef), pureC ((val 16) = undef), pureC ((val 17) = undef), pureC ((val 18) = undef), pureC ((val 19) = undef), pureC ((val 20) = undef), pureC ((val 21) = .bool b97), pureC ((val 22) = .bool b97), pureC ((val 23) = undef), pureC ((val 24) = undef), pureC ((val 25) = undef), pureC ((val 26) = undef), pureC ((val 27) = undef), pureC ((val 28) = undef), pureC ((val 29) = undef), pureC ((val 30) = .bool b98), pureC ((val 31) = .bool b98), pureC ((val 32) = undef), pureC ((val 33) = undef), pureC ((val 34) = undef), pureC ((val 35) = undef), pureC ((val 36) = undef), pureC ((val 37) = undef), pureC ((val 38) = undef), pureC ((val 39) = .bool b99)] ++ (pantomimelaw19_goes_C3 B12 A11 n11 c11 y8 y9 A10 n10 c10 A7 n7 c7 B6 A4 n4 c4 A5 n5 c5 y1 y2 A3 n3 c3))
      generalize val 0 = u0
      generalize val 1 = u1
      generalize val 2 = u2
      generalize val 3 = u3
      generalize val 4 = u4
      generalize val 5 = u5
      generalize val 6 = u6
      generalize val 7 = u7
      generalize val 8 = u8
      generalize val 9 = u9
      generalize val 10 = u10
      generalize val 11 = u11
      generalize val 12 = u12
      generalize val 13 = u13
      generalize val 14 = u14
      generalize val 15 = u15
      generalize val 16 = u16
      generalize val 17 = u17
      generalize val 18 = u18
      generalize val 19 = u19
      generalize val 20 = u20
      generalize val 21 = u21
      generalize val 22 = u22
      generalize val 23 = u23
      generalize val 24 = u24
      generalize val 25 = u25
      generalize val 26 = u26
      generalize val 27 = u27
      generalize val 28 = u28
      generalize val 29 = u29
      generalize val 30 = u30
      generalize val 31 = u31
      generalize val 32 = u32
      generalize val 33 = u33
      generalize val 34 = u34
      generalize val 35 = u35
      generalize val 36 = u36
      generalize val 37 = u37
      generalize val 38 = u38
      generalize val 39 = u39
      refine N_pure 0 rfl ?_
      rintro rfl
      refine N_pure 1 rfl ?_
      rintro rfl
      refine N_pure 2 rfl ?_
      rintro ⟨A15, n15, c15, rfl⟩
      refine N_pure 4 rfl ?_
      rintro ⟨A18, n18, c18, rfl⟩
      refine N_pure 6 rfl ?_
      rintro ⟨A20, n20, c20, rfl⟩
      refine N_pure 8 rfl ?_
      rintro rfl
      refine N_pure 9 rfl ?_
      rintro rfl
      refine N_pure 10 rfl ?_
      rintro rfl
      refine N_pure 11 rfl ?_
      rintro rfl
      refine N_pure 12 rfl ?_
      rintro rfl
      refine N_pure 13 rfl ?_
      rintro rfl
      refine N_pure 14 rfl ?_
      rintro rfl
      refine N_pure 15 rfl ?_
      rintro rfl
      refine N_pure 16 rfl ?_
      rintro rfl
      refine N_pure 17 rfl ?_
      rintro rfl
      refine N_pure 18 rfl ?_
      rintro rfl
      refine N_pure 19 rfl ?_
      rintro rfl
      refine N_pure 20 rfl ?_
      rintro rfl
      refine N_pure 21 rfl ?_
      rintro rfl
      refine N_pure 22 rfl ?_
      rintro rfl
      refine N_pure 23 rfl ?_
      rintro rfl
      refine N_pure 24 rfl ?_
      rintro rfl
      refine N_pure 25 rfl ?_
      rintro rfl
      refine N_pure 26 rfl ?_
      rintro rfl
      refine N_pure 27 rfl ?_
      rintro rfl
      refine N_pure 28 rfl ?_
      rintro rfl
      refine N_pure 29 rfl ?_
      rintro rfl
      refine N_pure 30 rfl ?_
      rintro rfl
      refine N_pure 31 rfl ?_
      rintro rfl
      refine N_pure 32 rfl ?_
      rintro rfl
      refine N_pure 33 rfl ?_
      rintro rfl
      refine N_pure 34 rfl ?_
      rintro rfl
      refine N_pure 35 rfl ?_
      rintro rfl
      refine N_pure 36 rfl ?_
      rintro rfl
      refine N_pure 37 rfl ?_
      rintro rfl
      refine N_pure 38 rfl ?_
      rintro rfl
      refine N_pure 39 rfl ?_
      rintro rfl
      refine N_pure 40 rfl ?_
      rintro rfl
      refine N_pure 41 rfl ?_
      rintro rfl
      refine N_pure 42 rfl ?_
      rintro rfl
      refine N_sub (L' := [ownC rDValue 38 (.slice A15 n15 c15) ([y13] : List DValue), ownC (rInt .i64) 3 (.slice A18 n18 c18) y16, ownC (rInt .i64) 3 (.slice A20 n20 c20) ([1, 3, 2] : List Int), boxC B12 24 [.slice A11 n11 c11, .slice none 0 0], ownC rDCell 42 (.slice A11 n11 c11) ([(⟨8, 0, 0, 0, ([(⟨1, 0, ⟨#[]⟩⟩ : DValue)] : List DValue), ([y8, y9] : List DValue)⟩ : DCell), (⟨11, 0, 0, 0, [], []⟩ : DCell), (⟨11, 0, 0, 0, [], []⟩ : DCell)] : List DCell), slC rDValue (.slice A10 n10 c10) ([y8, y9] : List DValue), slC rDValue (.slice A7 n7 c7) ([(⟨1, 0, ⟨#[]⟩⟩ : DValue)] : List DValue), boxC B6 24 [.slice A4 n4 c4, .slice A5 n5 c5], ownC rDCell 42 (.slice A5 n5 c5) ([(⟨11, 0, 0, 0, [], []⟩ : DCell)] : List DCell), ownC rDCell 42 (.slice A4 n4 c4) ([(⟨11, 0, 0, 0, [], ([y1, y2] : List DValue)⟩ : DCell), (⟨11, 0, 0, 0, [], []⟩ : DCell)] : List DCell), slC rDValue (.slice A3 n3 c3) ([y1, y2] : List DValue)]) ?_ sub_refl (cv_sel [3, 5, 7, 43, 44, 45, 46, 47, 48, 49, 50] 51 rfl rfl)
      refine N_ev 40 rfl (by kernel_rfl) (ev_assign rfl) rfl rfl rfl ?_
      refine N_done (by kernel_rfl) ?_
      refine nx_n ?_
      refine G_ret ?_
      obtain rfl := Option.some.inj h
      exact endG1 rfl rfl (cv_sel [] 11 rfl rfl) ⟨rfl, rfl⟩
theorem pantomimelaw19_goes_free {r : Bool} : ∀ v post, ((fun (u : Value) (post : List Chunk) => u = .bool r ∧ post = [])) v post → ∀ c ∈ post, Free c := by
  rintro _ _ ⟨rfl, rfl⟩; exact mem_nil
/-! pantomime/pantomimeref19.Has -/
def pantomimeref19_Has_O (N : Nat) (a0 : DMemory) (a1 : Int) : Option Bool :=
  bif decide (a1 < 1) then (some false) else (bif decide (a1.tmod 2 = 1) then (req (in64 (a1 - 1)) (req (in64 ((a1 - 1).tdiv 2)) (some (decide ((a1 - 1).tdiv 2 < (a0.Young.length : Int)))))) else (req (in64 (a1 - 2)) (req (in64 ((a1 - 2).tdiv 2)) (some (decide ((a1 - 2).tdiv 2 < (a0.Old.length : Int)))))))
theorem pantomimeref19_Has_ok {N : Nat} {a0 : DMemory} {a1 : Int} {r : Bool} (h : pantomimeref19_Has_O N a0 a1 = some r) {A1 : Option Addr} {n1 c1 : Nat} {A2 : Option Addr} {n2 c2 : Nat} : Okc Try.prog 17 [.agg #[.slice A1 n1 c1, .slice A2 n2 c2], .int .i64 a1] ([slC rDCell (.slice A1 n1 c1) a0.Young, slC rDCell (.slice A2 n2 c2) a0.Old]) (fun (u : Value) (post : List Chunk) => u = .bool r ∧ post = []) := by
  refine ok_E Try.func17 rfl rfl ?_
  simp only [envOf]
  refine G_seq ?_
  refine G_region ?_
  refine G_opd (op_box rfl rfl) rfl rfl rfl ?_
  rintro _ _ ⟨B3, rfl, rfl⟩
  refine G_ev (ev_assign rfl) rfl rfl rfl ?_
  refine G_nil ?_
  refine nx_n ?_
  refine G_seq ?_
  refine G_seq ?_
  refine G_region ?_
  refine G_ev (ev_move rfl) rfl rfl rfl ?_
  refine G_ev (ev_lt rfl rfl) rfl rfl rfl ?_
  refine G_nil ?_
  refine nx_n ?_
  refine G_cond rfl (fun g4 => ?_) (fun g4 => ?_)
  · replace h := cond_t g4 h
    refine G_seq ?_
    refine G_region ?_
    refine G_ev (ev_assign rfl) rfl rfl rfl ?_
    refine G_nil ?_
    refine nx_n ?_
    refine G_ret ?_
    refine nx_r ?_
    obtain rfl := Option.some.inj h
    exact endG1 rfl rfl (cv_sel [] 3 rfl rfl) ⟨rfl, rfl⟩
  · replace h := cond_f g4 h
    refine G_skip ?_
    refine nx_n ?_
    refine G_seq ?_
    refine G_seq ?_
    refine G_region ?_
    refine G_ev (ev_move rfl) rfl rfl rfl ?_
    refine G_ev (ev_rem rfl rfl (by decide)) rfl rfl rfl ?_
    refine G_ev (ev_eq rfl rfl) rfl rfl rfl ?_
    refine G_nil ?_
    refine nx_n ?_
    refine G_cond rfl (fun g5 => ?_) (fun g5 => ?_)
    · replace h := cond_t g5 h
      refine G_seq ?_
      refine G_region ?_
      refine G_ev (ev_move rfl) rfl rfl rfl ?_
      obtain ⟨q6, h⟩ := req_elim h
      refine G_ev (ev_sub rfl rfl q6.1 q6.2) rfl rfl rfl ?_
      obtain ⟨q7, h⟩ := req_elim h
      refine G_ev (ev_quo rfl rfl (by decide) q7.1 q7.2) rfl rfl rfl ?_
      refine G_ev (ev_fa0 rfl fa_24_0) rfl rfl rfl ?_
      refine G_rd (rd_box1 0 rfl rfl one22 rfl) rfl rfl rfl ?_
      refine G_rd (rd_len 1 rfl els_sl rfl Try.underlying22) rfl rfl rfl ?_
      refine G_ev (ev_lt rfl rfl) rfl rfl rfl ?_
      refine G_ev (ev_assign rfl) rfl rfl rfl ?_
      refine G_nil ?_
      refine nx_n ?_
      refine G_ret ?_
      refine nx_r ?_
      obtain rfl := Option.some.inj h
      exact endG1 rfl rfl (cv_sel [] 3 rfl rfl) ⟨rfl, rfl⟩
    · replace h := cond_f g5 h
      refine G_skip ?_
      refine nx_n ?_
      refine G_seq ?_
      refine G_region ?_
      refine G_ev (ev_move rfl) rfl rfl rfl ?_
      obtain ⟨q8, h⟩ := req_elim h
      refine G_ev (ev_sub rfl rfl q8.1 q8.2) rfl rfl rfl ?_
      obtain ⟨q9, h⟩ := req_elim h
      refine G_ev (ev_quo rfl rfl (by decide) q9.1 q9.2) rfl rfl rfl ?_
      refine G_ev (ev_fa rfl fa_24_1) rfl rfl rfl ?_
      refine G_rd (rd_box1 0 rfl rfl one22 rfl) rfl rfl rfl ?_
      refine G_rd (rd_len 2 rfl els_sl rfl Try.underlying22) rfl rfl rfl ?_
      refine G_ev (ev_lt rfl rfl) rfl rfl rfl ?_
      refine G_ev (ev_assign rfl) rfl rfl rfl ?_
      refine G_nil ?_
      refine nx_n ?_
      refine G_ret ?_
      obtain rfl := Option.some.inj h
      exact endG1 rfl rfl (cv_sel [] 3 rfl rfl) ⟨rfl, rfl⟩
theorem pantomimeref19_Has_free {r : Bool} : ∀ v post, ((fun (u : Value) (post : List Chunk) => u = .bool r ∧ post = [])) v post → ∀ c ∈ post, Free c := by
  rintro _ _ ⟨rfl, rfl⟩; exact mem_nil
/-! pantomime/pantomimeref19.In -/
def pantomimeref19_In_j2 (N : Nat) : Option Bool :=
  some false
def pantomimeref19_In_l3 (N : Nat) (a1 : Int) (a0 : (List Int)) : Nat → Int → Option Bool
  | 0, _ => none
  | m3 + 1, p4 => bif decide (p4 < (a0.length : Int)) then ((getE a0 p4).bind fun x6 => bif decide (x6 = a1) then (some true) else (req (in64 (p4 + 1)) ((pantomimeref19_In_l3 N a1 a0 m3) (p4 + 1)))) else (pantomimeref19_In_j2 N)
theorem pantomimeref19_In_l3_s {N m3 : Nat} {a1 : Int} {a0 : (List Int)} {p4 : Int} : pantomimeref19_In_l3 N a1 a0 (m3 + 1) p4 = bif decide (p4 < (a0.length : Int)) then ((getE a0 p4).bind fun x6 => bif decide (x6 = a1) then (some true) else (req (in64 (p4 + 1)) ((pantomimeref19_In_l3 N a1 a0 m3) (p4 + 1)))) else (pantomimeref19_In_j2 N) := rfl
def pantomimeref19_In_O (N : Nat) (a0 : (List Int)) (a1 : Int) : Option Bool :=
  pantomimeref19_In_l3 N a1 a0 N 0
theorem pantomimeref19_In_ok {N : Nat} {a0 : (List Int)} {a1 : Int} {r : Bool} (h : pantomimeref19_In_O N a0 a1 = some r) {A1 : Option Addr} {n1 c1 : Nat} : Okc Try.prog 18 [.slice A1 n1 c1, .int .i64 a1] ([slC (rInt .i64) (.slice A1 n1 c1) a0]) (fun (u : Value) (post : List Chunk) => u = .bool r ∧ post = []) := by
  refine ok_E Try.func18 rfl rfl ?_
  simp only [envOf]
  refine G_seq ?_
  refine G_region ?_
  refine G_ev (ev_assign rfl) rfl rfl rfl ?_
  refine G_nil ?_
  refine nx_n ?_
  refine G_joinF (fun s L => pantomimeref19_In_j2 N = some r ∧ s = [(4, .bool false)] ∧ L = []) ?_ ?_
  · refine G_seq ?_
    refine G_region ?_
    refine G_ev (ev_assign rfl) rfl rfl rfl ?_
    refine G_nil ?_
    refine nx_n ?_
    refine G_block ?_
    refine G_loopF (fun m s L => ∃ (p4 : Int), pantomimeref19_In_l3 N a1 a0 m p4 = some r ∧ s = [(0, .slice A1 n1 c1), (1, .int .i64 a1), (4, .bool false), (5, .int .i64 p4)] ∧ L = [slC (rInt .i64) (.slice A1 n1 c1) a0]) N _ _ ⟨0, h, rfl, rfl⟩ (sub_cons rfl (sub_cons rfl (sub_cons rfl (sub_cons rfl sub_nil)))) (cv_sel [0] 1 rfl rfl) ?_
    rintro (_ | m3) _ _ ⟨p4, h, rfl, rfl⟩
    · exact none_some h
    rw [pantomimeref19_In_l3_s] at h
    refine G_seq ?_
    refine G_seq ?_
    refine G_region ?_
    refine G_ev (ev_move rfl) rfl rfl rfl ?_
    refine G_ev (ev_move rfl) rfl rfl rfl ?_
    refine G_rd (rd_len 0 rfl els_sl rfl Try.underlying31) rfl rfl rfl ?_
    refine G_ev (ev_lt rfl rfl) rfl rfl rfl ?_
    refine G_nil ?_
    refine nx_n ?_
    refine G_cond rfl (fun g5 => ?_) (fun g5 => ?_)
    · replace h := cond_t g5 h
      refine G_skip ?_
      refine nx_n ?_
      refine G_seq ?_
      refine G_block ?_
      refine G_seq ?_
      refine G_region ?_
      refine G_ev (ev_move rfl) rfl rfl rfl ?_
      refine G_ev (ev_move rfl) rfl rfl rfl ?_
      obtain ⟨x6, hx6, h⟩ := bind_elim h
      obtain ⟨lx6, ux6, hx6⟩ := getE_elim hx6
      refine G_rd (rd_idx 0 rfl els_sl rfl rfl Try.underlying31 size3 lx6 ux6) rfl rfl rfl ?_
      refine G_rd (rd_elem1 (u := .int .i64 x6) 0 rfl els_sl rfl hx6 one3 (fun _ _ _ h => by rw [show _ = _ from h]; rfl)) rfl rfl rfl ?_
      refine G_ev (ev_move rfl) rfl rfl rfl ?_
      refine G_ev (ev_eq rfl rfl) rfl rfl rfl ?_
      refine G_nil ?_
      refine nx_n ?_
      refine G_cond rfl (fun g7 => ?_) (fun g7 => ?_)
      · replace h := cond_t g7 h
        refine G_seq ?_
        refine G_region ?_
        refine G_ev (ev_assign rfl) rfl rfl rfl ?_
        refine G_nil ?_
        refine nx_n ?_
        refine G_ret ?_
        refine bk_r ?_
        refine nx_r ?_
        refine nx_r ?_
        refine bk_r ?_
        refine nx_r ?_
        obtain rfl := Option.some.inj h
        exact endG1 rfl rfl (cv_sel [] 1 rfl rfl) ⟨rfl, rfl⟩
      · replace h := cond_f g7 h
        refine G_skip ?_
        refine bk_n ?_
        refine nx_n ?_
        refine G_region ?_
        refine G_ev (ev_move rfl) rfl rfl rfl ?_
        obtain ⟨q8, h⟩ := req_elim h
        refine G_ev (ev_add rfl rfl q8.1 q8.2) rfl rfl rfl ?_
        refine G_ev (ev_assign rfl) rfl rfl rfl ?_
        refine G_nil ?_
        refine nx_n ?_
        exact ⟨m3, _, _, Nat.lt_succ_self _, ⟨p4 + 1, h, rfl, rfl⟩, sub_cons rfl (sub_cons rfl (sub_cons rfl (sub_cons rfl sub_nil))), cv_sel [0] 1 rfl rfl⟩
    · replace h := cond_f g5 h
      refine G_exit ?_
      refine nx_e ?_
      refine nx_e ?_
      refine bk_x ?_
      refine nx_n ?_
      exact ⟨_, _, ⟨h, rfl, rfl⟩, sub_cons rfl sub_nil, cv_sel [] 1 rfl rfl⟩
  · rintro _ _ ⟨h, rfl, rfl⟩
    refine G_seq ?_
    refine G_region ?_
    refine G_ev (ev_assign rfl) rfl rfl rfl ?_
    refine G_nil ?_
    refine nx_n ?_
    refine G_ret ?_
    obtain rfl := Option.some.inj h
    exact endG1 rfl rfl (cv_sel [] 0 rfl rfl) ⟨rfl, rfl⟩
theorem pantomimeref19_In_free {r : Bool} : ∀ v post, ((fun (u : Value) (post : List Chunk) => u = .bool r ∧ post = [])) v post → ∀ c ∈ post, Free c := by
  rintro _ _ ⟨rfl, rfl⟩; exact mem_nil
/-! pantomime/pantomimeref19.At -/
def pantomimeref19_At_O (N : Nat) (a0 : DMemory) (a1 : Int) : Option DCell :=
  (pantomimeref19_Has_O N a0 a1).bind fun y5 => bif !y5 then (some (⟨0, 0, 0, 0, [], []⟩ : DCell)) else (bif decide (a1.tmod 2 = 1) then (req (in64 (a1 - 1)) (req (in64 ((a1 - 1).tdiv 2)) ((getE a0.Young ((a1 - 1).tdiv 2)).bind fun x12 => some x12))) else (req (in64 (a1 - 2)) (req (in64 ((a1 - 2).tdiv 2)) ((getE a0.Old ((a1 - 2).tdiv 2)).bind fun x18 => some x18))))
theorem pantomimeref19_At_ok {N : Nat} {a0 : DMemory} {a1 : Int} {r : DCell} (h : pantomimeref19_At_O N a0 a1 = some r) {A1 : Option Addr} {n1 c1 : Nat} {A2 : Option Addr} {n2 c2 : Nat} : Okc Try.prog 19 [.agg #[.slice A1 n1 c1, .slice A2 n2 c2], .int .i64 a1] ([slC rDCell (.slice A1 n1 c1) a0.Young, slC rDCell (.slice A2 n2 c2) a0.Old]) (fun (u : Value) (post : List Chunk) => ∃ A0 n0 c0 A1 n1 c1, u = .agg #[.int .i64 r.Kind, .int .i64 r.Shape, .int .i64 r.Flags, .int .i64 r.Age, .slice A0 n0 c0, .slice A1 n1 c1] ∧ post = [slC rDValue (.slice A0 n0 c0) r.Slots, slC rDValue (.slice A1 n1 c1) r.More]) := by
  refine ok_E Try.func19 rfl rfl ?_
  simp only [envOf]
  refine G_seq ?_
  refine G_region ?_
  refine G_opd (op_box rfl rfl) rfl rfl rfl ?_
  rintro _ _ ⟨B3, rfl, rfl⟩
  refine G_opd (op_alloc zero42 rfl) rfl rfl rfl ?_
  rintro _ _ ⟨B4, rfl, rfl⟩
  refine G_nil ?_
  refine nx_n ?_
  refine G_seq ?_
  refine G_seq ?_
  refine G_region ?_
  refine G_rd (rd_boxS (us := [.slice A1 n1 c1, .slice A2 n2 c2]) 1 rfl rfl agg24 rfl) rfl rfl rfl ?_
  refine G_ev (ev_move rfl) rfl rfl rfl ?_
  obtain ⟨y5, hy5, h⟩ := bind_elim h
  refine G_opd (op_callR (pantomimeref19_Has_ok hy5) call17 rfl (mem_cons (lent_ro (i := 2) rfl rfl) (mem_cons (lent_ro (i := 3) rfl rfl) mem_nil)) pantomimeref19_Has_free) rfl rfl rfl ?_
  rintro _ _ ⟨_, ⟨rfl, rfl⟩, rfl⟩
  refine G_ev (ev_not rfl) rfl rfl rfl ?_
  refine G_nil ?_
  refine nx_n ?_
  refine G_cond rfl (fun g6 => ?_) (fun g6 => ?_)
  · replace h := cond_t g6 h
    refine G_seq ?_
    refine G_region ?_
    refine G_ev (ev_build rfl (bld_42_)) rfl rfl rfl ?_
    refine G_opn (op_store (us := [.int .i64 0, .int .i64 0, .int .i64 0, .int .i64 0, .slice none 0 0, .slice none 0 0]) (cs' := [.int .i64 0, .int .i64 0, .int .i64 0, .int .i64 0, .slice none 0 0, .slice none 0 0]) 0 rfl rfl rfl rfl size42 rfl rfl rfl) rfl rfl ?_
    rintro _ _ rfl
    refine G_norm ([boxC B4 42 [.int .i64 0, .int .i64 0, .int .i64 0, .int .i64 0, .slice none 0 0, .slice none 0 0], boxC B3 24 [.slice A1 n1 c1, .slice A2 n2 c2], slC rDCell (.slice A1 n1 c1) a0.Young, slC rDCell (.slice A2 n2 c2) a0.Old]) rfl ?_
    refine G_nil ?_
    refine nx_n ?_
    refine G_ret ?_
    refine nx_r ?_
    obtain rfl := Option.some.inj h
    exact endGl (rs := [.cell 4 42]) (vs := [.agg #[.int .i64 0, .int .i64 0, .int .i64 0, .int .i64 0, .slice none 0 0, .slice none 0 0]]) rfl (.cons (rv_boxS 0 rfl rfl agg42) .nil) rfl ((cv_nilS rDValue _).trans ((cv_nilS rDValue _).trans (cv_sel [1, 0] 6 rfl rfl))) ⟨_, _, _, _, _, _, rfl, rfl⟩
  · replace h := cond_f g6 h
    refine G_skip ?_
    refine nx_n ?_
    refine G_seq ?_
    refine G_seq ?_
    refine G_region ?_
    refine G_ev (ev_move rfl) rfl rfl rfl ?_
    refine G_ev (ev_rem rfl rfl (by decide)) rfl rfl rfl ?_
    refine G_ev (ev_eq rfl rfl) rfl rfl rfl ?_
    refine G_nil ?_
    refine nx_n ?_
    refine G_cond rfl (fun g9 => ?_) (fun g9 => ?_)
    · replace h := cond_t g9 h
      refine G_seq ?_
      refine G_region ?_
      refine G_ev (ev_fa0 rfl fa_24_0) rfl rfl rfl ?_
      refine G_rd (rd_box1 1 rfl rfl one22 rfl) rfl rfl rfl ?_
      refine G_ev (ev_move rfl) rfl rfl rfl ?_
      obtain ⟨q10, h⟩ := req_elim h
      refine G_ev (ev_sub rfl rfl q10.1 q10.2) rfl rfl rfl ?_
      obtain ⟨q11, h⟩ := req_elim h
      refine G_ev (ev_quo rfl rfl (by decide) q11.1 q11.2) rfl rfl rfl ?_
      obtain ⟨x12, hx12, h⟩ := bind_elim h
      obtain ⟨lx12, ux12, hx12⟩ := getE_elim hx12
      refine G_rd (rd_idx 2 rfl els_sl rfl rfl Try.underlying22 size42 lx12 ux12) rfl rfl rfl ?_
      refine G_row 2 rfl hx12 (open_DCell x12) ?_
      rintro _ _ ⟨A13, n13, c13, A14, n14, c14, rfl, rfl⟩
      refine G_rd (rd_rowS (us := [.int .i64 x12.Kind, .int .i64 x12.Shape, .int .i64 x12.Flags, .int .i64 x12.Age, .slice A13 n13 c13, .slice A14 n14 c14]) 0 rfl rfl agg42 rfl) rfl rfl rfl ?_
      refine G_opn (op_store (us := [.int .i64 x12.Kind, .int .i64 x12.Shape, .int .i64 x12.Flags, .int .i64 x12.Age, .slice A13 n13 c13, .slice A14 n14 c14]) (cs' := [.int .i64 x12.Kind, .int .i64 x12.Shape, .int .i64 x12.Flags, .int .i64 x12.Age, .slice A13 n13 c13, .slice A14 n14 c14]) 3 rfl rfl rfl rfl size42 rfl rfl rfl) rfl rfl ?_
      rintro _ _ rfl
      refine G_norm ([rowC (elemQ (.slice A1 n1 c1) (((a1 - 1).tdiv 2).toNat) 6 0) [.int .i64 x12.Kind, .int .i64 x12.Shape, .int .i64 x12.Flags, .int .i64 x12.Age, .slice A13 n13 c13, .slice A14 n14 c14], slC rDValue (.slice A13 n13 c13) x12.Slots, slC rDValue (.slice A14 n14 c14) x12.More, boxC B4 42 [.int .i64 x12.Kind, .int .i64 x12.Shape, .int .i64 x12.Flags, .int .i64 x12.Age, .slice A13 n13 c13, .slice A14 n14 c14], boxC B3 24 [.slice A1 n1 c1, .slice A2 n2 c2], slC rDCell (.slice A1 n1 c1) a0.Young, slC rDCell (.slice A2 n2 c2) a0.Old]) rfl ?_
      refine G_nil ?_
      refine nx_n ?_
      refine G_ret ?_
      refine nx_r ?_
      obtain rfl := Option.some.inj h
      exact endGl (rs := [.cell 4 42]) (vs := [.agg #[.int .i64 x12.Kind, .int .i64 x12.Shape, .int .i64 x12.Flags, .int .i64 x12.Age, .slice A13 n13 c13, .slice A14 n14 c14]]) rfl (.cons (rv_boxS 3 rfl rfl agg42) .nil) rfl (cv_sel [1, 2] 7 rfl rfl) ⟨_, _, _, _, _, _, rfl, rfl⟩
    · replace h := cond_f g9 h
      refine G_skip ?_
      refine nx_n ?_
      refine G_seq ?_
      refine G_region ?_
      refine G_ev (ev_fa rfl fa_24_1) rfl rfl rfl ?_
      refine G_rd (rd_box1 1 rfl rfl one22 rfl) rfl rfl rfl ?_
      refine G_ev (ev_move rfl) rfl rfl rfl ?_
      obtain ⟨q16, h⟩ := req_elim h
      refine G_ev (ev_sub rfl rfl q16.1 q16.2) rfl rfl rfl ?_
      obtain ⟨q17, h⟩ := req_elim h
      refine G_ev (ev_quo rfl rfl (by decide) q17.1 q17.2) rfl rfl rfl ?_
      obtain ⟨x18, hx18, h⟩ := bind_elim h
      obtain ⟨lx18, ux18, hx18⟩ := getE_elim hx18
      refine G_rd (rd_idx 3 rfl els_sl rfl rfl Try.underlying22 size42 lx18 ux18) rfl rfl rfl ?_
      refine G_row 3 rfl hx18 (open_DCell x18) ?_
      rintro _ _ ⟨A19, n19, c19, A20, n20, c20, rfl, rfl⟩
      refine G_rd (rd_rowS (us := [.int .i64 x18.Kind, .int .i64 x18.Shape, .int .i64 x18.Flags, .int .i64 x18.Age, .slice A19 n19 c19, .slice A20 n20 c20]) 0 rfl rfl agg42 rfl) rfl rfl rfl ?_
      refine G_opn (op_store (us := [.int .i64 x18.Kind, .int .i64 x18.Shape, .int .i64 x18.Flags, .int .i64 x18.Age, .slice A19 n19 c19, .slice A20 n20 c20]) (cs' := [.int .i64 x18.Kind, .int .i64 x18.Shape, .int .i64 x18.Flags, .int .i64 x18.Age, .slice A19 n19 c19, .slice A20 n20 c20]) 3 rfl rfl rfl rfl size42 rfl rfl rfl) rfl rfl ?_
      rintro _ _ rfl
      refine G_norm ([rowC (elemQ (.slice A2 n2 c2) (((a1 - 2).tdiv 2).toNat) 6 0) [.int .i64 x18.Kind, .int .i64 x18.Shape, .int .i64 x18.Flags, .int .i64 x18.Age, .slice A19 n19 c19, .slice A20 n20 c20], slC rDValue (.slice A19 n19 c19) x18.Slots, slC rDValue (.slice A20 n20 c20) x18.More, boxC B4 42 [.int .i64 x18.Kind, .int .i64 x18.Shape, .int .i64 x18.Flags, .int .i64 x18.Age, .slice A19 n19 c19, .slice A20 n20 c20], boxC B3 24 [.slice A1 n1 c1, .slice A2 n2 c2], slC rDCell (.slice A1 n1 c1) a0.Young, slC rDCell (.slice A2 n2 c2) a0.Old]) rfl ?_
      refine G_nil ?_
      refine nx_n ?_
      refine G_ret ?_
      obtain rfl := Option.some.inj h
      exact endGl (rs := [.cell 4 42]) (vs := [.agg #[.int .i64 x18.Kind, .int .i64 x18.Shape, .int .i64 x18.Flags, .int .i64 x18.Age, .slice A19 n19 c19, .slice A20 n20 c20]]) rfl (.cons (rv_boxS 3 rfl rfl agg42) .nil) rfl (cv_sel [1, 2] 7 rfl rfl) ⟨_, _, _, _, _, _, rfl, rfl⟩
/-! pantomime/pantomimeref15.has -/
def pantomimeref15_has_O (N : Nat) (a0 : DValue) : Option Bool :=
  (bif decide (a0.Kind = 7) then (some true) else (some (decide (a0.Kind = 9)))).bind fun b2 => some b2
theorem pantomimeref15_has_ok {N : Nat} {a0 : DValue} {r : Bool} (h : pantomimeref15_has_O N a0 = some r) : Okc Try.prog 49 [.agg #[.int .i64 a0.Kind, .int .i64 a0.N, .string a0.S]] ([]) (fun (u : Value) (post : List Chunk) => u = .bool r ∧ post = []) := by
  refine ok_E Try.func49 rfl rfl ?_
  simp only [envOf]
  refine G_seq ?_
  refine G_region ?_
  refine G_opd (op_box rfl rfl) rfl rfl rfl ?_
  rintro _ _ ⟨B1, rfl, rfl⟩
  refine G_ev (ev_assign rfl) rfl rfl rfl ?_
  refine G_nil ?_
  refine nx_n ?_
  refine G_seq ?_
  refine G_region ?_
  refine G_ev (ev_fa0 rfl fa_38_0) rfl rfl rfl ?_
  refine G_rd (rd_box1 0 rfl rfl one3 rfl) rfl rfl rfl ?_
  refine G_ev (ev_eq rfl rfl) rfl rfl rfl ?_
  refine G_ev (ev_move rfl) rfl rfl rfl ?_
  obtain ⟨b2, hb2, h⟩ := bind_elim h
  refine G_segb 4 10 b2 ?_ ?_
  · clear h
    refine G_case 6 rfl (fun g2 => ?_) (fun g2 => ?_)
    · have h := cond_t g2 hb2
      refine G_no (g_ft g2 rfl) rfl ?_
      refine G_no (g_ft g2 rfl) rfl ?_
      refine G_no (g_ft g2 rfl) rfl ?_
      refine G_ev (ev_pick_t' g2 rfl rfl) rfl rfl rfl ?_
      obtain rfl := Option.some.inj h
      exact G_joined (sub_cons rfl (sub_skip (sub_skip (sub_skip (sub_skip sub_refl rfl) rfl) rfl) rfl)) (cv_sel [0] 1 rfl rfl)
    · have h := cond_f g2 hb2
      refine G_ev (ev_fa0 rfl fa_38_0) rfl (g_ff g2 rfl) rfl ?_
      refine G_rd (rd_box1 0 rfl rfl one3 rfl) rfl (g_ff g2 rfl) rfl ?_
      refine G_ev (ev_eq rfl rfl) rfl (g_ff g2 rfl) rfl ?_
      refine G_ev (ev_pick_f' g2 rfl rfl) rfl rfl rfl ?_
      obtain rfl := Option.some.inj h
      exact G_joined (sub_cons rfl (sub_skip (sub_skip (sub_skip (sub_skip sub_refl rfl) rfl) rfl) rfl)) (cv_sel [0] 1 rfl rfl)
  refine G_ev (ev_assign rfl) rfl rfl rfl ?_
  refine G_nil ?_
  refine nx_n ?_
  refine G_ret ?_
  obtain rfl := Option.some.inj h
  exact endG1 rfl rfl (cv_sel [] 1 rfl rfl) ⟨rfl, rfl⟩
theorem pantomimeref15_has_free {r : Bool} : ∀ v post, ((fun (u : Value) (post : List Chunk) => u = .bool r ∧ post = [])) v post → ∀ c ∈ post, Free c := by
  rintro _ _ ⟨rfl, rfl⟩; exact mem_nil
/-! pantomime/pantomimeref15.weak -/
def pantomimeref15_weak_O (N : Nat) (a0 : Int) (a1 : Int) : Option Bool :=
  (bif decide (a0 = 8) then (some true) else ((bif decide (a0 = 10) then (some (decide (0 < a1))) else (some false)).bind fun b2 => (bif b2 then (req (in64 (a1 - 1)) (some (decide (((a1 - 1).tmod 4).tmod 2 = 0)))) else (some false)).bind fun b3 => some b3)).bind fun b1 => some b1
theorem pantomimeref15_weak_ok {N : Nat} {a0 : Int} {a1 : Int} {r : Bool} (h : pantomimeref15_weak_O N a0 a1 = some r) : Okc Try.prog 50 [.int .i64 a0, .int .i64 a1] ([]) (fun (u : Value) (post : List Chunk) => u = .bool r ∧ post = []) := by
  refine ok_E Try.func50 rfl rfl ?_
  simp only [envOf]
  refine G_seq ?_
  refine G_region ?_
  refine G_ev (ev_assign rfl) rfl rfl rfl ?_
  refine G_nil ?_
  refine nx_n ?_
  refine G_seq ?_
  refine G_region ?_
  refine G_ev (ev_move rfl) rfl rfl rfl ?_
  refine G_ev (ev_eq rfl rfl) rfl rfl rfl ?_
  refine G_ev (ev_move rfl) rfl rfl rfl ?_
  obtain ⟨b1, hb1, h⟩ := bind_elim h
  refine G_segb 14 21 b1 ?_ ?_
  · clear h
    refine G_case 7 rfl (fun g1 => ?_) (fun g1 => ?_)
    · have h := cond_t g1 hb1
      refine G_no (g_ft g1 rfl) rfl ?_
      refine G_no (g_ft g1 rfl) rfl ?_
      refine G_no (g_ft g1 rfl) rfl ?_
      refine G_no rfl rfl ?_
      refine G_no rfl rfl ?_
      refine G_no (g_ft g1 rfl) rfl ?_
      refine G_no (g_ft g1 rfl) rfl ?_
      refine G_no rfl rfl ?_
      refine G_no rfl rfl ?_
      refine G_no rfl rfl ?_
      refine G_no rfl rfl ?_
      refine G_no rfl rfl ?_
      refine G_no (g_ft g1 rfl) rfl ?_
      refine G_ev (ev_pick_t' g1 rfl rfl) rfl rfl rfl ?_
      obtain rfl := Option.some.inj h
      exact G_joined (sub_cons rfl (sub_skip (sub_skip (sub_skip (sub_skip (sub_skip (sub_skip (sub_skip (sub_skip (sub_skip (sub_skip (sub_skip (sub_skip (sub_skip (sub_skip sub_refl rfl) rfl) rfl) rfl) rfl) rfl) rfl) rfl) rfl) rfl) rfl) rfl) rfl) rfl)) (cv_sel [] 0 rfl rfl)
    · have h := cond_f g1 hb1
      refine G_ev (ev_move rfl) rfl (g_ff g1 rfl) rfl ?_
      refine G_ev (ev_eq rfl rfl) rfl (g_ff g1 rfl) rfl ?_
      refine G_ev (ev_move rfl) rfl (g_ff g1 rfl) rfl ?_
      obtain ⟨b2, hb2, h⟩ := bind_elim h
      refine G_segb 3 13 b2 ?_ ?_
      · clear h
        refine G_case 10 rfl (fun g2 => ?_) (fun g2 => ?_)
        · have h := cond_t g2 hb2
          refine G_ev (ev_move rfl) rfl (g_tt g2 rfl) rfl ?_
          refine G_ev (ev_gt rfl rfl) rfl (g_tt g2 rfl) rfl ?_
          refine G_ev (ev_pick_t' g2 rfl rfl) rfl (g_ff g1 rfl) rfl ?_
          obtain rfl := Option.some.inj h
          exact G_joined (sub_cons rfl (sub_skip (sub_skip (sub_skip sub_refl rfl) rfl) rfl)) (cv_sel [] 0 rfl rfl)
        · have h := cond_f g2 hb2
          refine G_no (g_tf g2 rfl) rfl ?_
          refine G_no (g_tf g2 rfl) rfl ?_
          refine G_ev (ev_pick_f' g2 rfl rfl) rfl (g_ff g1 rfl) rfl ?_
          obtain rfl := Option.some.inj h
          exact G_joined (sub_cons rfl (sub_skip (sub_skip (sub_skip sub_refl rfl) rfl) rfl)) (cv_sel [] 0 rfl rfl)
      refine G_ev (ev_move rfl) rfl (g_ff g1 rfl) rfl ?_
      obtain ⟨b3, hb3, h⟩ := bind_elim h
      refine G_segb 6 20 b3 ?_ ?_
      · clear h
        refine G_case 14 rfl (fun g3 => ?_) (fun g3 => ?_)
        · have h := cond_t g3 hb3
          refine G_ev (ev_move rfl) rfl (g_tt g3 rfl) rfl ?_
          obtain ⟨q4, h⟩ := req_elim h
          refine G_ev (ev_sub rfl rfl q4.1 q4.2) rfl (g_tt g3 rfl) rfl ?_
          refine G_ev (ev_rem rfl rfl (by decide)) rfl (g_tt g3 rfl) rfl ?_
          refine G_ev (ev_rem rfl rfl (by decide)) rfl (g_tt g3 rfl) rfl ?_
          refine G_ev (ev_eq rfl rfl) rfl (g_tt g3 rfl) rfl ?_
          refine G_ev (ev_pick_t' g3 rfl rfl) rfl (g_ff g1 rfl) rfl ?_
          obtain rfl := Option.some.inj h
          exact G_joined (sub_cons rfl (sub_skip (sub_skip (sub_skip (sub_skip (sub_skip (sub_skip sub_refl rfl) rfl) rfl) rfl) rfl) rfl)) (cv_sel [] 0 rfl rfl)
        · have h := cond_f g3 hb3
          refine G_no (g_tf g3 rfl) rfl ?_
          refine G_no (g_tf g3 rfl) rfl ?_
          refine G_no (g_tf g3 rfl) rfl ?_
          refine G_no (g_tf g3 rfl) rfl ?_
          refine G_no (g_tf g3 rfl) rfl ?_
          refine G_ev (ev_pick_f' g3 rfl rfl) rfl (g_ff g1 rfl) rfl ?_
          obtain rfl := Option.some.inj h
          exact G_joined (sub_cons rfl (sub_skip (sub_skip (sub_skip (sub_skip (sub_skip (sub_skip sub_refl rfl) rfl) rfl) rfl) rfl) rfl)) (cv_sel [] 0 rfl rfl)
      refine G_ev (ev_pick_f' g1 rfl rfl) rfl rfl rfl ?_
      obtain rfl := Option.some.inj h
      exact G_joined (sub_cons rfl (sub_skip (sub_skip (sub_skip (sub_skip (sub_skip (sub_skip (sub_skip sub_refl rfl) rfl) rfl) rfl) rfl) rfl) rfl)) (cv_sel [] 0 rfl rfl)
  refine G_ev (ev_assign rfl) rfl rfl rfl ?_
  refine G_nil ?_
  refine nx_n ?_
  refine G_ret ?_
  obtain rfl := Option.some.inj h
  exact endG1 rfl rfl (cv_sel [] 0 rfl rfl) ⟨rfl, rfl⟩
theorem pantomimeref15_weak_free {r : Bool} : ∀ v post, ((fun (u : Value) (post : List Chunk) => u = .bool r ∧ post = [])) v post → ∀ c ∈ post, Free c := by
  rintro _ _ ⟨rfl, rfl⟩; exact mem_nil
end Go.Proofs.Ytmbaennilhdieaa
