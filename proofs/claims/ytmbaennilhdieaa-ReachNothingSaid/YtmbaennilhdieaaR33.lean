/- Pure functions and contracts of Go functions (printed by all3.py). -/
import Derived.Test.YtmbaennilhdieaaR32
namespace Go.Proofs.Ytmbaennilhdieaa
open Go.RowKit
set_option maxRecDepth 20000

def reach_Strong_O (N : Nat) (a0 : DMemory) (a1 : (List DValue)) : Option (List Int) :=
  (reach_begin_O N a0 a1).bind fun y5 => (slices_Values_54_O N y5.all_).bind fun y11 => (slices_Sorted_V_O N y5.all_).bind fun y13 => some y13
theorem reach_Strong_ok {N : Nat} {a0 : DMemory} {a1 : (List DValue)} {r : (List Int)} (h : reach_Strong_O N a0 a1 = some r) {A1 : Option Addr} {n1 c1 : Nat} {A2 : Option Addr} {n2 c2 : Nat} {A3 : Option Addr} {n3 c3 : Nat} : Okc Try.prog 22 [.agg #[.slice A1 n1 c1, .slice A2 n2 c2], .slice A3 n3 c3] ([slC rDCell (.slice A1 n1 c1) a0.Young, slC rDCell (.slice A2 n2 c2) a0.Old, slC rDValue (.slice A3 n3 c3) a1]) (fun (u : Value) (post : List Chunk) => ∃ A0 n0 c0, u = .slice A0 n0 c0 ∧ post = [ownC (rInt .i64) 3 (.slice A0 n0 c0) r]) := by
  refine ok_E Try.func22 rfl rfl ?_
  simp only [envOf]
  refine run ?_
  refine G_opd (op_box rfl rfl) rfl rfl rfl ?_
  rintro _ _ ⟨B4, rfl, rfl⟩
  refine run ?_
  refine G_rd (rd_boxS (us := [.slice A1 n1 c1, .slice A2 n2 c2]) 0 rfl rfl agg24 rfl) rfl rfl rfl ?_
  refine run ?_
  obtain ⟨y5, hy5, h⟩ := bind_elim h
  refine G_opd (op_call (reach_begin_ok hy5) call55 rfl (cv_take [1, 2, 3] [] [0, 1, 2, 3] 4 rfl)) rfl rfl rfl ?_
  rintro _ _ ⟨_, ⟨B6, A7, n7, c7, A8, n8, c8, A9, n9, c9, M10, rfl, rfl⟩, rfl⟩
  refine G_norm ([boxC B6 79 [.slice A7 n7 c7, .slice A8 n8 c8, .slice A9 n9 c9, .map (some M10), .int .i64 y5.done_], slC rDCell (.slice A7 n7 c7) y5.m_.Young, slC rDCell (.slice A8 n8 c8) y5.m_.Old, ownC (rInt .i64) 3 (.slice A9 n9 c9) y5.all_, mapC ekI evU M10 y5.met_, boxC B4 24 [.slice A1 n1 c1, .slice A2 n2 c2], slC rDCell (.slice A1 n1 c1) a0.Young, slC rDCell (.slice A2 n2 c2) a0.Old, slC rDValue (.slice A3 n3 c3) a1]) rfl ?_
  refine run ?_
  obtain ⟨y11, hy11, h⟩ := bind_elim h
  refine G_opd (op_callR (slices_Values_54_ok hy11) call54 rfl (mem_cons (lent_own (i := 3) rfl) mem_nil) slices_Values_54_free) rfl rfl rfl ?_
  rintro _ _ ⟨_, ⟨B12, rfl, rfl⟩, rfl⟩
  obtain ⟨y13, hy13, h⟩ := bind_elim h
  refine G_opd (op_callR (slices_Sorted_V_ok hy13) call53 rfl (mem_cons (lent_box (i := 0) rfl) (mem_cons (lent_own (i := 4) rfl) mem_nil)) slices_Sorted_V_free) rfl rfl rfl ?_
  rintro _ _ ⟨_, ⟨A14, n14, c14, rfl, rfl⟩, rfl⟩
  refine run ?_
  obtain rfl := Option.some.inj h
  exact endG1 rfl rfl (cv_sel [0] 11 rfl rfl) ⟨_, _, _, rfl, rfl⟩
theorem reach_Strong_free {r : (List Int)} : ∀ v post, ((fun (u : Value) (post : List Chunk) => ∃ A0 n0 c0, u = .slice A0 n0 c0 ∧ post = [ownC (rInt .i64) 3 (.slice A0 n0 c0) r])) v post → ∀ c ∈ post, Free c := by
  rintro _ _ ⟨_, _, _, rfl, rfl⟩; exact mem_cons free_own (mem_nil)
def pantomimelaw19_goes_O (N : Nat) : Option Bool :=
  (pantomimelaw19_object_O N 3).bind fun y1 => (pantomimelaw19_object_O N 2).bind fun y2 => (pantomimelaw19_object_O N 3).bind fun y8 => (pantomimelaw19_object_O N 5).bind fun y9 => (pantomimelaw19_object_O N 1).bind fun y13 => (reach_Order_O N (⟨([(⟨11, 0, 0, 0, [], ([y1, y2] : List DValue)⟩ : DCell), (⟨11, 0, 0, 0, [], []⟩ : DCell)] : List DCell), ([(⟨11, 0, 0, 0, [], []⟩ : DCell)] : List DCell)⟩ : DMemory) ([y13] : List DValue)).bind fun y16 => (pantomimeref19_Same_O N y16 ([1, 3, 2] : List Int)).bind fun y21 => (bif y21 then ((pantomimelaw19_object_O N 1).bind fun y23 => (reach_Live_O N (⟨([(⟨11, 0, 0, 0, [], ([y1, y2] : List DValue)⟩ : DCell), (⟨11, 0, 0, 0, [], []⟩ : DCell)] : List DCell), ([(⟨11, 0, 0, 0, [], []⟩ : DCell)] : List DCell)⟩ : DMemory) ([y23] : List DValue)).bind fun y26 => (pantomimeref19_Same_O N y26 ([1, 2, 3] : List Int)).bind fun y31 => some y31) else (some false)).bind fun b22 => ((bif b22 then ((pantomimelaw19_object_O N 1).bind fun y33 => (reach_Live_O N (⟨([(⟨8, 0, 0, 0, ([(⟨1, 0, ⟨#[]⟩⟩ : DValue)] : List DValue), ([y8, y9] : List DValue)⟩ : DCell), (⟨11, 0, 0, 0, [], []⟩ : DCell), (⟨11, 0, 0, 0, [], []⟩ : DCell)] : List DCell), []⟩ : DMemory) ([y33] : List DValue)).bind fun y36 => (pantomimeref19_Same_O N y36 ([1] : List Int)).bind fun y41 => some y41) else (some false)).bind fun b32 => ((bif b32 then ((pantomimelaw19_object_O N 1).bind fun y43 => (pantomimelaw19_object_O N 3).bind fun y44 => (reach_Live_O N (⟨([(⟨8, 0, 0, 0, ([(⟨1, 0, ⟨#[]⟩⟩ : DValue)] : List DValue), ([y8, y9] : List DValue)⟩ : DCell), (⟨11, 0, 0, 0, [], []⟩ : DCell), (⟨11, 0, 0, 0, [], []⟩ : DCell)] : List DCell), []⟩ : DMemory) ([y43, y44] : List DValue)).bind fun y47 => (pantomimeref19_Same_O N y47 ([1, 3, 5] : List Int)).bind fun y52 => some y52) else (some false)).bind fun b42 => ((bif b42 then ((pantomimelaw19_object_O N 1).bind fun y54 => (pantomimelaw19_object_O N 3).bind fun y55 => (reach_Strong_O N (⟨([(⟨8, 0, 0, 0, ([(⟨1, 0, ⟨#[]⟩⟩ : DValue)] : List DValue), ([y8, y9] : List DValue)⟩ : DCell), (⟨11, 0, 0, 0, [], []⟩ : DCell), (⟨11, 0, 0, 0, [], []⟩ : DCell)] : List DCell), []⟩ : DMemory) ([y54, y55] : List DValue)).bind fun y58 => (pantomimeref19_Same_O N y58 ([1, 3] : List Int)).bind fun y63 => some y63) else (some false)).bind fun b53 => (some b53))))
set_option maxHeartbeats 4000000 in
theorem pantomimelaw19_goes_ok {N : Nat} {r : Bool} (h : pantomimelaw19_goes_O N = some r) : Okc Try.prog 15 [] ([]) (fun (u : Value) (post : List Chunk) => u = .bool r ∧ post = []) := by
  refine ok_E Try.func15 rfl rfl ?_
  simp only [envOf]
  refine run ?_
  obtain ⟨y1, hy1, h⟩ := bind_elim h
  refine G_opd (op_callR (pantomimelaw19_object_ok hy1) call47 rfl (mem_nil) pantomimelaw19_object_free) rfl rfl rfl ?_
  rintro _ _ ⟨_, ⟨rfl, rfl⟩, rfl⟩
  obtain ⟨y2, hy2, h⟩ := bind_elim h
  refine G_opd (op_callR (pantomimelaw19_object_ok hy2) call47 rfl (mem_nil) pantomimelaw19_object_free) rfl rfl rfl ?_
  rintro _ _ ⟨_, ⟨rfl, rfl⟩, rfl⟩
  refine G_opd (op_bslice (R := rDValue) (vss := [[.int .i64 y1.Kind, .int .i64 y1.N, .string y1.S], [.int .i64 y2.Kind, .int .i64 y2.N, .string y2.S]]) (xs := [y1, y2]) rfl (bsl_25_2 _ _ _ _ _ _) rfl rfl (fun _ _ hr => .cons rfl (.cons rfl All2.nil))) rfl rfl rfl ?_
  rintro _ _ ⟨A3, n3, c3, rfl, rfl⟩
  refine G_ev (ev_build rfl (bld_42_0_5 _ _ _ _)) rfl rfl rfl ?_
  refine G_ev (ev_build rfl (bld_42_0 _)) rfl rfl rfl ?_
  refine G_cv (cv_frz 0 rfl) ?_
  refine G_norm ([slC rDValue (.slice A3 n3 c3) ([y1, y2] : List DValue)]) rfl ?_
  refine G_opd (op_bslice (R := rDCell) (vss := [[.int .i64 11, .int .i64 0, .int .i64 0, .int .i64 0, .slice none 0 0, .slice A3 n3 c3], [.int .i64 11, .int .i64 0, .int .i64 0, .int .i64 0, .slice none 0 0, .slice none 0 0]]) (xs := [(⟨11, 0, 0, 0, [], ([y1, y2] : List DValue)⟩ : DCell), (⟨11, 0, 0, 0, [], []⟩ : DCell)]) rfl (bsl_22_2 _ _ _ _ _ _ _ _ _ _ _ _ _ _ _ _ _ _ _ _) rfl rfl (fun _ _ hr => .cons (⟨_, _, _, _, _, _, rfl, slR_nil _ _ _, hr 0 _ rfl rfl⟩) (.cons (⟨_, _, _, _, _, _, rfl, slR_nil _ _ _, slR_nil _ _ _⟩) All2.nil))) rfl rfl rfl ?_
  rintro _ _ ⟨A4, n4, c4, rfl, rfl⟩
  refine G_ev (ev_build rfl (bld_42_0 _)) rfl rfl rfl ?_
  refine G_opd (op_bslice (R := rDCell) (vss := [[.int .i64 11, .int .i64 0, .int .i64 0, .int .i64 0, .slice none 0 0, .slice none 0 0]]) (xs := [(⟨11, 0, 0, 0, [], []⟩ : DCell)]) rfl (bsl_22_1 _ _ _ _ _ _ _ _ _ _) rfl rfl (fun _ _ hr => .cons (⟨_, _, _, _, _, _, rfl, slR_nil _ _ _, slR_nil _ _ _⟩) All2.nil)) rfl rfl rfl ?_
  rintro _ _ ⟨A5, n5, c5, rfl, rfl⟩
  refine G_ev (ev_build rfl (bld_24_0_1 _ _ _ _ _ _)) rfl rfl rfl ?_
  refine G_opd (op_alloc zero24 rfl) rfl rfl rfl ?_
  rintro _ _ ⟨B6, rfl, rfl⟩
  refine G_opn (op_store (us := [.slice A4 n4 c4, .slice A5 n5 c5]) (cs' := [.slice A4 n4 c4, .slice A5 n5 c5]) 0 rfl rfl rfl rfl size24 rfl rfl rfl) rfl rfl ?_
  rintro _ _ rfl
  refine G_norm ([boxC B6 24 [.slice A4 n4 c4, .slice A5 n5 c5], ownC rDCell 42 (.slice A5 n5 c5) ([(⟨11, 0, 0, 0, [], []⟩ : DCell)] : List DCell), ownC rDCell 42 (.slice A4 n4 c4) ([(⟨11, 0, 0, 0, [], ([y1, y2] : List DValue)⟩ : DCell), (⟨11, 0, 0, 0, [], []⟩ : DCell)] : List DCell), slC rDValue (.slice A3 n3 c3) ([y1, y2] : List DValue)]) rfl ?_
  refine run ?_
  refine G_ev (ev_build rfl (bld_38_0 _)) rfl rfl rfl ?_
  refine G_opd (op_bslice (R := rDValue) (vss := [[.int .i64 1, .int .i64 0, .string (⟨#[]⟩)]]) (xs := [(⟨1, 0, ⟨#[]⟩⟩ : DValue)]) rfl (bsl_25_1 _ _ _) rfl rfl (fun _ _ hr => .cons rfl All2.nil)) rfl rfl rfl ?_
  rintro _ _ ⟨A7, n7, c7, rfl, rfl⟩
  obtain ⟨y8, hy8, h⟩ := bind_elim h
  refine G_opd (op_callR (pantomimelaw19_object_ok hy8) call47 rfl (mem_nil) pantomimelaw19_object_free) rfl rfl rfl ?_
  rintro _ _ ⟨_, ⟨rfl, rfl⟩, rfl⟩
  obtain ⟨y9, hy9, h⟩ := bind_elim h
  refine G_opd (op_callR (pantomimelaw19_object_ok hy9) call47 rfl (mem_nil) pantomimelaw19_object_free) rfl rfl rfl ?_
  rintro _ _ ⟨_, ⟨rfl, rfl⟩, rfl⟩
  refine G_opd (op_bslice (R := rDValue) (vss := [[.int .i64 y8.Kind, .int .i64 y8.N, .string y8.S], [.int .i64 y9.Kind, .int .i64 y9.N, .string y9.S]]) (xs := [y8, y9]) rfl (bsl_25_2 _ _ _ _ _ _) rfl rfl (fun _ _ hr => .cons rfl (.cons rfl All2.nil))) rfl rfl rfl ?_
  rintro _ _ ⟨A10, n10, c10, rfl, rfl⟩
  refine G_ev (ev_build rfl (bld_42_0_4_5 _ _ _ _ _ _ _)) rfl rfl rfl ?_
  refine G_ev (ev_build rfl (bld_42_0 _)) rfl rfl rfl ?_
  refine G_ev (ev_build rfl (bld_42_0 _)) rfl rfl rfl ?_
  refine G_cv (cv_frz 1 rfl) ?_
  refine G_norm ([ownC rDValue 38 (.slice A10 n10 c10) ([y8, y9] : List DValue), slC rDValue (.slice A7 n7 c7) ([(⟨1, 0, ⟨#[]⟩⟩ : DValue)] : List DValue), boxC B6 24 [.slice A4 n4 c4, .slice A5 n5 c5], ownC rDCell 42 (.slice A5 n5 c5) ([(⟨11, 0, 0, 0, [], []⟩ : DCell)] : List DCell), ownC rDCell 42 (.slice A4 n4 c4) ([(⟨11, 0, 0, 0, [], ([y1, y2] : List DValue)⟩ : DCell), (⟨11, 0, 0, 0, [], []⟩ : DCell)] : List DCell), slC rDValue (.slice A3 n3 c3) ([y1, y2] : List DValue)]) rfl ?_
  refine G_cv (cv_frz 0 rfl) ?_
  refine G_norm ([slC rDValue (.slice A10 n10 c10) ([y8, y9] : List DValue), slC rDValue (.slice A7 n7 c7) ([(⟨1, 0, ⟨#[]⟩⟩ : DValue)] : List DValue), boxC B6 24 [.slice A4 n4 c4, .slice A5 n5 c5], ownC rDCell 42 (.slice A5 n5 c5) ([(⟨11, 0, 0, 0, [], []⟩ : DCell)] : List DCell), ownC rDCell 42 (.slice A4 n4 c4) ([(⟨11, 0, 0, 0, [], ([y1, y2] : List DValue)⟩ : DCell), (⟨11, 0, 0, 0, [], []⟩ : DCell)] : List DCell), slC rDValue (.slice A3 n3 c3) ([y1, y2] : List DValue)]) rfl ?_
  refine G_opd (op_bslice (R := rDCell) (vss := [[.int .i64 8, .int .i64 0, .int .i64 0, .int .i64 0, .slice A7 n7 c7, .slice A10 n10 c10], [.int .i64 11, .int .i64 0, .int .i64 0, .int .i64 0, .slice none 0 0, .slice none 0 0], [.int .i64 11, .int .i64 0, .int .i64 0, .int .i64 0, .slice none 0 0, .slice none 0 0]]) (xs := [(⟨8, 0, 0, 0, ([(⟨1, 0, ⟨#[]⟩⟩ : DValue)] : List DValue), ([y8, y9] : List DValue)⟩ : DCell), (⟨11, 0, 0, 0, [], []⟩ : DCell), (⟨11, 0, 0, 0, [], []⟩ : DCell)]) rfl (bsl_22_3 _ _ _ _ _ _ _ _ _ _ _ _ _ _ _ _ _ _ _ _ _ _ _ _ _ _ _ _ _ _) rfl rfl (fun _ _ hr => .cons (⟨_, _, _, _, _, _, rfl, hr 1 _ rfl rfl, hr 0 _ rfl rfl⟩) (.cons (⟨_, _, _, _, _, _, rfl, slR_nil _ _ _, slR_nil _ _ _⟩) (.cons (⟨_, _, _, _, _, _, rfl, slR_nil _ _ _, slR_nil _ _ _⟩) All2.nil)))) rfl rfl rfl ?_
  rintro _ _ ⟨A11, n11, c11, rfl, rfl⟩
  refine G_ev (ev_build rfl (bld_24_0 _ _ _)) rfl rfl rfl ?_
  refine G_opd (op_alloc zero24 rfl) rfl rfl rfl ?_
  rintro _ _ ⟨B12, rfl, rfl⟩
  refine G_opn (op_store (us := [.slice A11 n11 c11, .slice none 0 0]) (cs' := [.slice A11 n11 c11, .slice none 0 0]) 0 rfl rfl rfl rfl size24 rfl rfl rfl) rfl rfl ?_
  rintro _ _ rfl
  refine G_norm ([boxC B12 24 [.slice A11 n11 c11, .slice none 0 0], ownC rDCell 42 (.slice A11 n11 c11) ([(⟨8, 0, 0, 0, ([(⟨1, 0, ⟨#[]⟩⟩ : DValue)] : List DValue), ([y8, y9] : List DValue)⟩ : DCell), (⟨11, 0, 0, 0, [], []⟩ : DCell), (⟨11, 0, 0, 0, [], []⟩ : DCell)] : List DCell), slC rDValue (.slice A10 n10 c10) ([y8, y9] : List DValue), slC rDValue (.slice A7 n7 c7) ([(⟨1, 0, ⟨#[]⟩⟩ : DValue)] : List DValue), boxC B6 24 [.slice A4 n4 c4, .slice A5 n5 c5], ownC rDCell 42 (.slice A5 n5 c5) ([(⟨11, 0, 0, 0, [], []⟩ : DCell)] : List DCell), ownC rDCell 42 (.slice A4 n4 c4) ([(⟨11, 0, 0, 0, [], ([y1, y2] : List DValue)⟩ : DCell), (⟨11, 0, 0, 0, [], []⟩ : DCell)] : List DCell), slC rDValue (.slice A3 n3 c3) ([y1, y2] : List DValue)]) rfl ?_
  refine run ?_
  refine G_seq ?_
  obtain ⟨y13, hy13, h⟩ := bind_elim h
  obtain ⟨y16, hy16, h⟩ := bind_elim h
  obtain ⟨y21, hy21, h⟩ := bind_elim h
  obtain ⟨b22, hb22, h⟩ := bind_elim h
  rcases Bool.eq_false_or_eq_true y21 with g22 | g22
  · replace hb22 := cond_t g22 hb22
    obtain ⟨y23, hy23, hb22⟩ := bind_elim hb22
    obtain ⟨y26, hy26, hb22⟩ := bind_elim hb22
    obtain ⟨y31, hy31, hb22⟩ := bind_elim hb22
    replace hb22 : y31 = b22 := Option.some.inj hb22
    obtain ⟨b32, hb32, h⟩ := bind_elim h
    rcases Bool.eq_false_or_eq_true b22 with g32 | g32
    · replace hb32 := cond_t g32 hb32
      obtain ⟨y33, hy33, hb32⟩ := bind_elim hb32
      obtain ⟨y36, hy36, hb32⟩ := bind_elim hb32
      obtain ⟨y41, hy41, hb32⟩ := bind_elim hb32
      replace hb32 : y41 = b32 := Option.some.inj hb32
      obtain ⟨b42, hb42, h⟩ := bind_elim h
      rcases Bool.eq_false_or_eq_true b32 with g42 | g42
      · replace hb42 := cond_t g42 hb42
        obtain ⟨y43, hy43, hb42⟩ := bind_elim hb42
        obtain ⟨y44, hy44, hb42⟩ := bind_elim hb42
        obtain ⟨y47, hy47, hb42⟩ := bind_elim hb42
        obtain ⟨y52, hy52, hb42⟩ := bind_elim hb42
        replace hb42 : y52 = b42 := Option.some.inj hb42
        obtain ⟨b53, hb53, h⟩ := bind_elim h
        rcases Bool.eq_false_or_eq_true b42 with g53 | g53
        · replace hb53 := cond_t g53 hb53
          obtain ⟨y54, hy54, hb53⟩ := bind_elim hb53
          obtain ⟨y55, hy55, hb53⟩ := bind_elim hb53
          obtain ⟨y58, hy58, hb53⟩ := bind_elim hb53
          obtain ⟨y63, hy63, hb53⟩ := bind_elim hb53
          replace hb53 : y63 = b53 := Option.some.inj hb53
          refine G_sub (t := [(0, .bool false), (1, .pointer (some ⟨B6, 0, none⟩)), (2, .pointer (some ⟨B12, 0, none⟩))]) ?_ subT (cv_refl _)
          refine G_monoV (by kernel_rfl) 40 [] [22, 23, 24, 25, 26, 27, 28, 29, 30, 31, 32, 33, 34, 35, 36, 37, 38, 39, 40, 41, 42, 43, 44, 45, 46, 47, 48, 49, 50, 51, 52, 53, 54, 55, 56, 57, 58, 59, 60, 61] [[], [], [1], [0, 2], [], [3, 4], [5], [6], [6], [6, 8], [6, 7, 9], [6], [6, 10, 11], [6, 12], [13], [14], [14], [14, 16], [14, 15, 17], [14], [14, 18, 19], [14, 20], [21], [22], [22], [22], [22, 24, 25], [22, 23, 26], [22], [22, 27, 28], [22, 29], [30], [31], [31], [31], [31, 33, 34], [31, 32, 35], [31], [31, 36, 37], [31, 38]] [aV (.agg #[.slice A4 n4 c4, .slice A5 n5 c5]),
 aV (.agg #[.int .i64 y13.Kind, .int .i64 y13.N, .string y13.S]),
 aS (fun u => ownC rDValue 38 u ([y13] : List DValue)),
 aS (fun u => ownC (rInt .i64) 3 u y16),
 aS (fun u => ownC (rInt .i64) 3 u ([1, 3, 2] : List Int)),
 aV (.bool y21),
 aV (.bool y21),
 aV (.agg #[.slice A4 n4 c4, .slice A5 n5 c5]),
 aV (.agg #[.int .i64 y23.Kind, .int .i64 y23.N, .string y23.S]),
 aS (fun u => ownC rDValue 38 u ([y23] : List DValue)),
 aS (fun u => ownC (rInt .i64) 3 u y26),
 aS (fun u => ownC (rInt .i64) 3 u ([1, 2, 3] : List Int)),
 aV (.bool y31),
 aV (.bool b22),
 aV (.bool b22),
 aV (.agg #[.slice A11 n11 c11, .slice none 0 0]),
 aV (.agg #[.int .i64 y33.Kind, .int .i64 y33.N, .string y33.S]),
 aS (fun u => ownC rDValue 38 u ([y33] : List DValue)),
 aS (fun u => ownC (rInt .i64) 3 u y36),
 aS (fun u => ownC (rInt .i64) 3 u ([1] : List Int)),
 aV (.bool y41),
 aV (.bool b32),
 aV (.bool b32),
 aV (.agg #[.slice A11 n11 c11, .slice none 0 0]),
 aV (.agg #[.int .i64 y43.Kind, .int .i64 y43.N, .string y43.S]),
 aV (.agg #[.int .i64 y44.Kind, .int .i64 y44.N, .string y44.S]),
 aS (fun u => ownC rDValue 38 u ([y43, y44] : List DValue)),
 aS (fun u => ownC (rInt .i64) 3 u y47),
 aS (fun u => ownC (rInt .i64) 3 u ([1, 3, 5] : List Int)),
 aV (.bool y52),
 aV (.bool b42),
 aV (.bool b42),
 aV (.agg #[.slice A11 n11 c11, .slice none 0 0]),
 aV (.agg #[.int .i64 y54.Kind, .int .i64 y54.N, .string y54.S]),
 aV (.agg #[.int .i64 y55.Kind, .int .i64 y55.N, .string y55.S]),
 aS (fun u => ownC rDValue 38 u ([y54, y55] : List DValue)),
 aS (fun u => ownC (rInt .i64) 3 u y58),
 aS (fun u => ownC (rInt .i64) 3 u ([1, 3] : List Int)),
 aV (.bool y63),
 aV (.bool b53)] (by kernel_rfl) rfl ?_ ?_ ?_
          · exact qs_nil
          · refine steps_cons rfl ?_ ?_
            · exact X_ev (ev_pick_t' g53 rfl rfl) rfl (cvp (by rw [hb53]; rfl) (cv_refl _))
            refine steps_cons rfl ?_ ?_
            · intro A60 n60 c60 A62 n62 c62
              refine X_op (op_callR (pantomimeref19_Same_ok hy63) call25 rfl (mem_cons (lent_own (i := 0) rfl) (mem_cons (lent_own (i := 1) rfl) mem_nil)) pantomimeref19_Same_free) (g_tt g53 rfl) ?_
              rintro _ _ ⟨_, ⟨rfl, rfl⟩, rfl⟩
              exact cvp rfl (cv_refl _)
            refine steps_cons rfl ?_ ?_
            · refine X_op (op_bslice (R := (rInt .i64)) (vss := [[.int .i64 1], [.int .i64 3]]) (xs := [1, 3]) rfl (bsl_31_2 _ _) rfl rfl (fun _ _ hr => .cons rfl (.cons rfl All2.nil))) (g_tt g53 rfl) ?_
              rintro _ _ ⟨A61, n61, c61, rfl, rfl⟩
              exact cvp ⟨_, _, _, rfl⟩ (cv_refl _)
            refine steps_cons rfl ?_ ?_
            · intro A57 n57 c57
              refine X_op (op_callR (reach_Strong_ok hy58) call22 rfl (mem_cons (lent_own (i := 2) rfl) (mem_cons (lent_nil) (mem_cons (lent_own (i := 0) rfl) mem_nil))) reach_Strong_free) (g_tt g53 rfl) ?_
              rintro _ _ ⟨_, ⟨A59, n59, c59, rfl, rfl⟩, rfl⟩
              exact cvp ⟨_, _, _, rfl⟩ (cv_refl _)
            refine steps_cons rfl ?_ ?_
            · refine X_op (op_bslice (R := rDValue) (vss := [[.int .i64 y54.Kind, .int .i64 y54.N, .string y54.S], [.int .i64 y55.Kind, .int .i64 y55.N, .string y55.S]]) (xs := [y54, y55]) rfl (bsl_25_2 _ _ _ _ _ _) rfl rfl (fun _ _ hr => .cons rfl (.cons rfl All2.nil))) (g_tt g53 rfl) ?_
              rintro _ _ ⟨A56, n56, c56, rfl, rfl⟩
              exact cvp ⟨_, _, _, rfl⟩ (cv_refl _)
            refine steps_cons rfl ?_ ?_
            · refine X_op (op_callR (pantomimelaw19_object_ok hy55) call47 rfl (mem_nil) pantomimelaw19_object_free) (g_tt g53 rfl) ?_
              rintro _ _ ⟨_, ⟨rfl, rfl⟩, rfl⟩
              exact cvp rfl (cv_refl _)
            refine steps_cons rfl ?_ ?_
            · refine X_op (op_callR (pantomimelaw19_object_ok hy54) call47 rfl (mem_nil) pantomimelaw19_object_free) (g_tt g53 rfl) ?_
              rintro _ _ ⟨_, ⟨rfl, rfl⟩, rfl⟩
              exact cvp rfl (cv_refl _)
            refine steps_cons rfl ?_ ?_
            · exact X_rd (rd_boxS (us := [.slice A11 n11 c11, .slice none 0 0]) 0 rfl rfl agg24 rfl) (g_tt g53 rfl) (cvp rfl (cv_refl _))
            refine steps_cons rfl ?_ ?_
            · exact X_ev (ev_move rfl) rfl (cvp rfl (cv_refl _))
            refine steps_cons rfl ?_ ?_
            · exact X_ev (ev_pick_t' g42 rfl rfl) rfl (cvp (by rw [hb42]; rfl) (cv_refl _))
            refine steps_cons rfl ?_ ?_
            · intro A49 n49 c49 A51 n51 c51
              refine X_op (op_callR (pantomimeref19_Same_ok hy52) call25 rfl (mem_cons (lent_own (i := 0) rfl) (mem_cons (lent_own (i := 1) rfl) mem_nil)) pantomimeref19_Same_free) (g_tt g42 rfl) ?_
              rintro _ _ ⟨_, ⟨rfl, rfl⟩, rfl⟩
              exact cvp rfl (cv_refl _)
            refine steps_cons rfl ?_ ?_
            · refine X_op (op_bslice (R := (rInt .i64)) (vss := [[.int .i64 1], [.int .i64 3], [.int .i64 5]]) (xs := [1, 3, 5]) rfl (bsl_31_3 _ _ _) rfl rfl (fun _ _ hr => .cons rfl (.cons rfl (.cons rfl All2.nil)))) (g_tt g42 rfl) ?_
              rintro _ _ ⟨A50, n50, c50, rfl, rfl⟩
              exact cvp ⟨_, _, _, rfl⟩ (cv_refl _)
            refine steps_cons rfl ?_ ?_
            · intro A46 n46 c46
              refine X_op (op_callR (reach_Live_ok hy47) call16 rfl (mem_cons (lent_own (i := 2) rfl) (mem_cons (lent_nil) (mem_cons (lent_own (i := 0) rfl) mem_nil))) reach_Live_free) (g_tt g42 rfl) ?_
              rintro _ _ ⟨_, ⟨A48, n48, c48, rfl, rfl⟩, rfl⟩
              exact cvp ⟨_, _, _, rfl⟩ (cv_refl _)
            refine steps_cons rfl ?_ ?_
            · refine X_op (op_bslice (R := rDValue) (vss := [[.int .i64 y43.Kind, .int .i64 y43.N, .string y43.S], [.int .i64 y44.Kind, .int .i64 y44.N, .string y44.S]]) (xs := [y43, y44]) rfl (bsl_25_2 _ _ _ _ _ _) rfl rfl (fun _ _ hr => .cons rfl (.cons rfl All2.nil))) (g_tt g42 rfl) ?_
              rintro _ _ ⟨A45, n45, c45, rfl, rfl⟩
              exact cvp ⟨_, _, _, rfl⟩ (cv_refl _)
            refine steps_cons rfl ?_ ?_
            · refine X_op (op_callR (pantomimelaw19_object_ok hy44) call47 rfl (mem_nil) pantomimelaw19_object_free) (g_tt g42 rfl) ?_
              rintro _ _ ⟨_, ⟨rfl, rfl⟩, rfl⟩
              exact cvp rfl (cv_refl _)
            refine steps_cons rfl ?_ ?_
            · refine X_op (op_callR (pantomimelaw19_object_ok hy43) call47 rfl (mem_nil) pantomimelaw19_object_free) (g_tt g42 rfl) ?_
              rintro _ _ ⟨_, ⟨rfl, rfl⟩, rfl⟩
              exact cvp rfl (cv_refl _)
            refine steps_cons rfl ?_ ?_
            · exact X_rd (rd_boxS (us := [.slice A11 n11 c11, .slice none 0 0]) 0 rfl rfl agg24 rfl) (g_tt g42 rfl) (cvp rfl (cv_refl _))
            refine steps_cons rfl ?_ ?_
            · exact X_ev (ev_move rfl) rfl (cvp rfl (cv_refl _))
            refine steps_cons rfl ?_ ?_
            · exact X_ev (ev_pick_t' g32 rfl rfl) rfl (cvp (by rw [hb32]; rfl) (cv_refl _))
            refine steps_cons rfl ?_ ?_
            · intro A38 n38 c38 A40 n40 c40
              refine X_op (op_callR (pantomimeref19_Same_ok hy41) call25 rfl (mem_cons (lent_own (i := 0) rfl) (mem_cons (lent_own (i := 1) rfl) mem_nil)) pantomimeref19_Same_free) (g_tt g32 rfl) ?_
              rintro _ _ ⟨_, ⟨rfl, rfl⟩, rfl⟩
              exact cvp rfl (cv_refl _)
            refine steps_cons rfl ?_ ?_
            · refine X_op (op_bslice (R := (rInt .i64)) (vss := [[.int .i64 1]]) (xs := [1]) rfl (bsl_31_1 _) rfl rfl (fun _ _ hr => .cons rfl All2.nil)) (g_tt g32 rfl) ?_
              rintro _ _ ⟨A39, n39, c39, rfl, rfl⟩
              exact cvp ⟨_, _, _, rfl⟩ (cv_refl _)
            refine steps_cons rfl ?_ ?_
            · intro A35 n35 c35
              refine X_op (op_callR (reach_Live_ok hy36) call16 rfl (mem_cons (lent_own (i := 2) rfl) (mem_cons (lent_nil) (mem_cons (lent_own (i := 0) rfl) mem_nil))) reach_Live_free) (g_tt g32 rfl) ?_
              rintro _ _ ⟨_, ⟨A37, n37, c37, rfl, rfl⟩, rfl⟩
              exact cvp ⟨_, _, _, rfl⟩ (cv_refl _)
            refine steps_cons rfl ?_ ?_
            · refine X_op (op_bslice (R := rDValue) (vss := [[.int .i64 y33.Kind, .int .i64 y33.N, .string y33.S]]) (xs := [y33]) rfl (bsl_25_1 _ _ _) rfl rfl (fun _ _ hr => .cons rfl All2.nil)) (g_tt g32 rfl) ?_
              rintro _ _ ⟨A34, n34, c34, rfl, rfl⟩
              exact cvp ⟨_, _, _, rfl⟩ (cv_refl _)
            refine steps_cons rfl ?_ ?_
            · refine X_op (op_callR (pantomimelaw19_object_ok hy33) call47 rfl (mem_nil) pantomimelaw19_object_free) (g_tt g32 rfl) ?_
              rintro _ _ ⟨_, ⟨rfl, rfl⟩, rfl⟩
              exact cvp rfl (cv_refl _)
            refine steps_cons rfl ?_ ?_
            · exact X_rd (rd_boxS (us := [.slice A11 n11 c11, .slice none 0 0]) 0 rfl rfl agg24 rfl) (g_tt g32 rfl) (cvp rfl (cv_refl _))
            refine steps_cons rfl ?_ ?_
            · exact X_ev (ev_move rfl) rfl (cvp rfl (cv_refl _))
            refine steps_cons rfl ?_ ?_
            · exact X_ev (ev_pick_t' g22 rfl rfl) rfl (cvp (by rw [hb22]; rfl) (cv_refl _))
            refine steps_cons rfl ?_ ?_
            · intro A28 n28 c28 A30 n30 c30
              refine X_op (op_callR (pantomimeref19_Same_ok hy31) call25 rfl (mem_cons (lent_own (i := 0) rfl) (mem_cons (lent_own (i := 1) rfl) mem_nil)) pantomimeref19_Same_free) (g_tt g22 rfl) ?_
              rintro _ _ ⟨_, ⟨rfl, rfl⟩, rfl⟩
              exact cvp rfl (cv_refl _)
            refine steps_cons rfl ?_ ?_
            · refine X_op (op_bslice (R := (rInt .i64)) (vss := [[.int .i64 1], [.int .i64 2], [.int .i64 3]]) (xs := [1, 2, 3]) rfl (bsl_31_3 _ _ _) rfl rfl (fun _ _ hr => .cons rfl (.cons rfl (.cons rfl All2.nil)))) (g_tt g22 rfl) ?_
              rintro _ _ ⟨A29, n29, c29, rfl, rfl⟩
              exact cvp ⟨_, _, _, rfl⟩ (cv_refl _)
            refine steps_cons rfl ?_ ?_
            · intro A25 n25 c25
              refine X_op (op_callR (reach_Live_ok hy26) call16 rfl (mem_cons (lent_own (i := 7) rfl) (mem_cons (lent_own (i := 6) rfl) (mem_cons (lent_own (i := 0) rfl) mem_nil))) reach_Live_free) (g_tt g22 rfl) ?_
              rintro _ _ ⟨_, ⟨A27, n27, c27, rfl, rfl⟩, rfl⟩
              exact cvp ⟨_, _, _, rfl⟩ (cv_refl _)
            refine steps_cons rfl ?_ ?_
            · refine X_op (op_bslice (R := rDValue) (vss := [[.int .i64 y23.Kind, .int .i64 y23.N, .string y23.S]]) (xs := [y23]) rfl (bsl_25_1 _ _ _) rfl rfl (fun _ _ hr => .cons rfl All2.nil)) (g_tt g22 rfl) ?_
              rintro _ _ ⟨A24, n24, c24, rfl, rfl⟩
              exact cvp ⟨_, _, _, rfl⟩ (cv_refl _)
            refine steps_cons rfl ?_ ?_
            · refine X_op (op_callR (pantomimelaw19_object_ok hy23) call47 rfl (mem_nil) pantomimelaw19_object_free) (g_tt g22 rfl) ?_
              rintro _ _ ⟨_, ⟨rfl, rfl⟩, rfl⟩
              exact cvp rfl (cv_refl _)
            refine steps_cons rfl ?_ ?_
            · exact X_rd (rd_boxS (us := [.slice A4 n4 c4, .slice A5 n5 c5]) 4 rfl rfl agg24 rfl) (g_tt g22 rfl) (cvp rfl (cv_refl _))
            refine steps_cons rfl ?_ ?_
            · exact X_ev (ev_move rfl) rfl (cvp rfl (cv_refl _))
            refine steps_cons rfl ?_ ?_
            · intro A18 n18 c18 A20 n20 c20
              refine X_op (op_callR (pantomimeref19_Same_ok hy21) call25 rfl (mem_cons (lent_own (i := 0) rfl) (mem_cons (lent_own (i := 1) rfl) mem_nil)) pantomimeref19_Same_free) rfl ?_
              rintro _ _ ⟨_, ⟨rfl, rfl⟩, rfl⟩
              exact cvp rfl (cv_refl _)
            refine steps_cons rfl ?_ ?_
            · refine X_op (op_bslice (R := (rInt .i64)) (vss := [[.int .i64 1], [.int .i64 3], [.int .i64 2]]) (xs := [1, 3, 2]) rfl (bsl_31_3 _ _ _) rfl rfl (fun _ _ hr => .cons rfl (.cons rfl (.cons rfl All2.nil)))) rfl ?_
              rintro _ _ ⟨A19, n19, c19, rfl, rfl⟩
              exact cvp ⟨_, _, _, rfl⟩ (cv_refl _)
            refine steps_cons rfl ?_ ?_
            · intro A15 n15 c15
              refine X_op (op_callR (reach_Order_ok hy16) call23 rfl (mem_cons (lent_own (i := 7) rfl) (mem_cons (lent_own (i := 6) rfl) (mem_cons (lent_own (i := 0) rfl) mem_nil))) reach_Order_free) rfl ?_
              rintro _ _ ⟨_, ⟨A17, n17, c17, rfl, rfl⟩, rfl⟩
              exact cvp ⟨_, _, _, rfl⟩ (cv_refl _)
            refine steps_cons rfl ?_ ?_
            · refine X_op (op_bslice (R := rDValue) (vss := [[.int .i64 y13.Kind, .int .i64 y13.N, .string y13.S]]) (xs := [y13]) rfl (bsl_25_1 _ _ _) rfl rfl (fun _ _ hr => .cons rfl All2.nil)) rfl ?_
              rintro _ _ ⟨A14, n14, c14, rfl, rfl⟩
              exact cvp ⟨_, _, _, rfl⟩ (cv_refl _)
            refine steps_cons rfl ?_ ?_
            · refine X_op (op_callR (pantomimelaw19_object_ok hy13) call47 rfl (mem_nil) pantomimelaw19_object_free) rfl ?_
              rintro _ _ ⟨_, ⟨rfl, rfl⟩, rfl⟩
              exact cvp rfl (cv_refl _)
            refine steps_cons rfl ?_ ?_
            · exact X_rd (rd_boxS (us := [.slice A4 n4 c4, .slice A5 n5 c5]) 4 rfl rfl agg24 rfl) rfl (cvp rfl (cv_refl _))
            exact steps_nil
          · intro A15 n15 c15 A18 n18 c18 A20 n20 c20 A25 n25 c25 A28 n28 c28 A30 n30 c30 A35 n35 c35 A38 n38 c38 A40 n40 c40 A46 n46 c46 A49 n49 c49 A51 n51 c51 A57 n57 c57 A60 n60 c60 A62 n62 c62
            refine N_sub (t := [(61, .bool b53), (0, .bool false), (1, .pointer (some ⟨B6, 0, none⟩)), (2, .pointer (some ⟨B12, 0, none⟩))]) (L' := [ownC rDValue 38 (.slice A15 n15 c15) ([y13] : List DValue), ownC (rInt .i64) 3 (.slice A18 n18 c18) y16, ownC (rInt .i64) 3 (.slice A20 n20 c20) ([1, 3, 2] : List Int), ownC rDValue 38 (.slice A25 n25 c25) ([y23] : List DValue), ownC (rInt .i64) 3 (.slice A28 n28 c28) y26, ownC (rInt .i64) 3 (.slice A30 n30 c30) ([1, 2, 3] : List Int), ownC rDValue 38 (.slice A35 n35 c35) ([y33] : List DValue), ownC (rInt .i64) 3 (.slice A38 n38 c38) y36, ownC (rInt .i64) 3 (.slice A40 n40 c40) ([1] : List Int), ownC rDValue 38 (.slice A46 n46 c46) ([y43, y44] : List DValue), ownC (rInt .i64) 3 (.slice A49 n49 c49) y47, ownC (rInt .i64) 3 (.slice A51 n51 c51) ([1, 3, 5] : List Int), ownC rDValue 38 (.slice A57 n57 c57) ([y54, y55] : List DValue), ownC (rInt .i64) 3 (.slice A60 n60 c60) y58, ownC (rInt .i64) 3 (.slice A62 n62 c62) ([1, 3] : List Int), boxC B12 24 [.slice A11 n11 c11, .slice none 0 0], ownC rDCell 42 (.slice A11 n11 c11) ([(⟨8, 0, 0, 0, ([(⟨1, 0, ⟨#[]⟩⟩ : DValue)] : List DValue), ([y8, y9] : List DValue)⟩ : DCell), (⟨11, 0, 0, 0, [], []⟩ : DCell), (⟨11, 0, 0, 0, [], []⟩ : DCell)] : List DCell), slC rDValue (.slice A10 n10 c10) ([y8, y9] : List DValue), slC rDValue (.slice A7 n7 c7) ([(⟨1, 0, ⟨#[]⟩⟩ : DValue)] : List DValue), boxC B6 24 [.slice A4 n4 c4, .slice A5 n5 c5], ownC rDCell 42 (.slice A5 n5 c5) ([(⟨11, 0, 0, 0, [], []⟩ : DCell)] : List DCell), ownC rDCell 42 (.slice A4 n4 c4) ([(⟨11, 0, 0, 0, [], ([y1, y2] : List DValue)⟩ : DCell), (⟨11, 0, 0, 0, [], []⟩ : DCell)] : List DCell), slC rDValue (.slice A3 n3 c3) ([y1, y2] : List DValue)]) ?_ subT (cv_refl _)
            refine N_ev 40 rfl (by kernel_rfl) (ev_assign rfl) rfl rfl rfl ?_
            refine N_done (by kernel_rfl) ?_
            refine run ?_
            obtain rfl := Option.some.inj h
            exact endG1 rfl rfl (cv_sel [] 23 rfl rfl) ⟨rfl, rfl⟩
        · replace hb53 := cond_f g53 hb53
          replace hb53 : false = b53 := Option.some.inj hb53
          refine G_sub (t := [(0, .bool false), (1, .pointer (some ⟨B6, 0, none⟩)), (2, .pointer (some ⟨B12, 0, none⟩))]) ?_ subT (cv_refl _)
          refine G_monoV (by kernel_rfl) 40 [] [22, 23, 24, 25, 26, 27, 28, 29, 30, 31, 32, 33, 34, 35, 36, 37, 38, 39, 40, 41, 42, 43, 44, 45, 46, 47, 48, 49, 50, 51, 52, 53, 54, 55, 56, 57, 58, 59, 60, 61] [[], [], [1], [0, 2], [], [3, 4], [5], [6], [6], [6, 8], [6, 7, 9], [6], [6, 10, 11], [6, 12], [13], [14], [14], [14, 16], [14, 15, 17], [14], [14, 18, 19], [14, 20], [21], [22], [22], [22], [22, 24, 25], [22, 23, 26], [22], [22, 27, 28], [22, 29], [30], [31], [31], [31], [31], [31], [31], [31], [31, 38]] [aV (.agg #[.slice A4 n4 c4, .slice A5 n5 c5]),
 aV (.agg #[.int .i64 y13.Kind, .int .i64 y13.N, .string y13.S]),
 aS (fun u => ownC rDValue 38 u ([y13] : List DValue)),
 aS (fun u => ownC (rInt .i64) 3 u y16),
 aS (fun u => ownC (rInt .i64) 3 u ([1, 3, 2] : List Int)),
 aV (.bool y21),
 aV (.bool y21),
 aV (.agg #[.slice A4 n4 c4, .slice A5 n5 c5]),
 aV (.agg #[.int .i64 y23.Kind, .int .i64 y23.N, .string y23.S]),
 aS (fun u => ownC rDValue 38 u ([y23] : List DValue)),
 aS (fun u => ownC (rInt .i64) 3 u y26),
 aS (fun u => ownC (rInt .i64) 3 u ([1, 2, 3] : List Int)),
 aV (.bool y31),
 aV (.bool b22),
 aV (.bool b22),
 aV (.agg #[.slice A11 n11 c11, .slice none 0 0]),
 aV (.agg #[.int .i64 y33.Kind, .int .i64 y33.N, .string y33.S]),
 aS (fun u => ownC rDValue 38 u ([y33] : List DValue)),
 aS (fun u => ownC (rInt .i64) 3 u y36),
 aS (fun u => ownC (rInt .i64) 3 u ([1] : List Int)),
 aV (.bool y41),
 aV (.bool b32),
 aV (.bool b32),
 aV (.agg #[.slice A11 n11 c11, .slice none 0 0]),
 aV (.agg #[.int .i64 y43.Kind, .int .i64 y43.N, .string y43.S]),
 aV (.agg #[.int .i64 y44.Kind, .int .i64 y44.N, .string y44.S]),
 aS (fun u => ownC rDValue 38 u ([y43, y44] : List DValue)),
 aS (fun u => ownC (rInt .i64) 3 u y47),
 aS (fun u => ownC (rInt .i64) 3 u ([1, 3, 5] : List Int)),
 aV (.bool y52),
 aV (.bool b42),
 aV (.bool b42),
 aV (undef),
 aV (undef),
 aV (undef),
 aV (undef),
 aV (undef),
 aV (undef),
 aV (undef),
 aV (.bool b53)] (by kernel_rfl) rfl ?_ ?_ ?_
          · exact qs_nil
          · refine steps_cons rfl ?_ ?_
            · exact X_ev (ev_pick_f' g53 rfl rfl) rfl (cvp (by rw [hb53]; rfl) (cv_refl _))
            refine steps_cons rfl ?_ ?_
            · exact X_no (g_tf g53 rfl) (cvp rfl (cv_refl _))
            refine steps_cons rfl ?_ ?_
            · exact X_no (g_tf g53 rfl) (cvp rfl (cv_refl _))
            refine steps_cons rfl ?_ ?_
            · exact X_no (g_tf g53 rfl) (cvp rfl (cv_refl _))
            refine steps_cons rfl ?_ ?_
            · exact X_no (g_tf g53 rfl) (cvp rfl (cv_refl _))
            refine steps_cons rfl ?_ ?_
            · exact X_no (g_tf g53 rfl) (cvp rfl (cv_refl _))
            refine steps_cons rfl ?_ ?_
            · exact X_no (g_tf g53 rfl) (cvp rfl (cv_refl _))
            refine steps_cons rfl ?_ ?_
            · exact X_no (g_tf g53 rfl) (cvp rfl (cv_refl _))
            refine steps_cons rfl ?_ ?_
            · exact X_ev (ev_move rfl) rfl (cvp rfl (cv_refl _))
            refine steps_cons rfl ?_ ?_
            · exact X_ev (ev_pick_t' g42 rfl rfl) rfl (cvp (by rw [hb42]; rfl) (cv_refl _))
            refine steps_cons rfl ?_ ?_
            · intro A49 n49 c49 A51 n51 c51
              refine X_op (op_callR (pantomimeref19_Same_ok hy52) call25 rfl (mem_cons (lent_own (i := 0) rfl) (mem_cons (lent_own (i := 1) rfl) mem_nil)) pantomimeref19_Same_free) (g_tt g42 rfl) ?_
              rintro _ _ ⟨_, ⟨rfl, rfl⟩, rfl⟩
              exact cvp rfl (cv_refl _)
            refine steps_cons rfl ?_ ?_
            · refine X_op (op_bslice (R := (rInt .i64)) (vss := [[.int .i64 1], [.int .i64 3], [.int .i64 5]]) (xs := [1, 3, 5]) rfl (bsl_31_3 _ _ _) rfl rfl (fun _ _ hr => .cons rfl (.cons rfl (.cons rfl All2.nil)))) (g_tt g42 rfl) ?_
              rintro _ _ ⟨A50, n50, c50, rfl, rfl⟩
              exact cvp ⟨_, _, _, rfl⟩ (cv_refl _)
            refine steps_cons rfl ?_ ?_
            · intro A46 n46 c46
              refine X_op (op_callR (reach_Live_ok hy47) call16 rfl (mem_cons (lent_own (i := 2) rfl) (mem_cons (lent_nil) (mem_cons (lent_own (i := 0) rfl) mem_nil))) reach_Live_free) (g_tt g42 rfl) ?_
              rintro _ _ ⟨_, ⟨A48, n48, c48, rfl, rfl⟩, rfl⟩
              exact cvp ⟨_, _, _, rfl⟩ (cv_refl _)
            refine steps_cons rfl ?_ ?_
            · refine X_op (op_bslice (R := rDValue) (vss := [[.int .i64 y43.Kind, .int .i64 y43.N, .string y43.S], [.int .i64 y44.Kind, .int .i64 y44.N, .string y44.S]]) (xs := [y43, y44]) rfl (bsl_25_2 _ _ _ _ _ _) rfl rfl (fun _ _ hr => .cons rfl (.cons rfl All2.nil))) (g_tt g42 rfl) ?_
              rintro _ _ ⟨A45, n45, c45, rfl, rfl⟩
              exact cvp ⟨_, _, _, rfl⟩ (cv_refl _)
            refine steps_cons rfl ?_ ?_
            · refine X_op (op_callR (pantomimelaw19_object_ok hy44) call47 rfl (mem_nil) pantomimelaw19_object_free) (g_tt g42 rfl) ?_
              rintro _ _ ⟨_, ⟨rfl, rfl⟩, rfl⟩
              exact cvp rfl (cv_refl _)
            refine steps_cons rfl ?_ ?_
            · refine X_op (op_callR (pantomimelaw19_object_ok hy43) call47 rfl (mem_nil) pantomimelaw19_object_free) (g_tt g42 rfl) ?_
              rintro _ _ ⟨_, ⟨rfl, rfl⟩, rfl⟩
              exact cvp rfl (cv_refl _)
            refine steps_cons rfl ?_ ?_
            · exact X_rd (rd_boxS (us := [.slice A11 n11 c11, .slice none 0 0]) 0 rfl rfl agg24 rfl) (g_tt g42 rfl) (cvp rfl (cv_refl _))
            refine steps_cons rfl ?_ ?_
            · exact X_ev (ev_move rfl) rfl (cvp rfl (cv_refl _))
            refine steps_cons rfl ?_ ?_
            · exact X_ev (ev_pick_t' g32 rfl rfl) rfl (cvp (by rw [hb32]; rfl) (cv_refl _))
            refine steps_cons rfl ?_ ?_
            · intro A38 n38 c38 A40 n40 c40
              refine X_op (op_callR (pantomimeref19_Same_ok hy41) call25 rfl (mem_cons (lent_own (i := 0) rfl) (mem_cons (lent_own (i := 1) rfl) mem_nil)) pantomimeref19_Same_free) (g_tt g32 rfl) ?_
              rintro _ _ ⟨_, ⟨rfl, rfl⟩, rfl⟩
              exact cvp rfl (cv_refl _)
            refine steps_cons rfl ?_ ?_
            · refine X_op (op_bslice (R := (rInt .i64)) (vss := [[.int .i64 1]]) (xs := [1]) rfl (bsl_31_1 _) rfl rfl (fun _ _ hr => .cons rfl All2.nil)) (g_tt g32 rfl) ?_
              rintro _ _ ⟨A39, n39, c39, rfl, rfl⟩
              exact cvp ⟨_, _, _, rfl⟩ (cv_refl _)
            refine steps_cons rfl ?_ ?_
            · intro A35 n35 c35
              refine X_op (op_callR (reach_Live_ok hy36) call16 rfl (mem_cons (lent_own (i := 2) rfl) (mem_cons (lent_nil) (mem_cons (lent_own (i := 0) rfl) mem_nil))) reach_Live_free) (g_tt g32 rfl) ?_
              rintro _ _ ⟨_, ⟨A37, n37, c37, rfl, rfl⟩, rfl⟩
              exact cvp ⟨_, _, _, rfl⟩ (cv_refl _)
            refine steps_cons rfl ?_ ?_
            · refine X_op (op_bslice (R := rDValue) (vss := [[.int .i64 y33.Kind, .int .i64 y33.N, .string y33.S]]) (xs := [y33]) rfl (bsl_25_1 _ _ _) rfl rfl (fun _ _ hr => .cons rfl All2.nil)) (g_tt g32 rfl) ?_
              rintro _ _ ⟨A34, n34, c34, rfl, rfl⟩
              exact cvp ⟨_, _, _, rfl⟩ (cv_refl _)
            refine steps_cons rfl ?_ ?_
            · refine X_op (op_callR (pantomimelaw19_object_ok hy33) call47 rfl (mem_nil) pantomimelaw19_object_free) (g_tt g32 rfl) ?_
              rintro _ _ ⟨_, ⟨rfl, rfl⟩, rfl⟩
              exact cvp rfl (cv_refl _)
            refine steps_cons rfl ?_ ?_
            · exact X_rd (rd_boxS (us := [.slice A11 n11 c11, .slice none 0 0]) 0 rfl rfl agg24 rfl) (g_tt g32 rfl) (cvp rfl (cv_refl _))
            refine steps_cons rfl ?_ ?_
            · exact X_ev (ev_move rfl) rfl (cvp rfl (cv_refl _))
            refine steps_cons rfl ?_ ?_
            · exact X_ev (ev_pick_t' g22 rfl rfl) rfl (cvp (by rw [hb22]; rfl) (cv_refl _))
            refine steps_cons rfl ?_ ?_
            · intro A28 n28 c28 A30 n30 c30
              refine X_op (op_callR (pantomimeref19_Same_ok hy31) call25 rfl (mem_cons (lent_own (i := 0) rfl) (mem_cons (lent_own (i := 1) rfl) mem_nil)) pantomimeref19_Same_free) (g_tt g22 rfl) ?_
              rintro _ _ ⟨_, ⟨rfl, rfl⟩, rfl⟩
              exact cvp rfl (cv_refl _)
            refine steps_cons rfl ?_ ?_
            · refine X_op (op_bslice (R := (rInt .i64)) (vss := [[.int .i64 1], [.int .i64 2], [.int .i64 3]]) (xs := [1, 2, 3]) rfl (bsl_31_3 _ _ _) rfl rfl (fun _ _ hr => .cons rfl (.cons rfl (.cons rfl All2.nil)))) (g_tt g22 rfl) ?_
              rintro _ _ ⟨A29, n29, c29, rfl, rfl⟩
              exact cvp ⟨_, _, _, rfl⟩ (cv_refl _)
            refine steps_cons rfl ?_ ?_
            · intro A25 n25 c25
              refine X_op (op_callR (reach_Live_ok hy26) call16 rfl (mem_cons (lent_own (i := 7) rfl) (mem_cons (lent_own (i := 6) rfl) (mem_cons (lent_own (i := 0) rfl) mem_nil))) reach_Live_free) (g_tt g22 rfl) ?_
              rintro _ _ ⟨_, ⟨A27, n27, c27, rfl, rfl⟩, rfl⟩
              exact cvp ⟨_, _, _, rfl⟩ (cv_refl _)
            refine steps_cons rfl ?_ ?_
            · refine X_op (op_bslice (R := rDValue) (vss := [[.int .i64 y23.Kind, .int .i64 y23.N, .string y23.S]]) (xs := [y23]) rfl (bsl_25_1 _ _ _) rfl rfl (fun _ _ hr => .cons rfl All2.nil)) (g_tt g22 rfl) ?_
              rintro _ _ ⟨A24, n24, c24, rfl, rfl⟩
              exact cvp ⟨_, _, _, rfl⟩ (cv_refl _)
            refine steps_cons rfl ?_ ?_
            · refine X_op (op_callR (pantomimelaw19_object_ok hy23) call47 rfl (mem_nil) pantomimelaw19_object_free) (g_tt g22 rfl) ?_
              rintro _ _ ⟨_, ⟨rfl, rfl⟩, rfl⟩
              exact cvp rfl (cv_refl _)
            refine steps_cons rfl ?_ ?_
            · exact X_rd (rd_boxS (us := [.slice A4 n4 c4, .slice A5 n5 c5]) 4 rfl rfl agg24 rfl) (g_tt g22 rfl) (cvp rfl (cv_refl _))
            refine steps_cons rfl ?_ ?_
            · exact X_ev (ev_move rfl) rfl (cvp rfl (cv_refl _))
            refine steps_cons rfl ?_ ?_
            · intro A18 n18 c18 A20 n20 c20
              refine X_op (op_callR (pantomimeref19_Same_ok hy21) call25 rfl (mem_cons (lent_own (i := 0) rfl) (mem_cons (lent_own (i := 1) rfl) mem_nil)) pantomimeref19_Same_free) rfl ?_
              rintro _ _ ⟨_, ⟨rfl, rfl⟩, rfl⟩
              exact cvp rfl (cv_refl _)
            refine steps_cons rfl ?_ ?_
            · refine X_op (op_bslice (R := (rInt .i64)) (vss := [[.int .i64 1], [.int .i64 3], [.int .i64 2]]) (xs := [1, 3, 2]) rfl (bsl_31_3 _ _ _) rfl rfl (fun _ _ hr => .cons rfl (.cons rfl (.cons rfl All2.nil)))) rfl ?_
              rintro _ _ ⟨A19, n19, c19, rfl, rfl⟩
              exact cvp ⟨_, _, _, rfl⟩ (cv_refl _)
            refine steps_cons rfl ?_ ?_
            · intro A15 n15 c15
              refine X_op (op_callR (reach_Order_ok hy16) call23 rfl (mem_cons (lent_own (i := 7) rfl) (mem_cons (lent_own (i := 6) rfl) (mem_cons (lent_own (i := 0) rfl) mem_nil))) reach_Order_free) rfl ?_
              rintro _ _ ⟨_, ⟨A17, n17, c17, rfl, rfl⟩, rfl⟩
              exact cvp ⟨_, _, _, rfl⟩ (cv_refl _)
            refine steps_cons rfl ?_ ?_
            · refine X_op (op_bslice (R := rDValue) (vss := [[.int .i64 y13.Kind, .int .i64 y13.N, .string y13.S]]) (xs := [y13]) rfl (bsl_25_1 _ _ _) rfl rfl (fun _ _ hr => .cons rfl All2.nil)) rfl ?_
              rintro _ _ ⟨A14, n14, c14, rfl, rfl⟩
              exact cvp ⟨_, _, _, rfl⟩ (cv_refl _)
            refine steps_cons rfl ?_ ?_
            · refine X_op (op_callR (pantomimelaw19_object_ok hy13) call47 rfl (mem_nil) pantomimelaw19_object_free) rfl ?_
              rintro _ _ ⟨_, ⟨rfl, rfl⟩, rfl⟩
              exact cvp rfl (cv_refl _)
            refine steps_cons rfl ?_ ?_
            · exact X_rd (rd_boxS (us := [.slice A4 n4 c4, .slice A5 n5 c5]) 4 rfl rfl agg24 rfl) rfl (cvp rfl (cv_refl _))
            exact steps_nil
          · intro A15 n15 c15 A18 n18 c18 A20 n20 c20 A25 n25 c25 A28 n28 c28 A30 n30 c30 A35 n35 c35 A38 n38 c38 A40 n40 c40 A46 n46 c46 A49 n49 c49 A51 n51 c51
            refine N_sub (t := [(61, .bool b53), (0, .bool false), (1, .pointer (some ⟨B6, 0, none⟩)), (2, .pointer (some ⟨B12, 0, none⟩))]) (L' := [ownC rDValue 38 (.slice A15 n15 c15) ([y13] : List DValue), ownC (rInt .i64) 3 (.slice A18 n18 c18) y16, ownC (rInt .i64) 3 (.slice A20 n20 c20) ([1, 3, 2] : List Int), ownC rDValue 38 (.slice A25 n25 c25) ([y23] : List DValue), ownC (rInt .i64) 3 (.slice A28 n28 c28) y26, ownC (rInt .i64) 3 (.slice A30 n30 c30) ([1, 2, 3] : List Int), ownC rDValue 38 (.slice A35 n35 c35) ([y33] : List DValue), ownC (rInt .i64) 3 (.slice A38 n38 c38) y36, ownC (rInt .i64) 3 (.slice A40 n40 c40) ([1] : List Int), ownC rDValue 38 (.slice A46 n46 c46) ([y43, y44] : List DValue), ownC (rInt .i64) 3 (.slice A49 n49 c49) y47, ownC (rInt .i64) 3 (.slice A51 n51 c51) ([1, 3, 5] : List Int), boxC B12 24 [.slice A11 n11 c11, .slice none 0 0], ownC rDCell 42 (.slice A11 n11 c11) ([(⟨8, 0, 0, 0, ([(⟨1, 0, ⟨#[]⟩⟩ : DValue)] : List DValue), ([y8, y9] : List DValue)⟩ : DCell), (⟨11, 0, 0, 0, [], []⟩ : DCell), (⟨11, 0, 0, 0, [], []⟩ : DCell)] : List DCell), slC rDValue (.slice A10 n10 c10) ([y8, y9] : List DValue), slC rDValue (.slice A7 n7 c7) ([(⟨1, 0, ⟨#[]⟩⟩ : DValue)] : List DValue), boxC B6 24 [.slice A4 n4 c4, .slice A5 n5 c5], ownC rDCell 42 (.slice A5 n5 c5) ([(⟨11, 0, 0, 0, [], []⟩ : DCell)] : List DCell), ownC rDCell 42 (.slice A4 n4 c4) ([(⟨11, 0, 0, 0, [], ([y1, y2] : List DValue)⟩ : DCell), (⟨11, 0, 0, 0, [], []⟩ : DCell)] : List DCell), slC rDValue (.slice A3 n3 c3) ([y1, y2] : List DValue)]) ?_ subT (cv_refl _)
            refine N_ev 40 rfl (by kernel_rfl) (ev_assign rfl) rfl rfl rfl ?_
            refine N_done (by kernel_rfl) ?_
            refine run ?_
            obtain rfl := Option.some.inj h
            exact endG1 rfl rfl (cv_sel [] 20 rfl rfl) ⟨rfl, rfl⟩
      · replace hb42 := cond_f g42 hb42
        replace hb42 : false = b42 := Option.some.inj hb42
        obtain ⟨b64, hb64, h⟩ := bind_elim h
        have g64 : b42 = false := by first | exact g53 | exact hb42.symm | simp_all
        replace hb64 := cond_f g64 hb64
        replace hb64 : false = b64 := Option.some.inj hb64
        refine G_sub (t := [(0, .bool false), (1, .pointer (some ⟨B6, 0, none⟩)), (2, .pointer (some ⟨B12, 0, none⟩))]) ?_ subT (cv_refl _)
        refine G_monoV (by kernel_rfl) 40 [] [22, 23, 24, 25, 26, 27, 28, 29, 30, 31, 32, 33, 34, 35, 36, 37, 38, 39, 40, 41, 42, 43, 44, 45, 46, 47, 48, 49, 50, 51, 52, 53, 54, 55, 56, 57, 58, 59, 60, 61] [[], [], [1], [0, 2], [], [3, 4], [5], [6], [6], [6, 8], [6, 7, 9], [6], [6, 10, 11], [6, 12], [13], [14], [14], [14, 16], [14, 15, 17], [14], [14, 18, 19], [14, 20], [21], [22], [22], [22], [22], [22], [22], [22], [22, 29], [30], [31], [31], [31], [31], [31], [31], [31], [31, 38]] [aV (.agg #[.slice A4 n4 c4, .slice A5 n5 c5]),
 aV (.agg #[.int .i64 y13.Kind, .int .i64 y13.N, .string y13.S]),
 aS (fun u => ownC rDValue 38 u ([y13] : List DValue)),
 aS (fun u => ownC (rInt .i64) 3 u y16),
 aS (fun u => ownC (rInt .i64) 3 u ([1, 3, 2] : List Int)),
 aV (.bool y21),
 aV (.bool y21),
 aV (.agg #[.slice A4 n4 c4, .slice A5 n5 c5]),
 aV (.agg #[.int .i64 y23.Kind, .int .i64 y23.N, .string y23.S]),
 aS (fun u => ownC rDValue 38 u ([y23] : List DValue)),
 aS (fun u => ownC (rInt .i64) 3 u y26),
 aS (fun u => ownC (rInt .i64) 3 u ([1, 2, 3] : List Int)),
 aV (.bool y31),
 aV (.bool b22),
 aV (.bool b22),
 aV (.agg #[.slice A11 n11 c11, .slice none 0 0]),
 aV (.agg #[.int .i64 y33.Kind, .int .i64 y33.N, .string y33.S]),
 aS (fun u => ownC rDValue 38 u ([y33] : List DValue)),
 aS (fun u => ownC (rInt .i64) 3 u y36),
 aS (fun u => ownC (rInt .i64) 3 u ([1] : List Int)),
 aV (.bool y41),
 aV (.bool b32),
 aV (.bool b32),
 aV (undef),
 aV (undef),
 aV (undef),
 aV (undef),
 aV (undef),
 aV (undef),
 aV (undef),
 aV (.bool b42),
 aV (.bool b42),
 aV (undef),
 aV (undef),
 aV (undef),
 aV (undef),
 aV (undef),
 aV (undef),
 aV (undef),
 aV (.bool b64)] (by kernel_rfl) rfl ?_ ?_ ?_
        · exact qs_nil
        · refine steps_cons rfl ?_ ?_
          · exact X_ev (ev_pick_f' g64 rfl rfl) rfl (cvp (by rw [hb64]; rfl) (cv_refl _))
          refine steps_cons rfl ?_ ?_
          · exact X_no (g_tf g64 rfl) (cvp rfl (cv_refl _))
          refine steps_cons rfl ?_ ?_
          · exact X_no (g_tf g64 rfl) (cvp rfl (cv_refl _))
          refine steps_cons rfl ?_ ?_
          · exact X_no (g_tf g64 rfl) (cvp rfl (cv_refl _))
          refine steps_cons rfl ?_ ?_
          · exact X_no (g_tf g64 rfl) (cvp rfl (cv_refl _))
          refine steps_cons rfl ?_ ?_
          · exact X_no (g_tf g64 rfl) (cvp rfl (cv_refl _))
          refine steps_cons rfl ?_ ?_
          · exact X_no (g_tf g64 rfl) (cvp rfl (cv_refl _))
          refine steps_cons rfl ?_ ?_
          · exact X_no (g_tf g64 rfl) (cvp rfl (cv_refl _))
          refine steps_cons rfl ?_ ?_
          · exact X_ev (ev_move rfl) rfl (cvp rfl (cv_refl _))
          refine steps_cons rfl ?_ ?_
          · exact X_ev (ev_pick_f' g42 rfl rfl) rfl (cvp (by rw [hb42]; rfl) (cv_refl _))
          refine steps_cons rfl ?_ ?_
          · exact X_no (g_tf g42 rfl) (cvp rfl (cv_refl _))
          refine steps_cons rfl ?_ ?_
          · exact X_no (g_tf g42 rfl) (cvp rfl (cv_refl _))
          refine steps_cons rfl ?_ ?_
          · exact X_no (g_tf g42 rfl) (cvp rfl (cv_refl _))
          refine steps_cons rfl ?_ ?_
          · exact X_no (g_tf g42 rfl) (cvp rfl (cv_refl _))
          refine steps_cons rfl ?_ ?_
          · exact X_no (g_tf g42 rfl) (cvp rfl (cv_refl _))
          refine steps_cons rfl ?_ ?_
          · exact X_no (g_tf g42 rfl) (cvp rfl (cv_refl _))
          refine steps_cons rfl ?_ ?_
          · exact X_no (g_tf g42 rfl) (cvp rfl (cv_refl _))
          refine steps_cons rfl ?_ ?_
          · exact X_ev (ev_move rfl) rfl (cvp rfl (cv_refl _))
          refine steps_cons rfl ?_ ?_
          · exact X_ev (ev_pick_t' g32 rfl rfl) rfl (cvp (by rw [hb32]; rfl) (cv_refl _))
          refine steps_cons rfl ?_ ?_
          · intro A38 n38 c38 A40 n40 c40
            refine X_op (op_callR (pantomimeref19_Same_ok hy41) call25 rfl (mem_cons (lent_own (i := 0) rfl) (mem_cons (lent_own (i := 1) rfl) mem_nil)) pantomimeref19_Same_free) (g_tt g32 rfl) ?_
            rintro _ _ ⟨_, ⟨rfl, rfl⟩, rfl⟩
            exact cvp rfl (cv_refl _)
          refine steps_cons rfl ?_ ?_
          · refine X_op (op_bslice (R := (rInt .i64)) (vss := [[.int .i64 1]]) (xs := [1]) rfl (bsl_31_1 _) rfl rfl (fun _ _ hr => .cons rfl All2.nil)) (g_tt g32 rfl) ?_
            rintro _ _ ⟨A39, n39, c39, rfl, rfl⟩
            exact cvp ⟨_, _, _, rfl⟩ (cv_refl _)
          refine steps_cons rfl ?_ ?_
          · intro A35 n35 c35
            refine X_op (op_callR (reach_Live_ok hy36) call16 rfl (mem_cons (lent_own (i := 2) rfl) (mem_cons (lent_nil) (mem_cons (lent_own (i := 0) rfl) mem_nil))) reach_Live_free) (g_tt g32 rfl) ?_
            rintro _ _ ⟨_, ⟨A37, n37, c37, rfl, rfl⟩, rfl⟩
            exact cvp ⟨_, _, _, rfl⟩ (cv_refl _)
          refine steps_cons rfl ?_ ?_
          · refine X_op (op_bslice (R := rDValue) (vss := [[.int .i64 y33.Kind, .int .i64 y33.N, .string y33.S]]) (xs := [y33]) rfl (bsl_25_1 _ _ _) rfl rfl (fun _ _ hr => .cons rfl All2.nil)) (g_tt g32 rfl) ?_
            rintro _ _ ⟨A34, n34, c34, rfl, rfl⟩
            exact cvp ⟨_, _, _, rfl⟩ (cv_refl _)
          refine steps_cons rfl ?_ ?_
          · refine X_op (op_callR (pantomimelaw19_object_ok hy33) call47 rfl (mem_nil) pantomimelaw19_object_free) (g_tt g32 rfl) ?_
            rintro _ _ ⟨_, ⟨rfl, rfl⟩, rfl⟩
            exact cvp rfl (cv_refl _)
          refine steps_cons rfl ?_ ?_
          · exact X_rd (rd_boxS (us := [.slice A11 n11 c11, .slice none 0 0]) 0 rfl rfl agg24 rfl) (g_tt g32 rfl) (cvp rfl (cv_refl _))
          refine steps_cons rfl ?_ ?_
          · exact X_ev (ev_move rfl) rfl (cvp rfl (cv_refl _))
          refine steps_cons rfl ?_ ?_
          · exact X_ev (ev_pick_t' g22 rfl rfl) rfl (cvp (by rw [hb22]; rfl) (cv_refl _))
          refine steps_cons rfl ?_ ?_
          · intro A28 n28 c28 A30 n30 c30
            refine X_op (op_callR (pantomimeref19_Same_ok hy31) call25 rfl (mem_cons (lent_own (i := 0) rfl) (mem_cons (lent_own (i := 1) rfl) mem_nil)) pantomimeref19_Same_free) (g_tt g22 rfl) ?_
            rintro _ _ ⟨_, ⟨rfl, rfl⟩, rfl⟩
            exact cvp rfl (cv_refl _)
          refine steps_cons rfl ?_ ?_
          · refine X_op (op_bslice (R := (rInt .i64)) (vss := [[.int .i64 1], [.int .i64 2], [.int .i64 3]]) (xs := [1, 2, 3]) rfl (bsl_31_3 _ _ _) rfl rfl (fun _ _ hr => .cons rfl (.cons rfl (.cons rfl All2.nil)))) (g_tt g22 rfl) ?_
            rintro _ _ ⟨A29, n29, c29, rfl, rfl⟩
            exact cvp ⟨_, _, _, rfl⟩ (cv_refl _)
          refine steps_cons rfl ?_ ?_
          · intro A25 n25 c25
            refine X_op (op_callR (reach_Live_ok hy26) call16 rfl (mem_cons (lent_own (i := 7) rfl) (mem_cons (lent_own (i := 6) rfl) (mem_cons (lent_own (i := 0) rfl) mem_nil))) reach_Live_free) (g_tt g22 rfl) ?_
            rintro _ _ ⟨_, ⟨A27, n27, c27, rfl, rfl⟩, rfl⟩
            exact cvp ⟨_, _, _, rfl⟩ (cv_refl _)
          refine steps_cons rfl ?_ ?_
          · refine X_op (op_bslice (R := rDValue) (vss := [[.int .i64 y23.Kind, .int .i64 y23.N, .string y23.S]]) (xs := [y23]) rfl (bsl_25_1 _ _ _) rfl rfl (fun _ _ hr => .cons rfl All2.nil)) (g_tt g22 rfl) ?_
            rintro _ _ ⟨A24, n24, c24, rfl, rfl⟩
            exact cvp ⟨_, _, _, rfl⟩ (cv_refl _)
          refine steps_cons rfl ?_ ?_
          · refine X_op (op_callR (pantomimelaw19_object_ok hy23) call47 rfl (mem_nil) pantomimelaw19_object_free) (g_tt g22 rfl) ?_
            rintro _ _ ⟨_, ⟨rfl, rfl⟩, rfl⟩
            exact cvp rfl (cv_refl _)
          refine steps_cons rfl ?_ ?_
          · exact X_rd (rd_boxS (us := [.slice A4 n4 c4, .slice A5 n5 c5]) 4 rfl rfl agg24 rfl) (g_tt g22 rfl) (cvp rfl (cv_refl _))
          refine steps_cons rfl ?_ ?_
          · exact X_ev (ev_move rfl) rfl (cvp rfl (cv_refl _))
          refine steps_cons rfl ?_ ?_
          · intro A18 n18 c18 A20 n20 c20
            refine X_op (op_callR (pantomimeref19_Same_ok hy21) call25 rfl (mem_cons (lent_own (i := 0) rfl) (mem_cons (lent_own (i := 1) rfl) mem_nil)) pantomimeref19_Same_free) rfl ?_
            rintro _ _ ⟨_, ⟨rfl, rfl⟩, rfl⟩
            exact cvp rfl (cv_refl _)
          refine steps_cons rfl ?_ ?_
          · refine X_op (op_bslice (R := (rInt .i64)) (vss := [[.int .i64 1], [.int .i64 3], [.int .i64 2]]) (xs := [1, 3, 2]) rfl (bsl_31_3 _ _ _) rfl rfl (fun _ _ hr => .cons rfl (.cons rfl (.cons rfl All2.nil)))) rfl ?_
            rintro _ _ ⟨A19, n19, c19, rfl, rfl⟩
            exact cvp ⟨_, _, _, rfl⟩ (cv_refl _)
          refine steps_cons rfl ?_ ?_
          · intro A15 n15 c15
            refine X_op (op_callR (reach_Order_ok hy16) call23 rfl (mem_cons (lent_own (i := 7) rfl) (mem_cons (lent_own (i := 6) rfl) (mem_cons (lent_own (i := 0) rfl) mem_nil))) reach_Order_free) rfl ?_
            rintro _ _ ⟨_, ⟨A17, n17, c17, rfl, rfl⟩, rfl⟩
            exact cvp ⟨_, _, _, rfl⟩ (cv_refl _)
          refine steps_cons rfl ?_ ?_
          · refine X_op (op_bslice (R := rDValue) (vss := [[.int .i64 y13.Kind, .int .i64 y13.N, .string y13.S]]) (xs := [y13]) rfl (bsl_25_1 _ _ _) rfl rfl (fun _ _ hr => .cons rfl All2.nil)) rfl ?_
            rintro _ _ ⟨A14, n14, c14, rfl, rfl⟩
            exact cvp ⟨_, _, _, rfl⟩ (cv_refl _)
          refine steps_cons rfl ?_ ?_
          · refine X_op (op_callR (pantomimelaw19_object_ok hy13) call47 rfl (mem_nil) pantomimelaw19_object_free) rfl ?_
            rintro _ _ ⟨_, ⟨rfl, rfl⟩, rfl⟩
            exact cvp rfl (cv_refl _)
          refine steps_cons rfl ?_ ?_
          · exact X_rd (rd_boxS (us := [.slice A4 n4 c4, .slice A5 n5 c5]) 4 rfl rfl agg24 rfl) rfl (cvp rfl (cv_refl _))
          exact steps_nil
        · intro A15 n15 c15 A18 n18 c18 A20 n20 c20 A25 n25 c25 A28 n28 c28 A30 n30 c30 A35 n35 c35 A38 n38 c38 A40 n40 c40
          refine N_sub (t := [(61, .bool b64), (0, .bool false), (1, .pointer (some ⟨B6, 0, none⟩)), (2, .pointer (some ⟨B12, 0, none⟩))]) (L' := [ownC rDValue 38 (.slice A15 n15 c15) ([y13] : List DValue), ownC (rInt .i64) 3 (.slice A18 n18 c18) y16, ownC (rInt .i64) 3 (.slice A20 n20 c20) ([1, 3, 2] : List Int), ownC rDValue 38 (.slice A25 n25 c25) ([y23] : List DValue), ownC (rInt .i64) 3 (.slice A28 n28 c28) y26, ownC (rInt .i64) 3 (.slice A30 n30 c30) ([1, 2, 3] : List Int), ownC rDValue 38 (.slice A35 n35 c35) ([y33] : List DValue), ownC (rInt .i64) 3 (.slice A38 n38 c38) y36, ownC (rInt .i64) 3 (.slice A40 n40 c40) ([1] : List Int), boxC B12 24 [.slice A11 n11 c11, .slice none 0 0], ownC rDCell 42 (.slice A11 n11 c11) ([(⟨8, 0, 0, 0, ([(⟨1, 0, ⟨#[]⟩⟩ : DValue)] : List DValue), ([y8, y9] : List DValue)⟩ : DCell), (⟨11, 0, 0, 0, [], []⟩ : DCell), (⟨11, 0, 0, 0, [], []⟩ : DCell)] : List DCell), slC rDValue (.slice A10 n10 c10) ([y8, y9] : List DValue), slC rDValue (.slice A7 n7 c7) ([(⟨1, 0, ⟨#[]⟩⟩ : DValue)] : List DValue), boxC B6 24 [.slice A4 n4 c4, .slice A5 n5 c5], ownC rDCell 42 (.slice A5 n5 c5) ([(⟨11, 0, 0, 0, [], []⟩ : DCell)] : List DCell), ownC rDCell 42 (.slice A4 n4 c4) ([(⟨11, 0, 0, 0, [], ([y1, y2] : List DValue)⟩ : DCell), (⟨11, 0, 0, 0, [], []⟩ : DCell)] : List DCell), slC rDValue (.slice A3 n3 c3) ([y1, y2] : List DValue)]) ?_ subT (cv_refl _)
          refine N_ev 40 rfl (by kernel_rfl) (ev_assign rfl) rfl rfl rfl ?_
          refine N_done (by kernel_rfl) ?_
          refine run ?_
          obtain rfl := Option.some.inj h
          exact endG1 rfl rfl (cv_sel [] 17 rfl rfl) ⟨rfl, rfl⟩
    · replace hb32 := cond_f g32 hb32
      replace hb32 : false = b32 := Option.some.inj hb32
      obtain ⟨b75, hb75, h⟩ := bind_elim h
      have g75 : b32 = false := by first | exact g42 | exact hb32.symm | simp_all
      replace hb75 := cond_f g75 hb75
      replace hb75 : false = b75 := Option.some.inj hb75
      obtain ⟨b76, hb76, h⟩ := bind_elim h
      have g76 : b75 = false := by first | exact hb75 | exact hb75.symm | simp_all
      replace hb76 := cond_f g76 hb76
      replace hb76 : false = b76 := Option.some.inj hb76
      refine G_sub (t := [(0, .bool false), (1, .pointer (some ⟨B6, 0, none⟩)), (2, .pointer (some ⟨B12, 0, none⟩))]) ?_ subT (cv_refl _)
      refine G_monoV (by kernel_rfl) 40 [] [22, 23, 24, 25, 26, 27, 28, 29, 30, 31, 32, 33, 34, 35, 36, 37, 38, 39, 40, 41, 42, 43, 44, 45, 46, 47, 48, 49, 50, 51, 52, 53, 54, 55, 56, 57, 58, 59, 60, 61] [[], [], [1], [0, 2], [], [3, 4], [5], [6], [6], [6, 8], [6, 7, 9], [6], [6, 10, 11], [6, 12], [13], [14], [14], [14], [14], [14], [14], [14, 20], [21], [22], [22], [22], [22], [22], [22], [22], [22, 29], [30], [31], [31], [31], [31], [31], [31], [31], [31, 38]] [aV (.agg #[.slice A4 n4 c4, .slice A5 n5 c5]),
 aV (.agg #[.int .i64 y13.Kind, .int .i64 y13.N, .string y13.S]),
 aS (fun u => ownC rDValue 38 u ([y13] : List DValue)),
 aS (fun u => ownC (rInt .i64) 3 u y16),
 aS (fun u => ownC (rInt .i64) 3 u ([1, 3, 2] : List Int)),
 aV (.bool y21),
 aV (.bool y21),
 aV (.agg #[.slice A4 n4 c4, .slice A5 n5 c5]),
 aV (.agg #[.int .i64 y23.Kind, .int .i64 y23.N, .string y23.S]),
 aS (fun u => ownC rDValue 38 u ([y23] : List DValue)),
 aS (fun u => ownC (rInt .i64) 3 u y26),
 aS (fun u => ownC (rInt .i64) 3 u ([1, 2, 3] : List Int)),
 aV (.bool y31),
 aV (.bool b22),
 aV (.bool b22),
 aV (undef),
 aV (undef),
 aV (undef),
 aV (undef),
 aV (undef),
 aV (undef),
 aV (.bool b32),
 aV (.bool b32),
 aV (undef),
 aV (undef),
 aV (undef),
 aV (undef),
 aV (undef),
 aV (undef),
 aV (undef),
 aV (.bool b75),
 aV (.bool b75),
 aV (undef),
 aV (undef),
 aV (undef),
 aV (undef),
 aV (undef),
 aV (undef),
 aV (undef),
 aV (.bool b76)] (by kernel_rfl) rfl ?_ ?_ ?_
      · exact qs_nil
      · refine steps_cons rfl ?_ ?_
        · exact X_ev (ev_pick_f' g76 rfl rfl) rfl (cvp (by rw [hb76]; rfl) (cv_refl _))
        refine steps_cons rfl ?_ ?_
        · exact X_no (g_tf g76 rfl) (cvp rfl (cv_refl _))
        refine steps_cons rfl ?_ ?_
        · exact X_no (g_tf g76 rfl) (cvp rfl (cv_refl _))
        refine steps_cons rfl ?_ ?_
        · exact X_no (g_tf g76 rfl) (cvp rfl (cv_refl _))
        refine steps_cons rfl ?_ ?_
        · exact X_no (g_tf g76 rfl) (cvp rfl (cv_refl _))
        refine steps_cons rfl ?_ ?_
        · exact X_no (g_tf g76 rfl) (cvp rfl (cv_refl _))
        refine steps_cons rfl ?_ ?_
        · exact X_no (g_tf g76 rfl) (cvp rfl (cv_refl _))
        refine steps_cons rfl ?_ ?_
        · exact X_no (g_tf g76 rfl) (cvp rfl (cv_refl _))
        refine steps_cons rfl ?_ ?_
        · exact X_ev (ev_move rfl) rfl (cvp rfl (cv_refl _))
        refine steps_cons rfl ?_ ?_
        · exact X_ev (ev_pick_f' g75 rfl rfl) rfl (cvp (by rw [hb75]; rfl) (cv_refl _))
        refine steps_cons rfl ?_ ?_
        · exact X_no (g_tf g75 rfl) (cvp rfl (cv_refl _))
        refine steps_cons rfl ?_ ?_
        · exact X_no (g_tf g75 rfl) (cvp rfl (cv_refl _))
        refine steps_cons rfl ?_ ?_
        · exact X_no (g_tf g75 rfl) (cvp rfl (cv_refl _))
        refine steps_cons rfl ?_ ?_
        · exact X_no (g_tf g75 rfl) (cvp rfl (cv_refl _))
        refine steps_cons rfl ?_ ?_
        · exact X_no (g_tf g75 rfl) (cvp rfl (cv_refl _))
        refine steps_cons rfl ?_ ?_
        · exact X_no (g_tf g75 rfl) (cvp rfl (cv_refl _))
        refine steps_cons rfl ?_ ?_
        · exact X_no (g_tf g75 rfl) (cvp rfl (cv_refl _))
        refine steps_cons rfl ?_ ?_
        · exact X_ev (ev_move rfl) rfl (cvp rfl (cv_refl _))
        refine steps_cons rfl ?_ ?_
        · exact X_ev (ev_pick_f' g32 rfl rfl) rfl (cvp (by rw [hb32]; rfl) (cv_refl _))
        refine steps_cons rfl ?_ ?_
        · exact X_no (g_tf g32 rfl) (cvp rfl (cv_refl _))
        refine steps_cons rfl ?_ ?_
        · exact X_no (g_tf g32 rfl) (cvp rfl (cv_refl _))
        refine steps_cons rfl ?_ ?_
        · exact X_no (g_tf g32 rfl) (cvp rfl (cv_refl _))
        refine steps_cons rfl ?_ ?_
        · exact X_no (g_tf g32 rfl) (cvp rfl (cv_refl _))
        refine steps_cons rfl ?_ ?_
        · exact X_no (g_tf g32 rfl) (cvp rfl (cv_refl _))
        refine steps_cons rfl ?_ ?_
        · exact X_no (g_tf g32 rfl) (cvp rfl (cv_refl _))
        refine steps_cons rfl ?_ ?_
        · exact X_ev (ev_move rfl) rfl (cvp rfl (cv_refl _))
        refine steps_cons rfl ?_ ?_
        · exact X_ev (ev_pick_t' g22 rfl rfl) rfl (cvp (by rw [hb22]; rfl) (cv_refl _))
        refine steps_cons rfl ?_ ?_
        · intro A28 n28 c28 A30 n30 c30
          refine X_op (op_callR (pantomimeref19_Same_ok hy31) call25 rfl (mem_cons (lent_own (i := 0) rfl) (mem_cons (lent_own (i := 1) rfl) mem_nil)) pantomimeref19_Same_free) (g_tt g22 rfl) ?_
          rintro _ _ ⟨_, ⟨rfl, rfl⟩, rfl⟩
          exact cvp rfl (cv_refl _)
        refine steps_cons rfl ?_ ?_
        · refine X_op (op_bslice (R := (rInt .i64)) (vss := [[.int .i64 1], [.int .i64 2], [.int .i64 3]]) (xs := [1, 2, 3]) rfl (bsl_31_3 _ _ _) rfl rfl (fun _ _ hr => .cons rfl (.cons rfl (.cons rfl All2.nil)))) (g_tt g22 rfl) ?_
          rintro _ _ ⟨A29, n29, c29, rfl, rfl⟩
          exact cvp ⟨_, _, _, rfl⟩ (cv_refl _)
        refine steps_cons rfl ?_ ?_
        · intro A25 n25 c25
          refine X_op (op_callR (reach_Live_ok hy26) call16 rfl (mem_cons (lent_own (i := 7) rfl) (mem_cons (lent_own (i := 6) rfl) (mem_cons (lent_own (i := 0) rfl) mem_nil))) reach_Live_free) (g_tt g22 rfl) ?_
          rintro _ _ ⟨_, ⟨A27, n27, c27, rfl, rfl⟩, rfl⟩
          exact cvp ⟨_, _, _, rfl⟩ (cv_refl _)
        refine steps_cons rfl ?_ ?_
        · refine X_op (op_bslice (R := rDValue) (vss := [[.int .i64 y23.Kind, .int .i64 y23.N, .string y23.S]]) (xs := [y23]) rfl (bsl_25_1 _ _ _) rfl rfl (fun _ _ hr => .cons rfl All2.nil)) (g_tt g22 rfl) ?_
          rintro _ _ ⟨A24, n24, c24, rfl, rfl⟩
          exact cvp ⟨_, _, _, rfl⟩ (cv_refl _)
        refine steps_cons rfl ?_ ?_
        · refine X_op (op_callR (pantomimelaw19_object_ok hy23) call47 rfl (mem_nil) pantomimelaw19_object_free) (g_tt g22 rfl) ?_
          rintro _ _ ⟨_, ⟨rfl, rfl⟩, rfl⟩
          exact cvp rfl (cv_refl _)
        refine steps_cons rfl ?_ ?_
        · exact X_rd (rd_boxS (us := [.slice A4 n4 c4, .slice A5 n5 c5]) 4 rfl rfl agg24 rfl) (g_tt g22 rfl) (cvp rfl (cv_refl _))
        refine steps_cons rfl ?_ ?_
        · exact X_ev (ev_move rfl) rfl (cvp rfl (cv_refl _))
        refine steps_cons rfl ?_ ?_
        · intro A18 n18 c18 A20 n20 c20
          refine X_op (op_callR (pantomimeref19_Same_ok hy21) call25 rfl (mem_cons (lent_own (i := 0) rfl) (mem_cons (lent_own (i := 1) rfl) mem_nil)) pantomimeref19_Same_free) rfl ?_
          rintro _ _ ⟨_, ⟨rfl, rfl⟩, rfl⟩
          exact cvp rfl (cv_refl _)
        refine steps_cons rfl ?_ ?_
        · refine X_op (op_bslice (R := (rInt .i64)) (vss := [[.int .i64 1], [.int .i64 3], [.int .i64 2]]) (xs := [1, 3, 2]) rfl (bsl_31_3 _ _ _) rfl rfl (fun _ _ hr => .cons rfl (.cons rfl (.cons rfl All2.nil)))) rfl ?_
          rintro _ _ ⟨A19, n19, c19, rfl, rfl⟩
          exact cvp ⟨_, _, _, rfl⟩ (cv_refl _)
        refine steps_cons rfl ?_ ?_
        · intro A15 n15 c15
          refine X_op (op_callR (reach_Order_ok hy16) call23 rfl (mem_cons (lent_own (i := 7) rfl) (mem_cons (lent_own (i := 6) rfl) (mem_cons (lent_own (i := 0) rfl) mem_nil))) reach_Order_free) rfl ?_
          rintro _ _ ⟨_, ⟨A17, n17, c17, rfl, rfl⟩, rfl⟩
          exact cvp ⟨_, _, _, rfl⟩ (cv_refl _)
        refine steps_cons rfl ?_ ?_
        · refine X_op (op_bslice (R := rDValue) (vss := [[.int .i64 y13.Kind, .int .i64 y13.N, .string y13.S]]) (xs := [y13]) rfl (bsl_25_1 _ _ _) rfl rfl (fun _ _ hr => .cons rfl All2.nil)) rfl ?_
          rintro _ _ ⟨A14, n14, c14, rfl, rfl⟩
          exact cvp ⟨_, _, _, rfl⟩ (cv_refl _)
        refine steps_cons rfl ?_ ?_
        · refine X_op (op_callR (pantomimelaw19_object_ok hy13) call47 rfl (mem_nil) pantomimelaw19_object_free) rfl ?_
          rintro _ _ ⟨_, ⟨rfl, rfl⟩, rfl⟩
          exact cvp rfl (cv_refl _)
        refine steps_cons rfl ?_ ?_
        · exact X_rd (rd_boxS (us := [.slice A4 n4 c4, .slice A5 n5 c5]) 4 rfl rfl agg24 rfl) rfl (cvp rfl (cv_refl _))
        exact steps_nil
      · intro A15 n15 c15 A18 n18 c18 A20 n20 c20 A25 n25 c25 A28 n28 c28 A30 n30 c30
        refine N_sub (t := [(61, .bool b76), (0, .bool false), (1, .pointer (some ⟨B6, 0, none⟩)), (2, .pointer (some ⟨B12, 0, none⟩))]) (L' := [ownC rDValue 38 (.slice A15 n15 c15) ([y13] : List DValue), ownC (rInt .i64) 3 (.slice A18 n18 c18) y16, ownC (rInt .i64) 3 (.slice A20 n20 c20) ([1, 3, 2] : List Int), ownC rDValue 38 (.slice A25 n25 c25) ([y23] : List DValue), ownC (rInt .i64) 3 (.slice A28 n28 c28) y26, ownC (rInt .i64) 3 (.slice A30 n30 c30) ([1, 2, 3] : List Int), boxC B12 24 [.slice A11 n11 c11, .slice none 0 0], ownC rDCell 42 (.slice A11 n11 c11) ([(⟨8, 0, 0, 0, ([(⟨1, 0, ⟨#[]⟩⟩ : DValue)] : List DValue), ([y8, y9] : List DValue)⟩ : DCell), (⟨11, 0, 0, 0, [], []⟩ : DCell), (⟨11, 0, 0, 0, [], []⟩ : DCell)] : List DCell), slC rDValue (.slice A10 n10 c10) ([y8, y9] : List DValue), slC rDValue (.slice A7 n7 c7) ([(⟨1, 0, ⟨#[]⟩⟩ : DValue)] : List DValue), boxC B6 24 [.slice A4 n4 c4, .slice A5 n5 c5], ownC rDCell 42 (.slice A5 n5 c5) ([(⟨11, 0, 0, 0, [], []⟩ : DCell)] : List DCell), ownC rDCell 42 (.slice A4 n4 c4) ([(⟨11, 0, 0, 0, [], ([y1, y2] : List DValue)⟩ : DCell), (⟨11, 0, 0, 0, [], []⟩ : DCell)] : List DCell), slC rDValue (.slice A3 n3 c3) ([y1, y2] : List DValue)]) ?_ subT (cv_refl _)
        refine N_ev 40 rfl (by kernel_rfl) (ev_assign rfl) rfl rfl rfl ?_
        refine N_done (by kernel_rfl) ?_
        refine run ?_
        obtain rfl := Option.some.inj h
        exact endG1 rfl rfl (cv_sel [] 14 rfl rfl) ⟨rfl, rfl⟩
  · replace hb22 := cond_f g22 hb22
    replace hb22 : false = b22 := Option.some.inj hb22
    obtain ⟨b97, hb97, h⟩ := bind_elim h
    have g97 : b22 = false := by first | exact g32 | exact hb22.symm | simp_all
    replace hb97 := cond_f g97 hb97
    replace hb97 : false = b97 := Option.some.inj hb97
    obtain ⟨b98, hb98, h⟩ := bind_elim h
    have g98 : b97 = false := by first | exact hb97 | exact hb97.symm | simp_all
    replace hb98 := cond_f g98 hb98
    replace hb98 : false = b98 := Option.some.inj hb98
    obtain ⟨b99, hb99, h⟩ := bind_elim h
    have g99 : b98 = false := by first | exact hb98 | exact hb98.symm | simp_all
    replace hb99 := cond_f g99 hb99
    replace hb99 : false = b99 := Option.some.inj hb99
    refine G_sub (t := [(0, .bool false), (1, .pointer (some ⟨B6, 0, none⟩)), (2, .pointer (some ⟨B12, 0, none⟩))]) ?_ subT (cv_refl _)
    refine G_monoV (by kernel_rfl) 40 [] [22, 23, 24, 25, 26, 27, 28, 29, 30, 31, 32, 33, 34, 35, 36, 37, 38, 39, 40, 41, 42, 43, 44, 45, 46, 47, 48, 49, 50, 51, 52, 53, 54, 55, 56, 57, 58, 59, 60, 61] [[], [], [1], [0, 2], [], [3, 4], [5], [6], [6], [6], [6], [6], [6], [6, 12], [13], [14], [14], [14], [14], [14], [14], [14, 20], [21], [22], [22], [22], [22], [22], [22], [22], [22, 29], [30], [31], [31], [31], [31], [31], [31], [31], [31, 38]] [aV (.agg #[.slice A4 n4 c4, .slice A5 n5 c5]),
 aV (.agg #[.int .i64 y13.Kind, .int .i64 y13.N, .string y13.S]),
 aS (fun u => ownC rDValue 38 u ([y13] : List DValue)),
 aS (fun u => ownC (rInt .i64) 3 u y16),
 aS (fun u => ownC (rInt .i64) 3 u ([1, 3, 2] : List Int)),
 aV (.bool y21),
 aV (.bool y21),
 aV (undef),
 aV (undef),
 aV (undef),
 aV (undef),
 aV (undef),
 aV (undef),
 aV (.bool b22),
 aV (.bool b22),
 aV (undef),
 aV (undef),
 aV (undef),
 aV (undef),
 aV (undef),
 aV (undef),
 aV (.bool b97),
 aV (.bool b97),
 aV (undef),
 aV (undef),
 aV (undef),
 aV (undef),
 aV (undef),
 aV (undef),
 aV (undef),
 aV (.bool b98),
 aV (.bool b98),
 aV (undef),
 aV (undef),
 aV (undef),
 aV (undef),
 aV (undef),
 aV (undef),
 aV (undef),
 aV (.bool b99)] (by kernel_rfl) rfl ?_ ?_ ?_
    · exact qs_nil
    · refine steps_cons rfl ?_ ?_
      · exact X_ev (ev_pick_f' g99 rfl rfl) rfl (cvp (by rw [hb99]; rfl) (cv_refl _))
      refine steps_cons rfl ?_ ?_
      · exact X_no (g_tf g99 rfl) (cvp rfl (cv_refl _))
      refine steps_cons rfl ?_ ?_
      · exact X_no (g_tf g99 rfl) (cvp rfl (cv_refl _))
      refine steps_cons rfl ?_ ?_
      · exact X_no (g_tf g99 rfl) (cvp rfl (cv_refl _))
      refine steps_cons rfl ?_ ?_
      · exact X_no (g_tf g99 rfl) (cvp rfl (cv_refl _))
      refine steps_cons rfl ?_ ?_
      · exact X_no (g_tf g99 rfl) (cvp rfl (cv_refl _))
      refine steps_cons rfl ?_ ?_
      · exact X_no (g_tf g99 rfl) (cvp rfl (cv_refl _))
      refine steps_cons rfl ?_ ?_
      · exact X_no (g_tf g99 rfl) (cvp rfl (cv_refl _))
      refine steps_cons rfl ?_ ?_
      · exact X_ev (ev_move rfl) rfl (cvp rfl (cv_refl _))
      refine steps_cons rfl ?_ ?_
      · exact X_ev (ev_pick_f' g98 rfl rfl) rfl (cvp (by rw [hb98]; rfl) (cv_refl _))
      refine steps_cons rfl ?_ ?_
      · exact X_no (g_tf g98 rfl) (cvp rfl (cv_refl _))
      refine steps_cons rfl ?_ ?_
      · exact X_no (g_tf g98 rfl) (cvp rfl (cv_refl _))
      refine steps_cons rfl ?_ ?_
      · exact X_no (g_tf g98 rfl) (cvp rfl (cv_refl _))
      refine steps_cons rfl ?_ ?_
      · exact X_no (g_tf g98 rfl) (cvp rfl (cv_refl _))
      refine steps_cons rfl ?_ ?_
      · exact X_no (g_tf g98 rfl) (cvp rfl (cv_refl _))
      refine steps_cons rfl ?_ ?_
      · exact X_no (g_tf g98 rfl) (cvp rfl (cv_refl _))
      refine steps_cons rfl ?_ ?_
      · exact X_no (g_tf g98 rfl) (cvp rfl (cv_refl _))
      refine steps_cons rfl ?_ ?_
      · exact X_ev (ev_move rfl) rfl (cvp rfl (cv_refl _))
      refine steps_cons rfl ?_ ?_
      · exact X_ev (ev_pick_f' g97 rfl rfl) rfl (cvp (by rw [hb97]; rfl) (cv_refl _))
      refine steps_cons rfl ?_ ?_
      · exact X_no (g_tf g97 rfl) (cvp rfl (cv_refl _))
      refine steps_cons rfl ?_ ?_
      · exact X_no (g_tf g97 rfl) (cvp rfl (cv_refl _))
      refine steps_cons rfl ?_ ?_
      · exact X_no (g_tf g97 rfl) (cvp rfl (cv_refl _))
      refine steps_cons rfl ?_ ?_
      · exact X_no (g_tf g97 rfl) (cvp rfl (cv_refl _))
      refine steps_cons rfl ?_ ?_
      · exact X_no (g_tf g97 rfl) (cvp rfl (cv_refl _))
      refine steps_cons rfl ?_ ?_
      · exact X_no (g_tf g97 rfl) (cvp rfl (cv_refl _))
      refine steps_cons rfl ?_ ?_
      · exact X_ev (ev_move rfl) rfl (cvp rfl (cv_refl _))
      refine steps_cons rfl ?_ ?_
      · exact X_ev (ev_pick_f' g22 rfl rfl) rfl (cvp (by rw [hb22]; rfl) (cv_refl _))
      refine steps_cons rfl ?_ ?_
      · exact X_no (g_tf g22 rfl) (cvp rfl (cv_refl _))
      refine steps_cons rfl ?_ ?_
      · exact X_no (g_tf g22 rfl) (cvp rfl (cv_refl _))
      refine steps_cons rfl ?_ ?_
      · exact X_no (g_tf g22 rfl) (cvp rfl (cv_refl _))
      refine steps_cons rfl ?_ ?_
      · exact X_no (g_tf g22 rfl) (cvp rfl (cv_refl _))
      refine steps_cons rfl ?_ ?_
      · exact X_no (g_tf g22 rfl) (cvp rfl (cv_refl _))
      refine steps_cons rfl ?_ ?_
      · exact X_no (g_tf g22 rfl) (cvp rfl (cv_refl _))
      refine steps_cons rfl ?_ ?_
      · exact X_ev (ev_move rfl) rfl (cvp rfl (cv_refl _))
      refine steps_cons rfl ?_ ?_
      · intro A18 n18 c18 A20 n20 c20
        refine X_op (op_callR (pantomimeref19_Same_ok hy21) call25 rfl (mem_cons (lent_own (i := 0) rfl) (mem_cons (lent_own (i := 1) rfl) mem_nil)) pantomimeref19_Same_free) rfl ?_
        rintro _ _ ⟨_, ⟨rfl, rfl⟩, rfl⟩
        exact cvp rfl (cv_refl _)
      refine steps_cons rfl ?_ ?_
      · refine X_op (op_bslice (R := (rInt .i64)) (vss := [[.int .i64 1], [.int .i64 3], [.int .i64 2]]) (xs := [1, 3, 2]) rfl (bsl_31_3 _ _ _) rfl rfl (fun _ _ hr => .cons rfl (.cons rfl (.cons rfl All2.nil)))) rfl ?_
        rintro _ _ ⟨A19, n19, c19, rfl, rfl⟩
        exact cvp ⟨_, _, _, rfl⟩ (cv_refl _)
      refine steps_cons rfl ?_ ?_
      · intro A15 n15 c15
        refine X_op (op_callR (reach_Order_ok hy16) call23 rfl (mem_cons (lent_own (i := 7) rfl) (mem_cons (lent_own (i := 6) rfl) (mem_cons (lent_own (i := 0) rfl) mem_nil))) reach_Order_free) rfl ?_
        rintro _ _ ⟨_, ⟨A17, n17, c17, rfl, rfl⟩, rfl⟩
        exact cvp ⟨_, _, _, rfl⟩ (cv_refl _)
      refine steps_cons rfl ?_ ?_
      · refine X_op (op_bslice (R := rDValue) (vss := [[.int .i64 y13.Kind, .int .i64 y13.N, .string y13.S]]) (xs := [y13]) rfl (bsl_25_1 _ _ _) rfl rfl (fun _ _ hr => .cons rfl All2.nil)) rfl ?_
        rintro _ _ ⟨A14, n14, c14, rfl, rfl⟩
        exact cvp ⟨_, _, _, rfl⟩ (cv_refl _)
      refine steps_cons rfl ?_ ?_
      · refine X_op (op_callR (pantomimelaw19_object_ok hy13) call47 rfl (mem_nil) pantomimelaw19_object_free) rfl ?_
        rintro _ _ ⟨_, ⟨rfl, rfl⟩, rfl⟩
        exact cvp rfl (cv_refl _)
      refine steps_cons rfl ?_ ?_
      · exact X_rd (rd_boxS (us := [.slice A4 n4 c4, .slice A5 n5 c5]) 4 rfl rfl agg24 rfl) rfl (cvp rfl (cv_refl _))
      exact steps_nil
    · intro A15 n15 c15 A18 n18 c18 A20 n20 c20
      refine N_sub (t := [(61, .bool b99), (0, .bool false), (1, .pointer (some ⟨B6, 0, none⟩)), (2, .pointer (some ⟨B12, 0, none⟩))]) (L' := [ownC rDValue 38 (.slice A15 n15 c15) ([y13] : List DValue), ownC (rInt .i64) 3 (.slice A18 n18 c18) y16, ownC (rInt .i64) 3 (.slice A20 n20 c20) ([1, 3, 2] : List Int), boxC B12 24 [.slice A11 n11 c11, .slice none 0 0], ownC rDCell 42 (.slice A11 n11 c11) ([(⟨8, 0, 0, 0, ([(⟨1, 0, ⟨#[]⟩⟩ : DValue)] : List DValue), ([y8, y9] : List DValue)⟩ : DCell), (⟨11, 0, 0, 0, [], []⟩ : DCell), (⟨11, 0, 0, 0, [], []⟩ : DCell)] : List DCell), slC rDValue (.slice A10 n10 c10) ([y8, y9] : List DValue), slC rDValue (.slice A7 n7 c7) ([(⟨1, 0, ⟨#[]⟩⟩ : DValue)] : List DValue), boxC B6 24 [.slice A4 n4 c4, .slice A5 n5 c5], ownC rDCell 42 (.slice A5 n5 c5) ([(⟨11, 0, 0, 0, [], []⟩ : DCell)] : List DCell), ownC rDCell 42 (.slice A4 n4 c4) ([(⟨11, 0, 0, 0, [], ([y1, y2] : List DValue)⟩ : DCell), (⟨11, 0, 0, 0, [], []⟩ : DCell)] : List DCell), slC rDValue (.slice A3 n3 c3) ([y1, y2] : List DValue)]) ?_ subT (cv_refl _)
      refine N_ev 40 rfl (by kernel_rfl) (ev_assign rfl) rfl rfl rfl ?_
      refine N_done (by kernel_rfl) ?_
      refine run ?_
      obtain rfl := Option.some.inj h
      exact endG1 rfl rfl (cv_sel [] 11 rfl rfl) ⟨rfl, rfl⟩
theorem pantomimelaw19_goes_free {r : Bool} : ∀ v post, ((fun (u : Value) (post : List Chunk) => u = .bool r ∧ post = [])) v post → ∀ c ∈ post, Free c := by
  rintro _ _ ⟨rfl, rfl⟩; exact mem_nil
def pantomimeref19_copied_j3 (N : Nat) (p4 : (List DCell)) : Option (List DCell) :=
  some p4
def pantomimeref19_copied_l5 (N : Nat) (a0 : (List DCell)) : Nat → (List DCell) → Int → Option (List DCell)
  | 0, _, _ => none
  | m5 + 1, p6, p7 => bif decide (p7 < (a0.length : Int)) then ((getE a0 p7).bind fun x9 => req (fitsL (([] : List DValue).length + x9.Slots.length)) (req (fitsL (([] : List DValue).length + x9.More.length)) (req (fitsL (p6.length + ([(⟨x9.Kind, x9.Shape, x9.Flags, x9.Age, ([] : List DValue) ++ x9.Slots, ([] : List DValue) ++ x9.More⟩ : DCell)] : List DCell).length)) (req (in64 (p7 + 1)) ((pantomimeref19_copied_l5 N a0 m5) (p6 ++ ([(⟨x9.Kind, x9.Shape, x9.Flags, x9.Age, ([] : List DValue) ++ x9.Slots, ([] : List DValue) ++ x9.More⟩ : DCell)] : List DCell)) (p7 + 1)))))) else (pantomimeref19_copied_j3 N p6)
theorem pantomimeref19_copied_l5_s {N m5 : Nat} {a0 : (List DCell)} {p6 : (List DCell)} {p7 : Int} : pantomimeref19_copied_l5 N a0 (m5 + 1) p6 p7 = bif decide (p7 < (a0.length : Int)) then ((getE a0 p7).bind fun x9 => req (fitsL (([] : List DValue).length + x9.Slots.length)) (req (fitsL (([] : List DValue).length + x9.More.length)) (req (fitsL (p6.length + ([(⟨x9.Kind, x9.Shape, x9.Flags, x9.Age, ([] : List DValue) ++ x9.Slots, ([] : List DValue) ++ x9.More⟩ : DCell)] : List DCell).length)) (req (in64 (p7 + 1)) ((pantomimeref19_copied_l5 N a0 m5) (p6 ++ ([(⟨x9.Kind, x9.Shape, x9.Flags, x9.Age, ([] : List DValue) ++ x9.Slots, ([] : List DValue) ++ x9.More⟩ : DCell)] : List DCell)) (p7 + 1)))))) else (pantomimeref19_copied_j3 N p6) := rfl
def pantomimeref19_copied_O (N : Nat) (a0 : (List DCell)) : Option (List DCell) :=
  pantomimeref19_copied_l5 N a0 N ([] : List DCell) 0
theorem pantomimeref19_copied_ok {N : Nat} {a0 : (List DCell)} {r : (List DCell)} (h : pantomimeref19_copied_O N a0 = some r) {A1 : Option Addr} {n1 c1 : Nat} : Okc Try.prog 58 [.slice A1 n1 c1] ([slC rDCell (.slice A1 n1 c1) a0]) (fun (u : Value) (post : List Chunk) => ∃ A0 n0 c0, u = .slice A0 n0 c0 ∧ post = [ownC rDCell 42 (.slice A0 n0 c0) r]) := by
  refine ok_E Try.func58 rfl rfl ?_
  simp only [envOf]
  refine run ?_
  refine G_opd (op_bslice (R := rDCell) (vss := []) (xs := []) rfl (bsl_22_0) rfl rfl (fun _ _ hr => All2.nil)) rfl rfl rfl ?_
  rintro _ _ ⟨A2, n2, c2, rfl, rfl⟩
  refine run ?_
  refine G_joinF (fun s L => ∃ (p4 : (List DCell)) (A4 : Option Addr) (n4 c4 : Nat), pantomimeref19_copied_j3 N p4 = some r ∧ s = [(2, .slice none 0 0), (3, .slice A4 n4 c4)] ∧ L = [ownC rDCell 42 (.slice A4 n4 c4) p4]) ?_ ?_
  · refine run ?_
    refine G_loopF (fun m s L => ∃ (p6 : (List DCell)) (p7 : Int) (A6 : Option Addr) (n6 c6 : Nat), pantomimeref19_copied_l5 N a0 m p6 p7 = some r ∧ s = [(0, .slice A1 n1 c1), (2, .slice none 0 0), (3, .slice A6 n6 c6), (4, .int .i64 p7)] ∧ L = [slC rDCell (.slice A1 n1 c1) a0, ownC rDCell 42 (.slice A6 n6 c6) p6]) N _ _ ⟨([] : List DCell), 0, A2, n2, c2, h, rfl, rfl⟩ (sub_cons rfl (sub_cons rfl (sub_cons rfl (sub_cons rfl sub_nil)))) (cv_sel [1, 0] 2 rfl rfl) ?_
    rintro (_ | m5) _ _ ⟨p6, p7, A6, n6, c6, h, rfl, rfl⟩
    · exact none_some h
    rw [pantomimeref19_copied_l5_s] at h
    refine G_seq ?_
    refine run ?_
    refine G_rd (rd_len 0 rfl els_sl rfl Try.underlying22) rfl rfl rfl ?_
    refine run ?_
    refine G_cond rfl (fun g8 => ?_) (fun g8 => ?_)
    · replace h := cond_t g8 h
      refine run ?_
      refine G_seq ?_
      refine run ?_
      obtain ⟨x9, hx9, h⟩ := bind_elim h
      obtain ⟨lx9, ux9, hx9⟩ := getE_elim hx9
      refine G_rd (rd_idx 0 rfl els_sl rfl rfl Try.underlying22 size42 lx9 ux9) rfl rfl rfl ?_
      refine G_row 0 rfl hx9 (open_DCell x9) ?_
      rintro _ _ ⟨A10, n10, c10, A11, n11, c11, rfl, rfl⟩
      refine G_rd (rd_rowS (us := [.int .i64 x9.Kind, .int .i64 x9.Shape, .int .i64 x9.Flags, .int .i64 x9.Age, .slice A10 n10 c10, .slice A11 n11 c11]) 0 rfl rfl agg42 rfl) rfl rfl rfl ?_
      refine G_opd (op_alloc zero42 rfl) rfl rfl rfl ?_
      rintro _ _ ⟨B13, rfl, rfl⟩
      refine G_opn (op_store (us := [.int .i64 x9.Kind, .int .i64 x9.Shape, .int .i64 x9.Flags, .int .i64 x9.Age, .slice A10 n10 c10, .slice A11 n11 c11]) (cs' := [.int .i64 x9.Kind, .int .i64 x9.Shape, .int .i64 x9.Flags, .int .i64 x9.Age, .slice A10 n10 c10, .slice A11 n11 c11]) 0 rfl rfl rfl rfl size42 rfl rfl rfl) rfl rfl ?_
      rintro _ _ rfl
      refine G_norm ([boxC B13 42 [.int .i64 x9.Kind, .int .i64 x9.Shape, .int .i64 x9.Flags, .int .i64 x9.Age, .slice A10 n10 c10, .slice A11 n11 c11], rowC (elemQ (.slice A1 n1 c1) p7.toNat 6 0) [.int .i64 x9.Kind, .int .i64 x9.Shape, .int .i64 x9.Flags, .int .i64 x9.Age, .slice A10 n10 c10, .slice A11 n11 c11], slC rDValue (.slice A10 n10 c10) x9.Slots, slC rDValue (.slice A11 n11 c11) x9.More, slC rDCell (.slice A1 n1 c1) a0, ownC rDCell 42 (.slice A6 n6 c6) p6]) rfl ?_
      refine run ?_
      refine G_opd (op_bslice (R := rDValue) (vss := []) (xs := []) rfl (bsl_25_0) rfl rfl (fun _ _ hr => All2.nil)) rfl rfl rfl ?_
      rintro _ _ ⟨A14, n14, c14, rfl, rfl⟩
      refine run ?_
      obtain ⟨q15, h⟩ := req_elim h
      refine G_opd (op_append 0 3 rfl rfl els_sl rfl rfl Try.underlying25 zb38 rfl rfl q15) rfl rfl rfl ?_
      rintro _ _ ⟨A16, n16, c16, rfl, rfl⟩
      refine G_norm ([ownC rDValue 38 (.slice A16 n16 c16) (([] : List DValue) ++ x9.Slots), boxC B13 42 [.int .i64 x9.Kind, .int .i64 x9.Shape, .int .i64 x9.Flags, .int .i64 x9.Age, .slice A10 n10 c10, .slice A11 n11 c11], rowC (elemQ (.slice A1 n1 c1) p7.toNat 6 0) [.int .i64 x9.Kind, .int .i64 x9.Shape, .int .i64 x9.Flags, .int .i64 x9.Age, .slice A10 n10 c10, .slice A11 n11 c11], slC rDValue (.slice A10 n10 c10) x9.Slots, slC rDValue (.slice A11 n11 c11) x9.More, slC rDCell (.slice A1 n1 c1) a0, ownC rDCell 42 (.slice A6 n6 c6) p6]) rfl ?_
      refine run ?_
      refine G_opn (op_store (us := [.slice A16 n16 c16]) (cs' := [.int .i64 x9.Kind, .int .i64 x9.Shape, .int .i64 x9.Flags, .int .i64 x9.Age, .slice A16 n16 c16, .slice A11 n11 c11]) 1 rfl rfl rfl rfl size25 rfl rfl rfl) rfl rfl ?_
      rintro _ _ rfl
      refine G_norm ([ownC rDValue 38 (.slice A16 n16 c16) (([] : List DValue) ++ x9.Slots), boxC B13 42 [.int .i64 x9.Kind, .int .i64 x9.Shape, .int .i64 x9.Flags, .int .i64 x9.Age, .slice A16 n16 c16, .slice A11 n11 c11], rowC (elemQ (.slice A1 n1 c1) p7.toNat 6 0) [.int .i64 x9.Kind, .int .i64 x9.Shape, .int .i64 x9.Flags, .int .i64 x9.Age, .slice A10 n10 c10, .slice A11 n11 c11], slC rDValue (.slice A10 n10 c10) x9.Slots, slC rDValue (.slice A11 n11 c11) x9.More, slC rDCell (.slice A1 n1 c1) a0, ownC rDCell 42 (.slice A6 n6 c6) p6]) rfl ?_
      refine run ?_
      refine G_opd (op_bslice (R := rDValue) (vss := []) (xs := []) rfl (bsl_25_0) rfl rfl (fun _ _ hr => All2.nil)) rfl rfl rfl ?_
      rintro _ _ ⟨A17, n17, c17, rfl, rfl⟩
      refine run ?_
      obtain ⟨q18, h⟩ := req_elim h
      refine G_opd (op_append 0 5 rfl rfl els_sl rfl rfl Try.underlying25 zb38 rfl rfl q18) rfl rfl rfl ?_
      rintro _ _ ⟨A19, n19, c19, rfl, rfl⟩
      refine G_norm ([ownC rDValue 38 (.slice A19 n19 c19) (([] : List DValue) ++ x9.More), ownC rDValue 38 (.slice A16 n16 c16) (([] : List DValue) ++ x9.Slots), boxC B13 42 [.int .i64 x9.Kind, .int .i64 x9.Shape, .int .i64 x9.Flags, .int .i64 x9.Age, .slice A16 n16 c16, .slice A11 n11 c11], rowC (elemQ (.slice A1 n1 c1) p7.toNat 6 0) [.int .i64 x9.Kind, .int .i64 x9.Shape, .int .i64 x9.Flags, .int .i64 x9.Age, .slice A10 n10 c10, .slice A11 n11 c11], slC rDValue (.slice A10 n10 c10) x9.Slots, slC rDValue (.slice A11 n11 c11) x9.More, slC rDCell (.slice A1 n1 c1) a0, ownC rDCell 42 (.slice A6 n6 c6) p6]) rfl ?_
      refine run ?_
      refine G_opn (op_store (us := [.slice A19 n19 c19]) (cs' := [.int .i64 x9.Kind, .int .i64 x9.Shape, .int .i64 x9.Flags, .int .i64 x9.Age, .slice A16 n16 c16, .slice A19 n19 c19]) 2 rfl rfl rfl rfl size25 rfl rfl rfl) rfl rfl ?_
      rintro _ _ rfl
      refine G_norm ([ownC rDValue 38 (.slice A19 n19 c19) (([] : List DValue) ++ x9.More), ownC rDValue 38 (.slice A16 n16 c16) (([] : List DValue) ++ x9.Slots), boxC B13 42 [.int .i64 x9.Kind, .int .i64 x9.Shape, .int .i64 x9.Flags, .int .i64 x9.Age, .slice A16 n16 c16, .slice A19 n19 c19], rowC (elemQ (.slice A1 n1 c1) p7.toNat 6 0) [.int .i64 x9.Kind, .int .i64 x9.Shape, .int .i64 x9.Flags, .int .i64 x9.Age, .slice A10 n10 c10, .slice A11 n11 c11], slC rDValue (.slice A10 n10 c10) x9.Slots, slC rDValue (.slice A11 n11 c11) x9.More, slC rDCell (.slice A1 n1 c1) a0, ownC rDCell 42 (.slice A6 n6 c6) p6]) rfl ?_
      refine run ?_
      refine G_rd (rd_boxS (us := [.int .i64 x9.Kind, .int .i64 x9.Shape, .int .i64 x9.Flags, .int .i64 x9.Age, .slice A16 n16 c16, .slice A19 n19 c19]) 2 rfl rfl agg42 rfl) rfl rfl rfl ?_
      refine G_cv (cv_frz 1 rfl) ?_
      refine G_norm ([ownC rDValue 38 (.slice A19 n19 c19) (([] : List DValue) ++ x9.More), slC rDValue (.slice A16 n16 c16) (([] : List DValue) ++ x9.Slots), boxC B13 42 [.int .i64 x9.Kind, .int .i64 x9.Shape, .int .i64 x9.Flags, .int .i64 x9.Age, .slice A16 n16 c16, .slice A19 n19 c19], rowC (elemQ (.slice A1 n1 c1) p7.toNat 6 0) [.int .i64 x9.Kind, .int .i64 x9.Shape, .int .i64 x9.Flags, .int .i64 x9.Age, .slice A10 n10 c10, .slice A11 n11 c11], slC rDValue (.slice A10 n10 c10) x9.Slots, slC rDValue (.slice A11 n11 c11) x9.More, slC rDCell (.slice A1 n1 c1) a0, ownC rDCell 42 (.slice A6 n6 c6) p6]) rfl ?_
      refine G_cv (cv_frz 0 rfl) ?_
      refine G_norm ([slC rDValue (.slice A19 n19 c19) (([] : List DValue) ++ x9.More), slC rDValue (.slice A16 n16 c16) (([] : List DValue) ++ x9.Slots), boxC B13 42 [.int .i64 x9.Kind, .int .i64 x9.Shape, .int .i64 x9.Flags, .int .i64 x9.Age, .slice A16 n16 c16, .slice A19 n19 c19], rowC (elemQ (.slice A1 n1 c1) p7.toNat 6 0) [.int .i64 x9.Kind, .int .i64 x9.Shape, .int .i64 x9.Flags, .int .i64 x9.Age, .slice A10 n10 c10, .slice A11 n11 c11], slC rDValue (.slice A10 n10 c10) x9.Slots, slC rDValue (.slice A11 n11 c11) x9.More, slC rDCell (.slice A1 n1 c1) a0, ownC rDCell 42 (.slice A6 n6 c6) p6]) rfl ?_
      refine G_opd (op_bslice (R := rDCell) (vss := [[.int .i64 x9.Kind, .int .i64 x9.Shape, .int .i64 x9.Flags, .int .i64 x9.Age, .slice A16 n16 c16, .slice A19 n19 c19]]) (xs := [(⟨x9.Kind, x9.Shape, x9.Flags, x9.Age, ([] : List DValue) ++ x9.Slots, ([] : List DValue) ++ x9.More⟩ : DCell)]) rfl (bsl_22_1 _ _ _ _ _ _ _ _ _ _) rfl rfl (fun _ _ hr => .cons (⟨_, _, _, _, _, _, rfl, hr 1 _ rfl rfl, hr 0 _ rfl rfl⟩) All2.nil)) rfl rfl rfl ?_
      rintro _ _ ⟨A20, n20, c20, rfl, rfl⟩
      obtain ⟨q21, h⟩ := req_elim h
      refine G_opd (op_append 8 0 rfl rfl els_own rfl rfl Try.underlying22 zb42 rfl rfl q21) rfl rfl rfl ?_
      rintro _ _ ⟨A22, n22, c22, rfl, rfl⟩
      refine G_norm ([ownC rDCell 42 (.slice A20 n20 c20) ([(⟨x9.Kind, x9.Shape, x9.Flags, x9.Age, ([] : List DValue) ++ x9.Slots, ([] : List DValue) ++ x9.More⟩ : DCell)] : List DCell), slC rDValue (.slice A19 n19 c19) (([] : List DValue) ++ x9.More), slC rDValue (.slice A16 n16 c16) (([] : List DValue) ++ x9.Slots), boxC B13 42 [.int .i64 x9.Kind, .int .i64 x9.Shape, .int .i64 x9.Flags, .int .i64 x9.Age, .slice A16 n16 c16, .slice A19 n19 c19], rowC (elemQ (.slice A1 n1 c1) p7.toNat 6 0) [.int .i64 x9.Kind, .int .i64 x9.Shape, .int .i64 x9.Flags, .int .i64 x9.Age, .slice A10 n10 c10, .slice A11 n11 c11], slC rDValue (.slice A10 n10 c10) x9.Slots, slC rDValue (.slice A11 n11 c11) x9.More, slC rDCell (.slice A1 n1 c1) a0, ownC rDCell 42 (.slice A22 n22 c22) (p6 ++ ([(⟨x9.Kind, x9.Shape, x9.Flags, x9.Age, ([] : List DValue) ++ x9.Slots, ([] : List DValue) ++ x9.More⟩ : DCell)] : List DCell))]) rfl ?_
      refine run ?_
      obtain ⟨q23, h⟩ := req_elim h
      refine G_ev (ev_add rfl rfl q23.1 q23.2) rfl rfl rfl ?_
      refine run ?_
      exact ⟨m5, _, _, Nat.lt_succ_self _, ⟨p6 ++ ([(⟨x9.Kind, x9.Shape, x9.Flags, x9.Age, ([] : List DValue) ++ x9.Slots, ([] : List DValue) ++ x9.More⟩ : DCell)] : List DCell), p7 + 1, A22, n22, c22, h, rfl, rfl⟩, sub_cons rfl (sub_cons rfl (sub_cons rfl (sub_cons rfl sub_nil))), cv_sel [7, 8] 9 rfl rfl⟩
    · replace h := cond_f g8 h
      refine run ?_
      exact ⟨_, _, ⟨p6, A6, n6, c6, h, rfl, rfl⟩, sub_cons rfl (sub_cons rfl sub_nil), cv_sel [1] 2 rfl rfl⟩
  · rintro _ _ ⟨p4, A4, n4, c4, h, rfl, rfl⟩
    refine run ?_
    obtain rfl := Option.some.inj h
    exact endG1 rfl rfl (cv_sel [0] 1 rfl rfl) ⟨_, _, _, rfl, rfl⟩
def pantomimeref19_Copied_O (N : Nat) (a0 : DMemory) : Option DMemory :=
  (pantomimeref19_copied_O N a0.Young).bind fun y5 => (pantomimeref19_copied_O N a0.Old).bind fun y7 => some (⟨y5, y7⟩ : DMemory)
theorem pantomimeref19_Copied_ok {N : Nat} {a0 : DMemory} {r : DMemory} (h : pantomimeref19_Copied_O N a0 = some r) {A1 : Option Addr} {n1 c1 : Nat} {A2 : Option Addr} {n2 c2 : Nat} : Okc Try.prog 24 [.agg #[.slice A1 n1 c1, .slice A2 n2 c2]] ([slC rDCell (.slice A1 n1 c1) a0.Young, slC rDCell (.slice A2 n2 c2) a0.Old]) (fun (u : Value) (post : List Chunk) => ∃ A0 n0 c0 A1 n1 c1, u = .agg #[.slice A0 n0 c0, .slice A1 n1 c1] ∧ post = [ownC rDCell 42 (.slice A0 n0 c0) r.Young, ownC rDCell 42 (.slice A1 n1 c1) r.Old]) := by
  refine ok_E Try.func24 rfl rfl ?_
  simp only [envOf]
  refine run ?_
  refine G_opd (op_box rfl rfl) rfl rfl rfl ?_
  rintro _ _ ⟨B3, rfl, rfl⟩
  refine G_opd (op_alloc zero24 rfl) rfl rfl rfl ?_
  rintro _ _ ⟨B4, rfl, rfl⟩
  refine run ?_
  refine G_seq ?_
  refine G_drawn (by kernel_rfl) ([boxC B3 24 [.slice A1 n1 c1, .slice A2 n2 c2], slC rDCell (.slice A1 n1 c1) a0.Young, slC rDCell (.slice A2 n2 c2) a0.Old]) (cv_sel [1, 2, 3] 4 rfl rfl) ?_
  refine T3_ev 0 rfl (by kernel_rfl) (ev_fa0 rfl fa_24_0) rfl rfl ?_
  refine T3_rd 1 rfl (by kernel_rfl) (rd_box1 0 rfl rfl one22 rfl) rfl rfl ?_
  refine T3_ev 3 rfl (by kernel_rfl) (ev_fa rfl fa_24_1) rfl rfl ?_
  refine T3_rd 4 rfl (by kernel_rfl) (rd_box1 0 rfl rfl one22 rfl) rfl rfl ?_
  obtain ⟨y5, hy5, h⟩ := bind_elim h
  refine T3_opd 2 rfl (by kernel_rfl) (op_call (pantomimeref19_copied_ok hy5) call58 rfl (cv_take [2] [] [0, 1, 2, 3] 4 rfl)) rfl rfl rfl ?_
  rintro _ _ ⟨_, ⟨A6, n6, c6, rfl, rfl⟩, rfl⟩
  refine ⟨[boxC B3 24 [.slice A1 n1 c1, .slice A2 n2 c2], slC rDCell (.slice A1 n1 c1) a0.Young, slC rDCell (.slice A2 n2 c2) a0.Old], cv_sel [2, 3, 4] 5 rfl rfl, cv_refl _, ?_⟩
  refine T3_norm ([ownC rDCell 42 (.slice A6 n6 c6) y5, boxC B4 24 [.slice none 0 0, .slice none 0 0], boxC B3 24 [.slice A1 n1 c1, .slice A2 n2 c2], slC rDCell (.slice A1 n1 c1) a0.Young, slC rDCell (.slice A2 n2 c2) a0.Old]) rfl ?_
  obtain ⟨y7, hy7, h⟩ := bind_elim h
  refine T3_opd 5 rfl (by kernel_rfl) (op_call (pantomimeref19_copied_ok hy7) call58 rfl (cv_take [4] [] [0, 1, 2, 3, 4] 5 rfl)) rfl rfl rfl ?_
  rintro _ _ ⟨_, ⟨A8, n8, c8, rfl, rfl⟩, rfl⟩
  refine ⟨[boxC B3 24 [.slice A1 n1 c1, .slice A2 n2 c2], slC rDCell (.slice A1 n1 c1) a0.Young, slC rDCell (.slice A2 n2 c2) a0.Old], cv_sel [3, 4, 5] 6 rfl rfl, cv_refl _, ?_⟩
  refine T3_norm ([ownC rDCell 42 (.slice A8 n8 c8) y7, ownC rDCell 42 (.slice A6 n6 c6) y5, boxC B4 24 [.slice none 0 0, .slice none 0 0], boxC B3 24 [.slice A1 n1 c1, .slice A2 n2 c2], slC rDCell (.slice A1 n1 c1) a0.Young, slC rDCell (.slice A2 n2 c2) a0.Old]) rfl ?_
  refine T3_ev 6 rfl (by kernel_rfl) (ev_build rfl (bld_24_0_1 _ _ _ _ _ _)) rfl rfl ?_
  refine T3_opn 7 rfl (by kernel_rfl) (op_store (us := [.slice A6 n6 c6, .slice A8 n8 c8]) (cs' := [.slice A6 n6 c6, .slice A8 n8 c8]) 2 rfl rfl rfl rfl size24 rfl rfl rfl) rfl rfl ?_
  rintro _ _ rfl
  refine ⟨[boxC B3 24 [.slice A1 n1 c1, .slice A2 n2 c2], slC rDCell (.slice A1 n1 c1) a0.Young, slC rDCell (.slice A2 n2 c2) a0.Old], cv_sel [3, 4, 5] 6 rfl rfl, cv_refl _, ?_⟩
  refine T3_norm ([ownC rDCell 42 (.slice A8 n8 c8) y7, ownC rDCell 42 (.slice A6 n6 c6) y5, boxC B4 24 [.slice A6 n6 c6, .slice A8 n8 c8], boxC B3 24 [.slice A1 n1 c1, .slice A2 n2 c2], slC rDCell (.slice A1 n1 c1) a0.Young, slC rDCell (.slice A2 n2 c2) a0.Old]) rfl ?_
  refine T3_done (by kernel_rfl) ?_
  refine run ?_
  obtain rfl := Option.some.inj h
  exact endGl (rs := [.cell 2 24]) (vs := [.agg #[.slice A6 n6 c6, .slice A8 n8 c8]]) rfl (.cons (rv_boxS 2 rfl rfl agg24) .nil) rfl (cv_sel [1, 0] 6 rfl rfl) ⟨_, _, _, _, _, _, rfl, rfl⟩
def pantomimeref19_In_j2 (N : Nat) : Option Bool :=
  some false
def pantomimeref19_In_l3 (N : Nat) (a1 : Int) (a0 : (List Int)) : Nat → Int → Option Bool
  | 0, _ => none
  | m3 + 1, p4 => bif decide (p4 < (a0.length : Int)) then ((getE a0 p4).bind fun x6 => bif decide (x6 = a1) then (some true) else (req (in64 (p4 + 1)) ((pantomimeref19_In_l3 N a1 a0 m3) (p4 + 1)))) else (pantomimeref19_In_j2 N)
theorem pantomimeref19_In_l3_s {N m3 : Nat} {a1 : Int} {a0 : (List Int)} {p4 : Int} : pantomimeref19_In_l3 N a1 a0 (m3 + 1) p4 = bif decide (p4 < (a0.length : Int)) then ((getE a0 p4).bind fun x6 => bif decide (x6 = a1) then (some true) else (req (in64 (p4 + 1)) ((pantomimeref19_In_l3 N a1 a0 m3) (p4 + 1)))) else (pantomimeref19_In_j2 N) := rfl
def pantomimeref19_In_O (N : Nat) (a0 : (List Int)) (a1 : Int) : Option Bool :=
  pantomimeref19_In_l3 N a1 a0 N 0
theorem pantomimeref19_In_ok {N : Nat} {a0 : (List Int)} {a1 : Int} {r : Bool} (h : pantomimeref19_In_O N a0 a1 = some r) {A1 : Option Addr} {n1 c1 : Nat} : Okc Try.prog 18 [.slice A1 n1 c1, .int .i64 a1] ([slC (rInt .i64) (.slice A1 n1 c1) a0]) (fun (u : Value) (post : List Chunk) => u = .bool r ∧ post = []) := by
  refine ok_E Try.func18 rfl rfl ?_
  simp only [envOf]
  refine run ?_
  refine G_joinF (fun s L => pantomimeref19_In_j2 N = some r ∧ s = [(4, .bool false)] ∧ L = []) ?_ ?_
  · refine run ?_
    refine G_loopF (fun m s L => ∃ (p4 : Int), pantomimeref19_In_l3 N a1 a0 m p4 = some r ∧ s = [(0, .slice A1 n1 c1), (1, .int .i64 a1), (4, .bool false), (5, .int .i64 p4)] ∧ L = [slC (rInt .i64) (.slice A1 n1 c1) a0]) N _ _ ⟨0, h, rfl, rfl⟩ (sub_cons rfl (sub_cons rfl (sub_cons rfl (sub_cons rfl sub_nil)))) (cv_sel [0] 1 rfl rfl) ?_
    rintro (_ | m3) _ _ ⟨p4, h, rfl, rfl⟩
    · exact none_some h
    rw [pantomimeref19_In_l3_s] at h
    refine G_seq ?_
    refine run ?_
    refine G_rd (rd_len 0 rfl els_sl rfl Try.underlying31) rfl rfl rfl ?_
    refine run ?_
    refine G_cond rfl (fun g5 => ?_) (fun g5 => ?_)
    · replace h := cond_t g5 h
      refine run ?_
      refine G_seq ?_
      refine run ?_
      obtain ⟨x6, hx6, h⟩ := bind_elim h
      obtain ⟨lx6, ux6, hx6⟩ := getE_elim hx6
      refine G_rd (rd_idx 0 rfl els_sl rfl rfl Try.underlying31 size3 lx6 ux6) rfl rfl rfl ?_
      refine G_rd (rd_elem1 (u := .int .i64 x6) 0 rfl els_sl rfl hx6 one3 (fun _ _ _ h => by rw [show _ = _ from h]; rfl)) rfl rfl rfl ?_
      refine run ?_
      refine G_cond rfl (fun g7 => ?_) (fun g7 => ?_)
      · replace h := cond_t g7 h
        refine run ?_
        obtain rfl := Option.some.inj h
        exact endG1 rfl rfl (cv_sel [] 1 rfl rfl) ⟨rfl, rfl⟩
      · replace h := cond_f g7 h
        refine run ?_
        obtain ⟨q8, h⟩ := req_elim h
        refine G_ev (ev_add rfl rfl q8.1 q8.2) rfl rfl rfl ?_
        refine run ?_
        exact ⟨m3, _, _, Nat.lt_succ_self _, ⟨p4 + 1, h, rfl, rfl⟩, sub_cons rfl (sub_cons rfl (sub_cons rfl (sub_cons rfl sub_nil))), cv_sel [0] 1 rfl rfl⟩
    · replace h := cond_f g5 h
      refine run ?_
      exact ⟨_, _, ⟨h, rfl, rfl⟩, sub_cons rfl sub_nil, cv_sel [] 1 rfl rfl⟩
  · rintro _ _ ⟨h, rfl, rfl⟩
    refine run ?_
    obtain rfl := Option.some.inj h
    exact endG1 rfl rfl (cv_sel [] 0 rfl rfl) ⟨rfl, rfl⟩
theorem pantomimeref19_In_free {r : Bool} : ∀ v post, ((fun (u : Value) (post : List Chunk) => u = .bool r ∧ post = [])) v post → ∀ c ∈ post, Free c := by
  rintro _ _ ⟨rfl, rfl⟩; exact mem_nil
def slices_Clone_97_O (N : Nat) (a0 : (List DCell)) : Option (List DCell) :=
  req (fitsL (([] : List DCell).length + a0.length)) (some (([] : List DCell) ++ a0))
theorem slices_Clone_97_ok {N : Nat} {a0 : (List DCell)} {r : (List DCell)} (h : slices_Clone_97_O N a0 = some r) {A1 : Option Addr} {n1 c1 : Nat} : Okc Try.prog 97 [.slice A1 n1 c1] ([slC rDCell (.slice A1 n1 c1) a0]) (fun (u : Value) (post : List Chunk) => ∃ A0 n0 c0, u = .slice A0 n0 c0 ∧ post = [ownC rDCell 42 (.slice A0 n0 c0) r]) := by
  refine ok_E Try.func97 rfl rfl ?_
  simp only [envOf]
  refine run ?_
  refine G_seq ?_
  refine run ?_
  refine G_ev (ev_slnil_eq rfl Try.underlying22) rfl rfl rfl ?_
  refine run ?_
  refine G_cond rfl (fun g2 => ?_) (fun g2 => ?_)
  · replace g2 : (A1).isNone = true := by simpa using g2
    refine G_isnil 0 rfl els_sl g2 (fun hx => ?_)
    subst hx
    replace h : req (fitsL (([] : List DCell).length + ([] : List DCell).length)) (some (([] : List DCell) ++ ([] : List DCell))) = some r := h
    replace h : some [] = some r := by simpa [req] using h
    refine run ?_
    obtain rfl := Option.some.inj h
    exact endG1 rfl rfl ((cv_nil rDCell 42 _).trans (cv_sel [0] 2 rfl rfl)) ⟨_, _, _, rfl, rfl⟩
  · refine run ?_
    refine G_opd (op_bslice (R := rDCell) (vss := []) (xs := []) rfl (bsl_22_0) rfl rfl (fun _ _ hr => All2.nil)) rfl rfl rfl ?_
    rintro _ _ ⟨A4, n4, c4, rfl, rfl⟩
    refine run ?_
    obtain ⟨q5, h⟩ := req_elim h
    refine G_opd (op_append 0 1 rfl rfl els_sl rfl rfl Try.underlying22 zb42 rfl rfl q5) rfl rfl rfl ?_
    rintro _ _ ⟨A6, n6, c6, rfl, rfl⟩
    refine G_norm ([ownC rDCell 42 (.slice A6 n6 c6) (([] : List DCell) ++ a0), slC rDCell (.slice A1 n1 c1) a0]) rfl ?_
    refine run ?_
    obtain rfl := Option.some.inj h
    exact endG1 rfl rfl (cv_sel [0] 2 rfl rfl) ⟨_, _, _, rfl, rfl⟩
def reach_bare_c1_j4 (N : Nat) (p5 : (List DCell)) : Option (List DCell) :=
  some p5
def reach_bare_c1_j10 (N : Nat) (kb6 : (List DCell) → Int → Option (List DCell)) (y2 : ((List DCell))) (p8 : Int) (p11 : (List DCell)) : Option (List DCell) :=
  req (in64 (p8 + 1)) (kb6 p11 (p8 + 1))
def reach_bare_c1_l6 (N : Nat) (y2 : ((List DCell))) : Nat → (List DCell) → Int → Option (List DCell)
  | 0, _, _ => none
  | m6 + 1, p7, p8 => bif decide (p8 < (y2.length : Int)) then ((getE p7 p8).bind fun x12 => (bif decide (x12.Kind = 10) then ((cell_Right_O N x12).bind fun y17 => some y17) else (some false)).bind fun b16 => bif b16 then (req ((0 : Int) ≤ 1 ∧ 0 ≤ (1 : Int).toNat ∧ (1 : Int).toNat ≤ x12.More.length) ((getE p7 p8).bind fun x21 => reach_bare_c1_j10 N (reach_bare_c1_l6 N y2 m6) y2 p8 (List.set p7 p8.toNat (⟨x21.Kind, x21.Shape, x21.Flags, x21.Age, x21.Slots, (x12.More.drop 0).take ((1 : Int).toNat - 0)⟩ : DCell)))) else (reach_bare_c1_j10 N (reach_bare_c1_l6 N y2 m6) y2 p8 p7)) else (reach_bare_c1_j4 N p7)
theorem reach_bare_c1_l6_s {N m6 : Nat} {y2 : ((List DCell))} {p7 : (List DCell)} {p8 : Int} : reach_bare_c1_l6 N y2 (m6 + 1) p7 p8 = bif decide (p8 < (y2.length : Int)) then ((getE p7 p8).bind fun x12 => (bif decide (x12.Kind = 10) then ((cell_Right_O N x12).bind fun y17 => some y17) else (some false)).bind fun b16 => bif b16 then (req ((0 : Int) ≤ 1 ∧ 0 ≤ (1 : Int).toNat ∧ (1 : Int).toNat ≤ x12.More.length) ((getE p7 p8).bind fun x21 => reach_bare_c1_j10 N (reach_bare_c1_l6 N y2 m6) y2 p8 (List.set p7 p8.toNat (⟨x21.Kind, x21.Shape, x21.Flags, x21.Age, x21.Slots, (x12.More.drop 0).take ((1 : Int).toNat - 0)⟩ : DCell)))) else (reach_bare_c1_j10 N (reach_bare_c1_l6 N y2 m6) y2 p8 p7)) else (reach_bare_c1_j4 N p7) := rfl
def reach_bare_c1_O (N : Nat) (a0 : (List DCell)) : Option (List DCell) :=
  (slices_Clone_97_O N a0).bind fun y2 => reach_bare_c1_l6 N y2 N y2 0
theorem reach_bare_c1_ok {N : Nat} {a0 : (List DCell)} {r : (List DCell)} (h : reach_bare_c1_O N a0 = some r) {A1 : Option Addr} {n1 c1 : Nat} : Okc Try.prog 96 [.slice A1 n1 c1] ([slC rDCell (.slice A1 n1 c1) a0]) (fun (u : Value) (post : List Chunk) => ∃ A0 n0 c0, u = .slice A0 n0 c0 ∧ post = [ownC rDCell 42 (.slice A0 n0 c0) r]) := by
  refine ok_E Try.func96 rfl rfl ?_
  simp only [envOf]
  refine run ?_
  obtain ⟨y2, hy2, h⟩ := bind_elim h
  refine G_opd (op_call (slices_Clone_97_ok hy2) call97 rfl (cv_take [0] [] [0] 1 rfl)) rfl rfl rfl ?_
  rintro _ _ ⟨_, ⟨A3, n3, c3, rfl, rfl⟩, rfl⟩
  refine G_norm ([ownC rDCell 42 (.slice A3 n3 c3) y2, slC rDCell (.slice A1 n1 c1) a0]) rfl ?_
  refine run ?_
  refine G_joinF (fun s L => ∃ (p5 : (List DCell)) (A5 : Option Addr) (n5 c5 : Nat), reach_bare_c1_j4 N p5 = some r ∧ s = [(2, .slice none 0 0), (3, .slice A5 n5 c5)] ∧ L = [ownC rDCell 42 (.slice A5 n5 c5) p5]) ?_ ?_
  · refine run ?_
    refine G_rd (rd_len 0 rfl els_own rfl Try.underlying22) rfl rfl rfl ?_
    refine run ?_
    refine G_loopF (fun m s L => ∃ (p7 : (List DCell)) (p8 : Int) (A7 : Option Addr) (n7 c7 : Nat), reach_bare_c1_l6 N y2 m p7 p8 = some r ∧ s = [(2, .slice none 0 0), (3, .slice A7 n7 c7), (8, .slice A7 n7 c7), (9, .int .i64 (y2.length : Int)), (10, .int .i64 p8)] ∧ L = [ownC rDCell 42 (.slice A7 n7 c7) p7]) N _ _ ⟨y2, 0, A3, n3, c3, h, rfl, rfl⟩ (sub_cons rfl (sub_cons rfl (sub_cons rfl (sub_cons rfl (sub_cons rfl sub_nil))))) (cv_sel [0] 2 rfl rfl) ?_
    rintro (_ | m6) _ _ ⟨p7, p8, A7, n7, c7, h, rfl, rfl⟩
    · exact none_some h
    rw [reach_bare_c1_l6_s] at h
    refine run ?_
    refine G_seq ?_
    refine G_cond rfl (fun g9 => ?_) (fun g9 => ?_)
    · replace h := cond_t g9 h
      refine run ?_
      refine G_joinF (fun s L => ∃ (p11 : (List DCell)) (A11 : Option Addr) (n11 c11 : Nat), reach_bare_c1_j10 N (reach_bare_c1_l6 N y2 m6) y2 p8 p11 = some r ∧ s = [(2, .slice none 0 0), (3, .slice A11 n11 c11), (8, .slice A11 n11 c11), (9, .int .i64 (y2.length : Int)), (10, .int .i64 p8)] ∧ L = [ownC rDCell 42 (.slice A11 n11 c11) p11]) ?_ ?_
      · refine run ?_
        obtain ⟨x12, hx12, h⟩ := bind_elim h
        obtain ⟨lx12, ux12, hx12⟩ := getE_elim hx12
        refine G_rd (rd_idx 0 rfl els_own rfl rfl Try.underlying22 size42 lx12 ux12) rfl rfl rfl ?_
        refine G_opd (op_elemA 0 rfl els_own rfl hx12 agg42 rfl (open_DCell x12)) rfl rfl rfl ?_
        rintro u _ ⟨_, _, ⟨A13, n13, c13, A14, n14, c14, rfl, rfl⟩, hu, rfl⟩
        obtain rfl : u = .agg #[.int .i64 x12.Kind, .int .i64 x12.Shape, .int .i64 x12.Flags, .int .i64 x12.Age, .slice A13 n13 c13, .slice A14 n14 c14] := hu
        refine G_opd (op_alloc zero42 rfl) rfl rfl rfl ?_
        rintro _ _ ⟨B15, rfl, rfl⟩
        refine run ?_
        refine G_opn (op_store (us := [.int .i64 x12.Kind, .int .i64 x12.Shape, .int .i64 x12.Flags, .int .i64 x12.Age, .slice A13 n13 c13, .slice A14 n14 c14]) (cs' := [.int .i64 x12.Kind, .int .i64 x12.Shape, .int .i64 x12.Flags, .int .i64 x12.Age, .slice A13 n13 c13, .slice A14 n14 c14]) 0 rfl rfl rfl rfl size42 rfl rfl rfl) rfl rfl ?_
        rintro _ _ rfl
        refine G_norm ([boxC B15 42 [.int .i64 x12.Kind, .int .i64 x12.Shape, .int .i64 x12.Flags, .int .i64 x12.Age, .slice A13 n13 c13, .slice A14 n14 c14], slC rDValue (.slice A13 n13 c13) x12.Slots, slC rDValue (.slice A14 n14 c14) x12.More, ownC rDCell 42 (.slice A7 n7 c7) p7]) rfl ?_
        refine run ?_
        obtain ⟨b16, hb16, h⟩ := bind_elim h
        refine G_segb 3 21 b16 ?_ ?_
        · clear h
          refine G_case 18 rfl (fun g16 => ?_) (fun g16 => ?_)
          · have h := cond_t g16 hb16
            refine G_rd (rd_boxS (us := [.int .i64 x12.Kind, .int .i64 x12.Shape, .int .i64 x12.Flags, .int .i64 x12.Age, .slice A13 n13 c13, .slice A14 n14 c14]) 0 rfl rfl agg42 rfl) rfl (g_tt g16 rfl) rfl ?_
            obtain ⟨y17, hy17, h⟩ := bind_elim h
            refine G_opd (op_callR (cell_Right_ok hy17) call98 rfl (mem_cons (lent_ro (i := 1) rfl rfl) (mem_cons (lent_ro (i := 2) rfl rfl) mem_nil)) cell_Right_free) rfl (g_tt g16 rfl) rfl ?_
            rintro _ _ ⟨_, ⟨rfl, rfl⟩, rfl⟩
            refine run ?_
            obtain rfl := Option.some.inj h
            exact G_joined (sub_cons rfl (sub_skip (sub_skip (sub_skip sub_refl rfl) rfl) rfl)) (cv_sel [0, 1, 2, 3] 4 rfl rfl)
          · have h := cond_f g16 hb16
            refine run ?_
            obtain rfl := Option.some.inj h
            exact G_joined (sub_cons rfl (sub_skip (sub_skip (sub_skip sub_refl rfl) rfl) rfl)) (cv_sel [0, 1, 2, 3] 4 rfl rfl)
        refine run ?_
        refine G_cond rfl (fun g18 => ?_) (fun g18 => ?_)
        · replace h := cond_t g18 h
          refine run ?_
          obtain ⟨q19, h⟩ := req_elim h
          refine G_cut 2 rfl (l := 0) (h := (1 : Int).toNat) q19.2.1 q19.2.2 ?_
          rintro A20 n20 c20 e20
          refine G_rd (rd_cut 3 rfl e20 rfl Try.underlying25 size38 rfl rfl (by rw [Int.toNat_of_nonneg q19.1]; rfl) q19.2.1 q19.2.2) rfl rfl rfl ?_
          obtain ⟨x21, hx21, h⟩ := bind_elim h
          obtain ⟨lx21, ux21, hx21⟩ := getE_elim hx21
          refine G_rd (rd_idx 4 rfl els_own rfl rfl Try.underlying22 size42 lx21 ux21) rfl rfl rfl ?_
          refine G_rd (rd_fa 4 rfl els_own rfl (toNat_lt lx21 ux21) fa_42_5) rfl rfl rfl ?_
          refine G_opn (op_storeE (us := [.slice A20 n20 c20]) (z := (⟨x21.Kind, x21.Shape, x21.Flags, x21.Age, x21.Slots, (x12.More.drop 0).take ((1 : Int).toNat - 0)⟩ : DCell)) 4 rfl rfl rfl rfl size25 rfl (toNat_lt lx21 ux21) rfl (fun S w vs xk hk hr ho => by obtain rfl := Option.some.inj (hk.symm.trans hx21); obtain ⟨_, _, _, _, _, _, rfl, s4, s5⟩ := hr; exact ⟨_, _, _, _, _, _, rfl, s4, ho 0 _ rfl rfl⟩)) rfl rfl ?_
          rintro _ _ rfl
          refine G_norm ([slC rDValue (.slice A20 n20 c20) ((x12.More.drop 0).take ((1 : Int).toNat - 0)), boxC B15 42 [.int .i64 x12.Kind, .int .i64 x12.Shape, .int .i64 x12.Flags, .int .i64 x12.Age, .slice A13 n13 c13, .slice A14 n14 c14], slC rDValue (.slice A13 n13 c13) x12.Slots, slC rDValue (.slice A14 n14 c14) x12.More, ownC rDCell 42 (.slice A7 n7 c7) (List.set p7 p8.toNat (⟨x21.Kind, x21.Shape, x21.Flags, x21.Age, x21.Slots, (x12.More.drop 0).take ((1 : Int).toNat - 0)⟩ : DCell))]) rfl ?_
          refine run ?_
          exact ⟨_, _, ⟨List.set p7 p8.toNat (⟨x21.Kind, x21.Shape, x21.Flags, x21.Age, x21.Slots, (x12.More.drop 0).take ((1 : Int).toNat - 0)⟩ : DCell), A7, n7, c7, h, rfl, rfl⟩, sub_cons rfl (sub_cons rfl (sub_cons rfl (sub_cons rfl (sub_cons rfl sub_nil)))), cv_sel [4] 5 rfl rfl⟩
        · replace h := cond_f g18 h
          refine run ?_
          exact ⟨_, _, ⟨p7, A7, n7, c7, h, rfl, rfl⟩, sub_cons rfl (sub_cons rfl (sub_cons rfl (sub_cons rfl (sub_cons rfl sub_nil)))), cv_sel [3] 4 rfl rfl⟩
      · rintro _ _ ⟨p11, A11, n11, c11, h, rfl, rfl⟩
        refine G_region ?_
        obtain ⟨q22, h⟩ := req_elim h
        refine G_ev (ev_add rfl rfl q22.1 q22.2) rfl rfl rfl ?_
        refine run ?_
        exact ⟨m6, _, _, Nat.lt_succ_self _, ⟨p11, p8 + 1, A11, n11, c11, h, rfl, rfl⟩, sub_cons rfl (sub_cons rfl (sub_cons rfl (sub_cons rfl (sub_cons rfl sub_nil)))), cv_sel [0] 1 rfl rfl⟩
    · replace h := cond_f g9 h
      refine run ?_
      exact ⟨_, _, ⟨p7, A7, n7, c7, h, rfl, rfl⟩, sub_cons rfl (sub_cons rfl sub_nil), cv_sel [0] 1 rfl rfl⟩
  · rintro _ _ ⟨p5, A5, n5, c5, h, rfl, rfl⟩
    refine run ?_
    obtain rfl := Option.some.inj h
    exact endG1 rfl rfl (cv_sel [0] 1 rfl rfl) ⟨_, _, _, rfl, rfl⟩
def reach_bare_O (N : Nat) (a0 : DMemory) : Option DMemory :=
  (reach_bare_c1_O N a0.Young).bind fun y5 => (reach_bare_c1_O N a0.Old).bind fun y7 => some (⟨y5, y7⟩ : DMemory)
theorem reach_bare_ok {N : Nat} {a0 : DMemory} {r : DMemory} (h : reach_bare_O N a0 = some r) {A1 : Option Addr} {n1 c1 : Nat} {A2 : Option Addr} {n2 c2 : Nat} : Okc Try.prog 59 [.agg #[.slice A1 n1 c1, .slice A2 n2 c2]] ([slC rDCell (.slice A1 n1 c1) a0.Young, slC rDCell (.slice A2 n2 c2) a0.Old]) (fun (u : Value) (post : List Chunk) => ∃ A0 n0 c0 A1 n1 c1, u = .agg #[.slice A0 n0 c0, .slice A1 n1 c1] ∧ post = [ownC rDCell 42 (.slice A0 n0 c0) r.Young, ownC rDCell 42 (.slice A1 n1 c1) r.Old]) := by
  refine ok_E Try.func59 rfl rfl ?_
  simp only [envOf]
  refine run ?_
  refine G_opd (op_box rfl rfl) rfl rfl rfl ?_
  rintro _ _ ⟨B3, rfl, rfl⟩
  refine G_opd (op_alloc zero24 rfl) rfl rfl rfl ?_
  rintro _ _ ⟨B4, rfl, rfl⟩
  refine run ?_
  refine G_seq ?_
  refine G_drawn (by kernel_rfl) ([boxC B3 24 [.slice A1 n1 c1, .slice A2 n2 c2], slC rDCell (.slice A1 n1 c1) a0.Young, slC rDCell (.slice A2 n2 c2) a0.Old]) (cv_sel [1, 2, 3] 4 rfl rfl) ?_
  refine T3_ev 0 rfl (by kernel_rfl) (ev_move rfl) rfl rfl ?_
  refine T3_ev 1 rfl (by kernel_rfl) (ev_fa0 rfl fa_24_0) rfl rfl ?_
  refine T3_rd 2 rfl (by kernel_rfl) (rd_box1 0 rfl rfl one22 rfl) rfl rfl ?_
  refine T3_ev 4 rfl (by kernel_rfl) (ev_move rfl) rfl rfl ?_
  refine T3_ev 5 rfl (by kernel_rfl) (ev_fa rfl fa_24_1) rfl rfl ?_
  refine T3_rd 6 rfl (by kernel_rfl) (rd_box1 0 rfl rfl one22 rfl) rfl rfl ?_
  obtain ⟨y5, hy5, h⟩ := bind_elim h
  refine T3_opd 3 rfl (by kernel_rfl) (op_callc (reach_bare_c1_ok hy5) call96 rfl rfl rfl (cv_take [2] [] [0, 1, 2, 3] 4 rfl)) rfl rfl rfl ?_
  rintro _ _ ⟨_, ⟨A6, n6, c6, rfl, rfl⟩, rfl⟩
  refine ⟨[boxC B3 24 [.slice A1 n1 c1, .slice A2 n2 c2], slC rDCell (.slice A1 n1 c1) a0.Young, slC rDCell (.slice A2 n2 c2) a0.Old], cv_sel [2, 3, 4] 5 rfl rfl, cv_refl _, ?_⟩
  refine T3_norm ([ownC rDCell 42 (.slice A6 n6 c6) y5, boxC B4 24 [.slice none 0 0, .slice none 0 0], boxC B3 24 [.slice A1 n1 c1, .slice A2 n2 c2], slC rDCell (.slice A1 n1 c1) a0.Young, slC rDCell (.slice A2 n2 c2) a0.Old]) rfl ?_
  obtain ⟨y7, hy7, h⟩ := bind_elim h
  refine T3_opd 7 rfl (by kernel_rfl) (op_callc (reach_bare_c1_ok hy7) call96 rfl rfl rfl (cv_take [4] [] [0, 1, 2, 3, 4] 5 rfl)) rfl rfl rfl ?_
  rintro _ _ ⟨_, ⟨A8, n8, c8, rfl, rfl⟩, rfl⟩
  refine ⟨[boxC B3 24 [.slice A1 n1 c1, .slice A2 n2 c2], slC rDCell (.slice A1 n1 c1) a0.Young, slC rDCell (.slice A2 n2 c2) a0.Old], cv_sel [3, 4, 5] 6 rfl rfl, cv_refl _, ?_⟩
  refine T3_norm ([ownC rDCell 42 (.slice A8 n8 c8) y7, ownC rDCell 42 (.slice A6 n6 c6) y5, boxC B4 24 [.slice none 0 0, .slice none 0 0], boxC B3 24 [.slice A1 n1 c1, .slice A2 n2 c2], slC rDCell (.slice A1 n1 c1) a0.Young, slC rDCell (.slice A2 n2 c2) a0.Old]) rfl ?_
  refine T3_ev 8 rfl (by kernel_rfl) (ev_build rfl (bld_24_0_1 _ _ _ _ _ _)) rfl rfl ?_
  refine T3_opn 9 rfl (by kernel_rfl) (op_store (us := [.slice A6 n6 c6, .slice A8 n8 c8]) (cs' := [.slice A6 n6 c6, .slice A8 n8 c8]) 2 rfl rfl rfl rfl size24 rfl rfl rfl) rfl rfl ?_
  rintro _ _ rfl
  refine ⟨[boxC B3 24 [.slice A1 n1 c1, .slice A2 n2 c2], slC rDCell (.slice A1 n1 c1) a0.Young, slC rDCell (.slice A2 n2 c2) a0.Old], cv_sel [3, 4, 5] 6 rfl rfl, cv_refl _, ?_⟩
  refine T3_norm ([ownC rDCell 42 (.slice A8 n8 c8) y7, ownC rDCell 42 (.slice A6 n6 c6) y5, boxC B4 24 [.slice A6 n6 c6, .slice A8 n8 c8], boxC B3 24 [.slice A1 n1 c1, .slice A2 n2 c2], slC rDCell (.slice A1 n1 c1) a0.Young, slC rDCell (.slice A2 n2 c2) a0.Old]) rfl ?_
  refine T3_done (by kernel_rfl) ?_
  refine run ?_
  obtain rfl := Option.some.inj h
  exact endGl (rs := [.cell 2 24]) (vs := [.agg #[.slice A6 n6 c6, .slice A8 n8 c8]]) rfl (.cons (rv_boxS 2 rfl rfl agg24) .nil) rfl (cv_sel [1, 0] 6 rfl rfl) ⟨_, _, _, _, _, _, rfl, rfl⟩
def reach_twins_value_O (N : Nat) (a0 : DTwins) (a1 : DValue) (a2 : DValue) : Option Bool :=
  (reach_address_O N a1).bind fun y12 => (reach_address_O N a2).bind fun y13 => (bif !y12.2 then (some true) else (some (!y13.2))).bind fun b14 => bif b14 then (some (decide (a1 = a2))) else ((bif !decide (a1.Kind = a2.Kind) then (some true) else (some (!(a1.S.toList == a2.S.toList)))).bind fun b16 => bif b16 then (some false) else ((bif !((lk a0.from_ y12.1).isSome) then (some true) else (some (!((lk a0.to_ y13.1).isSome)))).bind fun b18 => bif b18 then ((bif !((lk a0.from_ y12.1).isSome) then (some (!((lk a0.to_ y13.1).isSome))) else (some false)).bind fun b20 => (bif b20 then ((reach_Has_O N a0.a_ y12.1).bind fun y22 => (reach_Has_O N a0.b_ y13.1).bind fun y23 => some (y22 == y23)) else (some false)).bind fun b21 => some b21) else (some (decide ((lk a0.from_ y12.1).getD 0 = (lk a0.to_ y13.1).getD 0)))))
theorem reach_twins_value_ok {N : Nat} {a0 : DTwins} {a1 : DValue} {a2 : DValue} {r : Bool} (h : reach_twins_value_O N a0 a1 a2 = some r) {B1 : Nat} {A2 : Option Addr} {n2 c2 : Nat} {A3 : Option Addr} {n3 c3 : Nat} {A4 : Option Addr} {n4 c4 : Nat} {A5 : Option Addr} {n5 c5 : Nat} {A6 : Option Addr} {n6 c6 : Nat} {A7 : Option Addr} {n7 c7 : Nat} {M8 : Nat} {M9 : Nat} : Okc Try.prog 100 [.pointer (some ⟨B1, 0, none⟩), .agg #[.int .i64 a1.Kind, .int .i64 a1.N, .string a1.S], .agg #[.int .i64 a2.Kind, .int .i64 a2.N, .string a2.S]] ([rboxC B1 85 [.slice A2 n2 c2, .slice A3 n3 c3, .slice A4 n4 c4, .slice A5 n5 c5, .slice A6 n6 c6, .slice A7 n7 c7, .map (some M8), .map (some M9)], slC rDCell (.slice A2 n2 c2) a0.a_.Young, slC rDCell (.slice A3 n3 c3) a0.a_.Old, slC rDCell (.slice A4 n4 c4) a0.b_.Young, slC rDCell (.slice A5 n5 c5) a0.b_.Old, slC (rInt .i64) (.slice A6 n6 c6) a0.x_, slC (rInt .i64) (.slice A7 n7 c7) a0.y_, romC ekI evI M8 a0.from_, romC ekI evI M9 a0.to_]) (fun (u : Value) (post : List Chunk) => u = .bool r ∧ post = []) := by
  refine ok_E Try.func100 rfl rfl ?_
  simp only [envOf]
  refine run ?_
  refine G_opd (op_box rfl rfl) rfl rfl rfl ?_
  rintro _ _ ⟨B10, rfl, rfl⟩
  refine G_opd (op_box rfl rfl) rfl rfl rfl ?_
  rintro _ _ ⟨B11, rfl, rfl⟩
  refine run ?_
  refine G_rd (rd_boxS (us := [.int .i64 a1.Kind, .int .i64 a1.N, .string a1.S]) 1 rfl rfl agg38 rfl) rfl rfl rfl ?_
  obtain ⟨y12, hy12, h⟩ := bind_elim h
  refine G_opd (op_callR (reach_address_ok hy12) call93 rfl (mem_nil) reach_address_free) rfl rfl rfl ?_
  rintro _ _ ⟨_, ⟨rfl, rfl⟩, rfl⟩
  refine run ?_
  refine G_rd (rd_boxS (us := [.int .i64 a2.Kind, .int .i64 a2.N, .string a2.S]) 0 rfl rfl agg38 rfl) rfl rfl rfl ?_
  obtain ⟨y13, hy13, h⟩ := bind_elim h
  refine G_opd (op_callR (reach_address_ok hy13) call93 rfl (mem_nil) reach_address_free) rfl rfl rfl ?_
  rintro _ _ ⟨_, ⟨rfl, rfl⟩, rfl⟩
  refine run ?_
  refine G_seq ?_
  refine run ?_
  obtain ⟨b14, hb14, h⟩ := bind_elim h
  refine G_segb 3 30 b14 ?_ ?_
  · clear h
    refine G_case 27 rfl (fun g14 => ?_) (fun g14 => ?_)
    · have h := cond_t g14 hb14
      refine run ?_
      obtain rfl := Option.some.inj h
      exact G_joined (sub_cons rfl (sub_skip (sub_skip (sub_skip sub_refl rfl) rfl) rfl)) (cv_sel [0, 1, 2, 3, 4, 5, 6, 7, 8, 9, 10] 11 rfl rfl)
    · have h := cond_f g14 hb14
      refine run ?_
      obtain rfl := Option.some.inj h
      exact G_joined (sub_cons rfl (sub_skip (sub_skip (sub_skip sub_refl rfl) rfl) rfl)) (cv_sel [0, 1, 2, 3, 4, 5, 6, 7, 8, 9, 10] 11 rfl rfl)
  refine run ?_
  refine G_cond rfl (fun g15 => ?_) (fun g15 => ?_)
  · replace h := cond_t g15 h
    refine run ?_
    refine G_rd (rd_boxS (us := [.int .i64 a1.Kind, .int .i64 a1.N, .string a1.S]) 1 rfl rfl agg38 rfl) rfl rfl rfl ?_
    refine G_rd (rd_boxS (us := [.int .i64 a2.Kind, .int .i64 a2.N, .string a2.S]) 0 rfl rfl agg38 rfl) rfl rfl rfl ?_
    refine G_ev (ev_seq38 (x := a1) (y := a2) rfl rfl) rfl rfl rfl ?_
    refine run ?_
    obtain rfl := Option.some.inj h
    exact endG1 rfl rfl (cv_sel [] 11 rfl rfl) ⟨rfl, rfl⟩
  · replace h := cond_f g15 h
    refine run ?_
    refine G_seq ?_
    refine run ?_
    obtain ⟨b16, hb16, h⟩ := bind_elim h
    refine G_segb 6 45 b16 ?_ ?_
    · clear h
      refine G_case 39 rfl (fun g16 => ?_) (fun g16 => ?_)
      · have h := cond_t g16 hb16
        refine run ?_
        obtain rfl := Option.some.inj h
        exact G_joined (sub_cons rfl (sub_skip (sub_skip (sub_skip (sub_skip (sub_skip (sub_skip sub_refl rfl) rfl) rfl) rfl) rfl) rfl)) (cv_sel [0, 1, 2, 3, 4, 5, 6, 7, 8, 9, 10] 11 rfl rfl)
      · have h := cond_f g16 hb16
        refine run ?_
        refine G_ev (ev_strne rfl rfl) rfl (g_ff g16 rfl) rfl ?_
        refine run ?_
        obtain rfl := Option.some.inj h
        exact G_joined (sub_cons rfl (sub_skip (sub_skip (sub_skip (sub_skip (sub_skip (sub_skip sub_refl rfl) rfl) rfl) rfl) rfl) rfl)) (cv_sel [0, 1, 2, 3, 4, 5, 6, 7, 8, 9, 10] 11 rfl rfl)
    refine run ?_
    refine G_cond rfl (fun g17 => ?_) (fun g17 => ?_)
    · replace h := cond_t g17 h
      refine run ?_
      obtain rfl := Option.some.inj h
      exact endG1 rfl rfl (cv_sel [] 11 rfl rfl) ⟨rfl, rfl⟩
    · replace h := cond_f g17 h
      refine run ?_
      refine G_rd (rd_rbox1 2 rfl rfl one83 rfl) rfl rfl rfl ?_
      refine run ?_
      refine G_rd (rd_look2 (a := y12.1) (z := 0) 9 rfl map_ro rfl rfl Try.underlying83 (keyOk_int Try.underlying3) zero3) rfl rfl rfl ?_
      refine run ?_
      refine G_rd (rd_rbox1 2 rfl rfl one83 rfl) rfl rfl rfl ?_
      refine run ?_
      refine G_rd (rd_look2 (a := y13.1) (z := 0) 10 rfl map_ro rfl rfl Try.underlying83 (keyOk_int Try.underlying3) zero3) rfl rfl rfl ?_
      refine run ?_
      refine G_seq ?_
      refine run ?_
      obtain ⟨b18, hb18, h⟩ := bind_elim h
      refine G_segb 3 69 b18 ?_ ?_
      · clear h
        refine G_case 66 rfl (fun g18 => ?_) (fun g18 => ?_)
        · have h := cond_t g18 hb18
          refine run ?_
          obtain rfl := Option.some.inj h
          exact G_joined (sub_cons rfl (sub_skip (sub_skip (sub_skip sub_refl rfl) rfl) rfl)) (cv_sel [0, 1, 2, 3, 4, 5, 6, 7, 8, 9, 10] 11 rfl rfl)
        · have h := cond_f g18 hb18
          refine run ?_
          obtain rfl := Option.some.inj h
          exact G_joined (sub_cons rfl (sub_skip (sub_skip (sub_skip sub_refl rfl) rfl) rfl)) (cv_sel [0, 1, 2, 3, 4, 5, 6, 7, 8, 9, 10] 11 rfl rfl)
      refine run ?_
      refine G_cond rfl (fun g19 => ?_) (fun g19 => ?_)
      · replace h := cond_t g19 h
        refine G_seq ?_
        refine G_drawn (by kernel_rfl) _ (cv_refl _) ?_
        refine T3_ev 0 rfl (by kernel_rfl) (ev_move rfl) rfl rfl ?_
        refine T3_ev 1 rfl (by kernel_rfl) (ev_not rfl) rfl rfl ?_
        refine T3_ev 2 rfl (by kernel_rfl) (ev_move rfl) rfl rfl ?_
        obtain ⟨b20, hb20, h⟩ := bind_elim h
        refine T3_joinB (fun l => (((l.setIfInBounds 3 true).setIfInBounds 4 true).setIfInBounds 5 true)) 16 75 b20 (fun rest => ?_) ?_
        · clear h
          refine T3_case 72 rfl (fun g20 => ?_) (fun g20 => ?_)
          · have h := cond_t g20 hb20
            refine T3_ev 3 rfl (by kernel_rfl) (ev_move rfl) (g_tt g20 rfl) rfl ?_
            refine T3_ev 4 rfl (by kernel_rfl) (ev_not rfl) (g_tt g20 rfl) rfl ?_
            refine T3_ev 5 rfl (by kernel_rfl) (ev_pick_t' g20 rfl rfl) rfl rfl ?_
            obtain rfl := Option.some.inj h
            exact T3_sub rest (sub_cons rfl (sub_skip (sub_skip (sub_skip sub_refl rfl) rfl) rfl)) (cv_refl _) (cv_refl _)
          · have h := cond_f g20 hb20
            refine T3_no 3 rfl (by kernel_rfl) (g_tf g20 rfl) rfl ?_
            refine T3_no 4 rfl (by kernel_rfl) (g_tf g20 rfl) rfl ?_
            refine T3_ev 5 rfl (by kernel_rfl) (ev_pick_f' g20 rfl rfl) rfl rfl ?_
            obtain rfl := Option.some.inj h
            exact T3_sub rest (sub_cons rfl (sub_skip (sub_skip (sub_skip sub_refl rfl) rfl) rfl)) (cv_refl _) (cv_refl _)
        refine T3_ev 6 rfl (by kernel_rfl) (ev_move rfl) rfl rfl ?_
        obtain ⟨b21, hb21, h⟩ := bind_elim h
        refine T3_joinB (fun l => ((((((((((((((l.setIfInBounds 7 true).setIfInBounds 8 true).setIfInBounds 9 true).setIfInBounds 10 true).setIfInBounds 11 true).setIfInBounds 13 true).setIfInBounds 14 true).setIfInBounds 15 true).setIfInBounds 16 true).setIfInBounds 17 true).setIfInBounds 12 true).setIfInBounds 18 true).setIfInBounds 19 true).setIfInBounds 20 true)) 1 90 b21 (fun rest => ?_) ?_
        · clear h
          refine T3_case 76 rfl (fun g21 => ?_) (fun g21 => ?_)
          · have h := cond_t g21 hb21
            refine T3_ev 7 rfl (by kernel_rfl) (ev_move rfl) (g_tt g21 rfl) rfl ?_
            refine T3_ev 8 rfl (by kernel_rfl) (ev_nilCheck rfl) (g_tt g21 rfl) rfl ?_
            refine T3_ev 9 rfl (by kernel_rfl) (ev_fa0 rfl fa_85_0) (g_tt g21 rfl) rfl ?_
            refine T3_rd 10 rfl (by kernel_rfl) (rd_rboxS (us := [.slice A2 n2 c2, .slice A3 n3 c3]) 2 rfl rfl agg24 rfl) (g_tt g21 rfl) rfl ?_
            refine T3_ev 11 rfl (by kernel_rfl) (ev_move rfl) (g_tt g21 rfl) rfl ?_
            refine T3_ev 13 rfl (by kernel_rfl) (ev_move rfl) (g_tt g21 rfl) rfl ?_
            refine T3_ev 14 rfl (by kernel_rfl) (ev_nilCheck rfl) (g_tt g21 rfl) rfl ?_
            refine T3_ev 15 rfl (by kernel_rfl) (ev_fa rfl fa_85_1) (g_tt g21 rfl) rfl ?_
            refine T3_rd 16 rfl (by kernel_rfl) (rd_rboxS (us := [.slice A4 n4 c4, .slice A5 n5 c5]) 2 rfl rfl agg24 rfl) (g_tt g21 rfl) rfl ?_
            refine T3_ev 17 rfl (by kernel_rfl) (ev_move rfl) (g_tt g21 rfl) rfl ?_
            obtain ⟨y22, hy22, h⟩ := bind_elim h
            refine T3_opd 12 rfl (by kernel_rfl) (op_callR (reach_Has_ok hy22) call69 rfl (mem_cons (lent_ro (i := 3) rfl rfl) (mem_cons (lent_ro (i := 4) rfl rfl) mem_nil)) reach_Has_free) rfl (g_tt g21 rfl) rfl ?_
            rintro _ _ ⟨_, ⟨rfl, rfl⟩, rfl⟩
            refine ⟨_, cv_refl _, cv_refl _, ?_⟩
            obtain ⟨y23, hy23, h⟩ := bind_elim h
            refine T3_opd 18 rfl (by kernel_rfl) (op_callR (reach_Has_ok hy23) call69 rfl (mem_cons (lent_ro (i := 5) rfl rfl) (mem_cons (lent_ro (i := 6) rfl rfl) mem_nil)) reach_Has_free) rfl (g_tt g21 rfl) rfl ?_
            rintro _ _ ⟨_, ⟨rfl, rfl⟩, rfl⟩
            refine ⟨_, cv_refl _, cv_refl _, ?_⟩
            refine T3_ev 19 rfl (by kernel_rfl) (ev_beq rfl rfl Try.underlying4) (g_tt g21 rfl) rfl ?_
            refine T3_ev 20 rfl (by kernel_rfl) (ev_pick_t' g21 rfl rfl) rfl rfl ?_
            obtain rfl := Option.some.inj h
            exact T3_sub rest (sub_cons rfl (sub_skip (sub_skip (sub_skip (sub_skip (sub_skip (sub_skip (sub_skip (sub_skip (sub_skip (sub_skip (sub_skip (sub_skip (sub_skip (sub_skip sub_refl rfl) rfl) rfl) rfl) rfl) rfl) rfl) rfl) rfl) rfl) rfl) rfl) rfl) rfl)) (cv_refl _) (cv_refl _)
          · have h := cond_f g21 hb21
            refine T3_no 7 rfl (by kernel_rfl) (g_tf g21 rfl) rfl ?_
            refine T3_no 8 rfl (by kernel_rfl) (g_tf g21 rfl) rfl ?_
            refine T3_no 9 rfl (by kernel_rfl) (g_tf g21 rfl) rfl ?_
            refine T3_no 10 rfl (by kernel_rfl) (g_tf g21 rfl) rfl ?_
            refine T3_no 11 rfl (by kernel_rfl) (g_tf g21 rfl) rfl ?_
            refine T3_no 13 rfl (by kernel_rfl) (g_tf g21 rfl) rfl ?_
            refine T3_no 14 rfl (by kernel_rfl) (g_tf g21 rfl) rfl ?_
            refine T3_no 15 rfl (by kernel_rfl) (g_tf g21 rfl) rfl ?_
            refine T3_no 16 rfl (by kernel_rfl) (g_tf g21 rfl) rfl ?_
            refine T3_no 17 rfl (by kernel_rfl) (g_tf g21 rfl) rfl ?_
            refine T3_no 12 rfl (by kernel_rfl) (g_tf g21 rfl) rfl ?_
            refine T3_no 18 rfl (by kernel_rfl) (g_tf g21 rfl) rfl ?_
            refine T3_no 19 rfl (by kernel_rfl) (g_tf g21 rfl) rfl ?_
            refine T3_ev 20 rfl (by kernel_rfl) (ev_pick_f' g21 rfl rfl) rfl rfl ?_
            obtain rfl := Option.some.inj h
            exact T3_sub rest (sub_cons rfl (sub_skip (sub_skip (sub_skip (sub_skip (sub_skip (sub_skip (sub_skip (sub_skip (sub_skip (sub_skip (sub_skip (sub_skip (sub_skip (sub_skip sub_refl rfl) rfl) rfl) rfl) rfl) rfl) rfl) rfl) rfl) rfl) rfl) rfl) rfl) rfl)) (cv_refl _) (cv_refl _)
        refine T3_ev 21 rfl (by kernel_rfl) (ev_assign rfl) rfl rfl ?_
        refine T3_done (by kernel_rfl) ?_
        refine run ?_
        obtain rfl := Option.some.inj h
        exact endG1 rfl rfl (cv_sel [] 11 rfl rfl) ⟨rfl, rfl⟩
      · replace h := cond_f g19 h
        refine run ?_
        obtain rfl := Option.some.inj h
        exact endG1 rfl rfl (cv_sel [] 11 rfl rfl) ⟨rfl, rfl⟩
def slices_EqualFunc_j4 (N : Nat) (ff : (DValue × DValue) → Option Bool) : Option Bool :=
  some true
def slices_EqualFunc_l5 (N : Nat) (ff : (DValue × DValue) → Option Bool) (a0 : (List DValue)) (a1 : (List DValue)) : Nat → Int → Option Bool
  | 0, _ => none
  | m5 + 1, p6 => bif decide (p6 < (a0.length : Int)) then ((getE a0 p6).bind fun x8 => (getE a1 p6).bind fun x10 => (ff (x8, x10)).bind fun y12 => bif !y12 then (some false) else (req (in64 (p6 + 1)) ((slices_EqualFunc_l5 N ff a0 a1 m5) (p6 + 1)))) else (slices_EqualFunc_j4 N ff)
theorem slices_EqualFunc_l5_s {N m5 : Nat} {ff : (DValue × DValue) → Option Bool} {a0 : (List DValue)} {a1 : (List DValue)} {p6 : Int} : slices_EqualFunc_l5 N ff a0 a1 (m5 + 1) p6 = bif decide (p6 < (a0.length : Int)) then ((getE a0 p6).bind fun x8 => (getE a1 p6).bind fun x10 => (ff (x8, x10)).bind fun y12 => bif !y12 then (some false) else (req (in64 (p6 + 1)) ((slices_EqualFunc_l5 N ff a0 a1 m5) (p6 + 1)))) else (slices_EqualFunc_j4 N ff) := rfl
def slices_EqualFunc_O (N : Nat) (a0 : (List DValue)) (a1 : (List DValue)) (ff : (DValue × DValue) → Option Bool) : Option Bool :=
  bif !decide ((a0.length : Int) = (a1.length : Int)) then (some false) else (slices_EqualFunc_l5 N ff a0 a1 N 0)
theorem slices_EqualFunc_ok {N : Nat} {a0 : (List DValue)} {a1 : (List DValue)} {ff : (DValue × DValue) → Option Bool} {r : Bool} (h : slices_EqualFunc_O N a0 a1 ff = some r) {A1 : Option Addr} {n1 c1 : Nat} {A2 : Option Addr} {n2 c2 : Nat} {vf : Value} {G : List Chunk} (hf : FnOk Try.prog vf G (fun x => [.agg #[.int .i64 x.1.Kind, .int .i64 x.1.N, .string x.1.S], .agg #[.int .i64 x.2.Kind, .int .i64 x.2.N, .string x.2.S]]) (fun r => .bool r) ff) : Okc Try.prog 99 [.slice A1 n1 c1, .slice A2 n2 c2, vf] (slC rDValue (.slice A1 n1 c1) a0 :: slC rDValue (.slice A2 n2 c2) a1 :: G) (fun (u : Value) (post : List Chunk) => u = .bool r ∧ post = []) := by
  refine ok_E Try.func99 rfl rfl ?_
  simp only [envOf]
  refine run ?_
  refine G_seq ?_
  refine run ?_
  refine G_rd (rd_len 0 rfl els_sl rfl Try.underlying25) rfl rfl rfl ?_
  refine run ?_
  refine G_rd (rd_len 1 rfl els_sl rfl Try.underlying25) rfl rfl rfl ?_
  refine run ?_
  refine G_cond rfl (fun g3 => ?_) (fun g3 => ?_)
  · replace h := cond_t g3 h
    refine run ?_
    obtain rfl := Option.some.inj h
    exact endG1 rfl rfl (cv_selD [] 2 rfl rfl) ⟨rfl, rfl⟩
  · replace h := cond_f g3 h
    refine run ?_
    refine G_joinF (fun s L => slices_EqualFunc_j4 N ff = some r ∧ s = [(6, .bool false)] ∧ L = G) ?_ ?_
    · refine run ?_
      refine G_rd (rd_len 0 rfl els_sl rfl Try.underlying25) rfl rfl rfl ?_
      refine run ?_
      refine G_loopF (fun m s L => ∃ (p6 : Int), slices_EqualFunc_l5 N ff a0 a1 m p6 = some r ∧ s = [(1, .slice A2 n2 c2), (2, vf), (6, .bool false), (15, .slice A1 n1 c1), (16, .int .i64 (a0.length : Int)), (17, .int .i64 p6)] ∧ L = slC rDValue (.slice A2 n2 c2) a1 :: slC rDValue (.slice A1 n1 c1) a0 :: G) N _ _ ⟨0, h, rfl, rfl⟩ (sub_cons rfl (sub_cons rfl (sub_cons rfl (sub_cons rfl (sub_cons rfl (sub_cons rfl sub_nil)))))) (cv_sel [1, 0] 2 rfl rfl) ?_
      rintro (_ | m5) _ _ ⟨p6, h, rfl, rfl⟩
      · exact none_some h
      rw [slices_EqualFunc_l5_s] at h
      refine run ?_
      refine G_seq ?_
      refine G_cond rfl (fun g7 => ?_) (fun g7 => ?_)
      · replace h := cond_t g7 h
        refine run ?_
        refine G_seq ?_
        refine run ?_
        obtain ⟨x8, hx8, h⟩ := bind_elim h
        obtain ⟨lx8, ux8, hx8⟩ := getE_elim hx8
        refine G_rd (rd_idx 1 rfl els_sl rfl rfl Try.underlying25 size38 lx8 ux8) rfl rfl rfl ?_
        refine G_rd (rd_elemS (us := [.int .i64 x8.Kind, .int .i64 x8.N, .string x8.S]) 1 rfl els_sl rfl hx8 agg38 (fun _ _ _ h => by rw [show _ = _ from h]; rfl)) rfl rfl rfl ?_
        refine G_opd (op_alloc zero38 rfl) rfl rfl rfl ?_
        rintro _ _ ⟨B9, rfl, rfl⟩
        refine run ?_
        refine G_opn (op_store (us := [.int .i64 x8.Kind, .int .i64 x8.N, .string x8.S]) (cs' := [.int .i64 x8.Kind, .int .i64 x8.N, .string x8.S]) 0 rfl rfl rfl rfl size38 rfl rfl rfl) rfl rfl ?_
        rintro _ _ rfl
        refine G_norm (boxC B9 38 [.int .i64 x8.Kind, .int .i64 x8.N, .string x8.S] :: slC rDValue (.slice A2 n2 c2) a1 :: slC rDValue (.slice A1 n1 c1) a0 :: G) rfl ?_
        refine run ?_
        obtain ⟨x10, hx10, h⟩ := bind_elim h
        obtain ⟨lx10, ux10, hx10⟩ := getE_elim hx10
        refine G_rd (rd_idx 1 rfl els_sl rfl rfl Try.underlying25 size38 lx10 ux10) rfl rfl rfl ?_
        refine G_rd (rd_elemS (us := [.int .i64 x10.Kind, .int .i64 x10.N, .string x10.S]) 1 rfl els_sl rfl hx10 agg38 (fun _ _ _ h => by rw [show _ = _ from h]; rfl)) rfl rfl rfl ?_
        refine G_opd (op_alloc zero38 rfl) rfl rfl rfl ?_
        rintro _ _ ⟨B11, rfl, rfl⟩
        refine G_opn (op_store (us := [.int .i64 x10.Kind, .int .i64 x10.N, .string x10.S]) (cs' := [.int .i64 x10.Kind, .int .i64 x10.N, .string x10.S]) 0 rfl rfl rfl rfl size38 rfl rfl rfl) rfl rfl ?_
        rintro _ _ rfl
        refine G_norm (boxC B11 38 [.int .i64 x10.Kind, .int .i64 x10.N, .string x10.S] :: boxC B9 38 [.int .i64 x8.Kind, .int .i64 x8.N, .string x8.S] :: slC rDValue (.slice A2 n2 c2) a1 :: slC rDValue (.slice A1 n1 c1) a0 :: G) rfl ?_
        refine run ?_
        refine G_rd (rd_boxS (us := [.int .i64 x8.Kind, .int .i64 x8.N, .string x8.S]) 1 rfl rfl agg38 rfl) rfl rfl rfl ?_
        refine G_rd (rd_boxS (us := [.int .i64 x10.Kind, .int .i64 x10.N, .string x10.S]) 0 rfl rfl agg38 rfl) rfl rfl rfl ?_
        obtain ⟨y12, hy12, h⟩ := bind_elim h
        refine G_opd (op_callf (a := (x8, x10)) [boxC B11 38 [.int .i64 x10.Kind, .int .i64 x10.N, .string x10.S], boxC B9 38 [.int .i64 x8.Kind, .int .i64 x8.N, .string x8.S], slC rDValue (.slice A2 n2 c2) a1, slC rDValue (.slice A1 n1 c1) a0] hf hy12 rfl rfl) rfl rfl rfl ?_
        rintro _ _ ⟨rfl, rfl⟩
        refine G_norm (boxC B11 38 [.int .i64 x10.Kind, .int .i64 x10.N, .string x10.S] :: boxC B9 38 [.int .i64 x8.Kind, .int .i64 x8.N, .string x8.S] :: slC rDValue (.slice A2 n2 c2) a1 :: slC rDValue (.slice A1 n1 c1) a0 :: G) rfl ?_
        refine run ?_
        refine G_cond rfl (fun g13 => ?_) (fun g13 => ?_)
        · replace h := cond_t g13 h
          refine run ?_
          obtain rfl := Option.some.inj h
          exact endG1 rfl rfl (cv_selD [] 4 rfl rfl) ⟨rfl, rfl⟩
        · replace h := cond_f g13 h
          refine run ?_
          obtain ⟨q14, h⟩ := req_elim h
          refine G_ev (ev_add rfl rfl q14.1 q14.2) rfl rfl rfl ?_
          refine run ?_
          exact ⟨m5, _, _, Nat.lt_succ_self _, ⟨p6 + 1, h, rfl, rfl⟩, sub_cons rfl (sub_cons rfl (sub_cons rfl (sub_cons rfl (sub_cons rfl (sub_cons rfl sub_nil))))), cv_sel [2, 3] 4 rfl rfl⟩
      · replace h := cond_f g7 h
        refine run ?_
        exact ⟨_, _, ⟨h, rfl, rfl⟩, sub_cons rfl sub_nil, cv_sel [] 2 rfl rfl⟩
    · rintro _ _ ⟨h, rfl, rfl⟩
      refine run ?_
      obtain rfl := Option.some.inj h
      exact endG1 rfl rfl (cv_selD [] 0 rfl rfl) ⟨rfl, rfl⟩
theorem slices_EqualFunc_free {r : Bool} : ∀ v post, ((fun (u : Value) (post : List Chunk) => u = .bool r ∧ post = [])) v post → ∀ c ∈ post, Free c := by
  rintro _ _ ⟨rfl, rfl⟩; exact mem_nil
def reach_twins_values_O (N : Nat) (a0 : DTwins) (a1 : (List DValue)) (a2 : (List DValue)) : Option Bool :=
  (slices_EqualFunc_O N a1 a2 (fun x => reach_twins_value_O N a0 x.1 x.2)).bind fun y12 => some y12
theorem reach_twins_values_ok {N : Nat} {a0 : DTwins} {a1 : (List DValue)} {a2 : (List DValue)} {r : Bool} (h : reach_twins_values_O N a0 a1 a2 = some r) {B1 : Nat} {A2 : Option Addr} {n2 c2 : Nat} {A3 : Option Addr} {n3 c3 : Nat} {A4 : Option Addr} {n4 c4 : Nat} {A5 : Option Addr} {n5 c5 : Nat} {A6 : Option Addr} {n6 c6 : Nat} {A7 : Option Addr} {n7 c7 : Nat} {M8 : Nat} {M9 : Nat} {A10 : Option Addr} {n10 c10 : Nat} {A11 : Option Addr} {n11 c11 : Nat} : Okc Try.prog 60 [.pointer (some ⟨B1, 0, none⟩), .slice A10 n10 c10, .slice A11 n11 c11] ([rboxC B1 85 [.slice A2 n2 c2, .slice A3 n3 c3, .slice A4 n4 c4, .slice A5 n5 c5, .slice A6 n6 c6, .slice A7 n7 c7, .map (some M8), .map (some M9)], slC rDCell (.slice A2 n2 c2) a0.a_.Young, slC rDCell (.slice A3 n3 c3) a0.a_.Old, slC rDCell (.slice A4 n4 c4) a0.b_.Young, slC rDCell (.slice A5 n5 c5) a0.b_.Old, slC (rInt .i64) (.slice A6 n6 c6) a0.x_, slC (rInt .i64) (.slice A7 n7 c7) a0.y_, romC ekI evI M8 a0.from_, romC ekI evI M9 a0.to_, slC rDValue (.slice A10 n10 c10) a1, slC rDValue (.slice A11 n11 c11) a2]) (fun (u : Value) (post : List Chunk) => u = .bool r ∧ post = []) := by
  refine ok_E Try.func60 rfl rfl ?_
  simp only [envOf]
  refine run ?_
  refine G_ev (ev_makeFuncB (caps := []) rfl rfl) rfl rfl rfl ?_
  obtain ⟨y12, hy12, h⟩ := bind_elim h
  refine G_opd (op_callR (slices_EqualFunc_ok hy12 ⟨mem_cons rfl (mem_cons rfl (mem_cons rfl (mem_cons rfl (mem_cons rfl (mem_cons rfl (mem_cons rfl (mem_cons rfl (mem_cons rfl mem_nil)))))))), 100, #[.pointer (some ⟨B1, 0, none⟩)], #[], rfl, call100, fun _ _ hh => reach_twins_value_ok hh⟩) call99 rfl (mem_cons (lent_ro (i := 9) rfl rfl) (mem_cons (lent_ro (i := 10) rfl rfl) (mem_cons (lent_ro (i := 0) rfl rfl) (mem_cons (lent_ro (i := 1) rfl rfl) (mem_cons (lent_ro (i := 2) rfl rfl) (mem_cons (lent_ro (i := 3) rfl rfl) (mem_cons (lent_ro (i := 4) rfl rfl) (mem_cons (lent_ro (i := 5) rfl rfl) (mem_cons (lent_ro (i := 6) rfl rfl) (mem_cons (lent_ro (i := 7) rfl rfl) (mem_cons (lent_ro (i := 8) rfl rfl) mem_nil))))))))))) slices_EqualFunc_free) rfl rfl rfl ?_
  rintro _ _ ⟨_, ⟨rfl, rfl⟩, rfl⟩
  refine run ?_
  obtain rfl := Option.some.inj h
  exact endG1 rfl rfl (cv_sel [] 11 rfl rfl) ⟨rfl, rfl⟩
theorem reach_twins_values_free {r : Bool} : ∀ v post, ((fun (u : Value) (post : List Chunk) => u = .bool r ∧ post = [])) v post → ∀ c ∈ post, Free c := by
  rintro _ _ ⟨rfl, rfl⟩; exact mem_nil
def weak_Clean_c1_O (N : Nat) (a0 : DValue) (a1 : (List Int)) : Option Bool :=
  (slices_Contains_O N a1 a0.N).bind fun y4 => some y4
theorem weak_Clean_c1_ok {N : Nat} {a0 : DValue} {a1 : (List Int)} {r : Bool} (h : weak_Clean_c1_O N a0 a1 = some r) {B1 : Nat} {A2 : Option Addr} {n2 c2 : Nat} : Okc Try.prog 114 [.agg #[.int .i64 a0.Kind, .int .i64 a0.N, .string a0.S], .pointer (some ⟨B1, 0, none⟩)] ([rboxC B1 31 [.slice A2 n2 c2], slC (rInt .i64) (.slice A2 n2 c2) a1]) (fun (u : Value) (post : List Chunk) => u = .bool r ∧ post = []) := by
  refine ok_E Try.func114 rfl rfl ?_
  simp only [envOf]
  refine run ?_
  refine G_opd (op_box rfl rfl) rfl rfl rfl ?_
  rintro _ _ ⟨B3, rfl, rfl⟩
  refine run ?_
  refine G_rd (rd_rbox1 1 rfl rfl one31 rfl) rfl rfl rfl ?_
  refine run ?_
  obtain ⟨y4, hy4, h⟩ := bind_elim h
  refine G_opd (op_callR (slices_Contains_ok hy4) call35 rfl (mem_cons (lent_ro (i := 2) rfl rfl) mem_nil) slices_Contains_free) rfl rfl rfl ?_
  rintro _ _ ⟨_, ⟨rfl, rfl⟩, rfl⟩
  refine run ?_
  obtain rfl := Option.some.inj h
  exact endG1 rfl rfl (cv_sel [] 3 rfl rfl) ⟨rfl, rfl⟩
end Go.Proofs.Ytmbaennilhdieaa
