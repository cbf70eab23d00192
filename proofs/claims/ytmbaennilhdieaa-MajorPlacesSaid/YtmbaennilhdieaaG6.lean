/- Merged texts: part 6. No conditions of their own. -/
import Derived.Test.YtmbaennilhdieaaG5
import Derived.Test.YtmbaennilhdieaaG1
import Derived.ProofKit
import Derived.Test.YtmbaennilhdieaaG3
/- Pure functions and contracts of Go functions (printed by all3.py). -/
namespace Go.Proofs.Ytmbaennilhdieaa
open Go.RowKit Asn
set_option maxRecDepth 20000

def pantomimelaw22_goes_O (N : Nat) : Option Bool :=
  (pantomimelaw22_object_O N 2).bind fun y1 => (pantomimelaw22_goes_c1_O N ([y1] : List DValue)).bind fun y3 => (pantomimelaw22_goes_c1_O N []).bind fun y6 => (pantomimelaw22_goes_c1_O N []).bind fun y11 => (pantomimelaw22_goes_c1_O N []).bind fun y15 => (pantomimelaw22_object_O N 1).bind fun y21 => (major_Places_O N (⟨([y3, y6] : List DCell), ([y11, y15] : List DCell)⟩ : DMemory) ([y21] : List DValue)).bind fun y23 => (pantomimelaw22_object_O N 1).bind fun y26 => (major_Collect_O N (⟨([y3, y6] : List DCell), ([y11, y15] : List DCell)⟩ : DMemory) ([y26] : List DValue)).bind fun y29 => (pantomimelaw22_object_O N 4).bind fun y57 => (pantomimelaw22_object_O N 6).bind fun y58 => (pantomimelaw22_object_O N 8).bind fun y59 => (pantomimelaw22_goes_c1_O N []).bind fun y61 => (pantomimelaw22_goes_c1_O N []).bind fun y65 => (pantomimelaw22_goes_c1_O N []).bind fun y69 => (pantomimelaw22_object_O N 2).bind fun y75 => (major_Collect_O N (⟨[], ([(⟨10, 0, 0, 0, ([(⟨1, 0, ⟨#[]⟩⟩ : DValue)] : List DValue), ([y57, y58, y59, (⟨0, 0, ⟨#[]⟩⟩ : DValue), (⟨3, 7, ⟨#[]⟩⟩ : DValue)] : List DValue)⟩ : DCell), y61, y65, y69] : List DCell)⟩ : DMemory) ([y75] : List DValue)).bind fun y78 => (pantomimeref19_Same_O N y23.1 ([2, 1] : List Int)).bind fun y108 => (bif y108 then ((pantomimeref19_Same_O N y23.2 ([2, 4] : List Int)).bind fun y112 => some y112) else (some false)).bind fun b109 => ((bif b109 then (some (decide (y29.2.2.2 = 0))) else (some false)).bind fun b113 => ((bif b113 then (some (decide ((y29.1.Old.length : Int) = 2))) else (some false)).bind fun b114 => ((bif b114 then (some (decide ((y29.1.Young.length : Int) = 0))) else (some false)).bind fun b115 => ((bif b115 then ((getE y29.1.Old 1).bind fun x117 => some (decide ((x117.More.length : Int) = 1))) else (some false)).bind fun b116 => ((bif b116 then ((getE y29.1.Old 1).bind fun x123 => (getE x123.More 0).bind fun x128 => (pantomimelaw22_object_O N 2).bind fun y131 => some (decide (x128 = y131))) else (some false)).bind fun b122 => ((bif b122 then (some (decide ((y29.2.1.length : Int) = 1))) else (some false)).bind fun b132 => ((bif b132 then ((getE y29.2.1 0).bind fun x134 => (pantomimelaw22_object_O N 4).bind fun y135 => some (decide (x134 = y135))) else (some false)).bind fun b133 => ((bif b133 then (some (decide ((y29.2.2.1.length : Int) = 0))) else (some false)).bind fun b136 => ((bif b136 then (some (decide (y78.2.2.2 = 0))) else (some false)).bind fun b137 => ((bif b137 then (some (decide ((y78.1.Old.length : Int) = 3))) else (some false)).bind fun b138 => ((bif b138 then ((pantomimelaw22_object_O N 4).bind fun y140 => (pantomimelaw22_object_O N 6).bind fun y141 => (pantomimeref15_SameValues_O N y78.2.2.1 ([y140, y141, (⟨3, 7, ⟨#[]⟩⟩ : DValue)] : List DValue)).bind fun y144 => some y144) else (some false)).bind fun b139 => (some b139))))))))))))
set_option maxHeartbeats 4000000 in
theorem pantomimelaw22_goes_ok {N : Nat} {r : Bool} (h : pantomimelaw22_goes_O N = some r) : Okc Try.prog 27 [] ([]) (fun (u : Value) (post : List Chunk) => u = .bool r ∧ post = []) := by
  refine ok_E Try.func27 rfl rfl ?_
  simp only [envOf]
  refine run ?_
  obtain ⟨y1, hy1, h⟩ := bind_elim h
  refine G_opd (op_callR (pantomimelaw22_object_ok hy1) call64 rfl (mem_nil) pantomimelaw22_object_free) rfl rfl rfl ?_
  rintro _ _ ⟨_, ⟨rfl, rfl⟩, rfl⟩
  refine G_opd (op_bslice (R := rDValue) (vss := [[.int .i64 y1.Kind, .int .i64 y1.N, .string y1.S]]) (xs := [y1]) rfl (bsl_25_1 _ _ _) rfl rfl (fun _ _ hr => .cons rfl All2.nil)) rfl rfl rfl ?_
  rintro _ _ ⟨A2, n2, c2, rfl, rfl⟩
  obtain ⟨y3, hy3, h⟩ := bind_elim h
  refine G_cv (cv_frz 0 rfl) ?_
  refine G_norm ([slC rDValue (.slice A2 n2 c2) ([y1] : List DValue)]) rfl ?_
  refine G_opd (op_callc (pantomimelaw22_goes_c1_ok hy3) call63 rfl rfl rfl (cv_take [0] [] [0] 1 rfl)) rfl rfl rfl ?_
  rintro _ _ ⟨_, ⟨A4, n4, c4, A5, n5, c5, rfl, rfl⟩, rfl⟩
  refine G_norm ([slC rDValue (.slice A4 n4 c4) y3.Slots, slC rDValue (.slice A5 n5 c5) y3.More, slC rDValue (.slice A2 n2 c2) ([y1] : List DValue)]) rfl ?_
  refine run ?_
  obtain ⟨y6, hy6, h⟩ := bind_elim h
  refine G_cv (cv_nilS rDValue _) ?_
  refine G_opd (op_callc (pantomimelaw22_goes_c1_ok hy6) call63 rfl rfl rfl (cv_take [0] [] [0, 1, 2, 3] 4 rfl)) rfl rfl rfl ?_
  rintro _ _ ⟨_, ⟨A7, n7, c7, A8, n8, c8, rfl, rfl⟩, rfl⟩
  refine G_norm ([slC rDValue (.slice A7 n7 c7) y6.Slots, slC rDValue (.slice A8 n8 c8) y6.More, slC rDValue (.slice none 0 0) ([] : List DValue), slC rDValue (.slice A4 n4 c4) y3.Slots, slC rDValue (.slice A5 n5 c5) y3.More, slC rDValue (.slice A2 n2 c2) ([y1] : List DValue)]) rfl ?_
  refine G_opd (op_bslice (R := rDCell) (vss := [[.int .i64 y3.Kind, .int .i64 y3.Shape, .int .i64 y3.Flags, .int .i64 y3.Age, .slice A4 n4 c4, .slice A5 n5 c5], [.int .i64 y6.Kind, .int .i64 y6.Shape, .int .i64 y6.Flags, .int .i64 y6.Age, .slice A7 n7 c7, .slice A8 n8 c8]]) (xs := [y3, y6]) rfl (bsl_22_2 _ _ _ _ _ _ _ _ _ _ _ _ _ _ _ _ _ _ _ _) rfl rfl (fun _ _ hr => .cons (⟨_, _, _, _, _, _, rfl, hr 3 _ rfl rfl, hr 4 _ rfl rfl⟩) (.cons (⟨_, _, _, _, _, _, rfl, hr 0 _ rfl rfl, hr 1 _ rfl rfl⟩) All2.nil))) rfl rfl rfl ?_
  rintro _ _ ⟨A10, n10, c10, rfl, rfl⟩
  refine run ?_
  obtain ⟨y11, hy11, h⟩ := bind_elim h
  refine G_cv (cv_nilS rDValue _) ?_
  refine G_opd (op_callc (pantomimelaw22_goes_c1_ok hy11) call63 rfl rfl rfl (cv_take [0] [] [0, 1, 2, 3, 4, 5, 6, 7] 8 rfl)) rfl rfl rfl ?_
  rintro _ _ ⟨_, ⟨A12, n12, c12, A13, n13, c13, rfl, rfl⟩, rfl⟩
  refine G_norm ([slC rDValue (.slice A12 n12 c12) y11.Slots, slC rDValue (.slice A13 n13 c13) y11.More, slC rDValue (.slice none 0 0) ([] : List DValue), ownC rDCell 42 (.slice A10 n10 c10) ([y3, y6] : List DCell), slC rDValue (.slice A7 n7 c7) y6.Slots, slC rDValue (.slice A8 n8 c8) y6.More, slC rDValue (.slice none 0 0) ([] : List DValue), slC rDValue (.slice A4 n4 c4) y3.Slots, slC rDValue (.slice A5 n5 c5) y3.More, slC rDValue (.slice A2 n2 c2) ([y1] : List DValue)]) rfl ?_
  refine run ?_
  obtain ⟨y15, hy15, h⟩ := bind_elim h
  refine G_cv (cv_nilS rDValue _) ?_
  refine G_opd (op_callc (pantomimelaw22_goes_c1_ok hy15) call63 rfl rfl rfl (cv_take [0] [] [0, 1, 2, 3, 4, 5, 6, 7, 8, 9, 10] 11 rfl)) rfl rfl rfl ?_
  rintro _ _ ⟨_, ⟨A16, n16, c16, A17, n17, c17, rfl, rfl⟩, rfl⟩
  refine G_norm ([slC rDValue (.slice A16 n16 c16) y15.Slots, slC rDValue (.slice A17 n17 c17) y15.More, slC rDValue (.slice none 0 0) ([] : List DValue), slC rDValue (.slice A12 n12 c12) y11.Slots, slC rDValue (.slice A13 n13 c13) y11.More, slC rDValue (.slice none 0 0) ([] : List DValue), ownC rDCell 42 (.slice A10 n10 c10) ([y3, y6] : List DCell), slC rDValue (.slice A7 n7 c7) y6.Slots, slC rDValue (.slice A8 n8 c8) y6.More, slC rDValue (.slice none 0 0) ([] : List DValue), slC rDValue (.slice A4 n4 c4) y3.Slots, slC rDValue (.slice A5 n5 c5) y3.More, slC rDValue (.slice A2 n2 c2) ([y1] : List DValue)]) rfl ?_
  refine G_opd (op_bslice (R := rDCell) (vss := [[.int .i64 y11.Kind, .int .i64 y11.Shape, .int .i64 y11.Flags, .int .i64 y11.Age, .slice A12 n12 c12, .slice A13 n13 c13], [.int .i64 y15.Kind, .int .i64 y15.Shape, .int .i64 y15.Flags, .int .i64 y15.Age, .slice A16 n16 c16, .slice A17 n17 c17]]) (xs := [y11, y15]) rfl (bsl_22_2 _ _ _ _ _ _ _ _ _ _ _ _ _ _ _ _ _ _ _ _) rfl rfl (fun _ _ hr => .cons (⟨_, _, _, _, _, _, rfl, hr 3 _ rfl rfl, hr 4 _ rfl rfl⟩) (.cons (⟨_, _, _, _, _, _, rfl, hr 0 _ rfl rfl, hr 1 _ rfl rfl⟩) All2.nil))) rfl rfl rfl ?_
  rintro _ _ ⟨A19, n19, c19, rfl, rfl⟩
  refine G_ev (ev_build rfl (bld_24_0_1 _ _ _ _ _ _)) rfl rfl rfl ?_
  refine G_opd (op_alloc zero24 rfl) rfl rfl rfl ?_
  rintro _ _ ⟨B20, rfl, rfl⟩
  refine G_opn (op_store (us := [.slice A10 n10 c10, .slice A19 n19 c19]) (cs' := [.slice A10 n10 c10, .slice A19 n19 c19]) 0 rfl rfl rfl rfl size24 rfl rfl rfl) rfl rfl ?_
  rintro _ _ rfl
  refine G_norm ([boxC B20 24 [.slice A10 n10 c10, .slice A19 n19 c19], ownC rDCell 42 (.slice A19 n19 c19) ([y11, y15] : List DCell), slC rDValue (.slice A16 n16 c16) y15.Slots, slC rDValue (.slice A17 n17 c17) y15.More, slC rDValue (.slice none 0 0) ([] : List DValue), slC rDValue (.slice A12 n12 c12) y11.Slots, slC rDValue (.slice A13 n13 c13) y11.More, slC rDValue (.slice none 0 0) ([] : List DValue), ownC rDCell 42 (.slice A10 n10 c10) ([y3, y6] : List DCell), slC rDValue (.slice A7 n7 c7) y6.Slots, slC rDValue (.slice A8 n8 c8) y6.More, slC rDValue (.slice none 0 0) ([] : List DValue), slC rDValue (.slice A4 n4 c4) y3.Slots, slC rDValue (.slice A5 n5 c5) y3.More, slC rDValue (.slice A2 n2 c2) ([y1] : List DValue)]) rfl ?_
  refine run ?_
  refine G_seq ?_
  refine G_drawn (by kernel_rfl) _ (cv_refl _) ?_
  refine T3_rd 0 rfl (by kernel_rfl) (rd_boxS (us := [.slice A10 n10 c10, .slice A19 n19 c19]) 0 rfl rfl agg24 rfl) rfl rfl ?_
  obtain ⟨y21, hy21, h⟩ := bind_elim h
  refine T3_opd 1 rfl (by kernel_rfl) (op_callR (pantomimelaw22_object_ok hy21) call64 rfl (mem_nil) pantomimelaw22_object_free) rfl rfl rfl ?_
  rintro _ _ ⟨_, ⟨rfl, rfl⟩, rfl⟩
  refine ⟨_, cv_refl _, cv_refl _, ?_⟩
  refine T3_opd 2 rfl (by kernel_rfl) (op_bslice (R := rDValue) (vss := [[.int .i64 y21.Kind, .int .i64 y21.N, .string y21.S]]) (xs := [y21]) rfl (bsl_25_1 _ _ _) rfl rfl (fun _ _ hr => .cons rfl All2.nil)) rfl rfl rfl ?_
  rintro _ _ ⟨A22, n22, c22, rfl, rfl⟩
  refine ⟨[boxC B20 24 [.slice A10 n10 c10, .slice A19 n19 c19], ownC rDCell 42 (.slice A19 n19 c19) ([y11, y15] : List DCell), slC rDValue (.slice A16 n16 c16) y15.Slots, slC rDValue (.slice A17 n17 c17) y15.More, slC rDValue (.slice none 0 0) ([] : List DValue), slC rDValue (.slice A12 n12 c12) y11.Slots, slC rDValue (.slice A13 n13 c13) y11.More, slC rDValue (.slice none 0 0) ([] : List DValue), ownC rDCell 42 (.slice A10 n10 c10) ([y3, y6] : List DCell), slC rDValue (.slice A7 n7 c7) y6.Slots, slC rDValue (.slice A8 n8 c8) y6.More, slC rDValue (.slice none 0 0) ([] : List DValue), slC rDValue (.slice A4 n4 c4) y3.Slots, slC rDValue (.slice A5 n5 c5) y3.More, slC rDValue (.slice A2 n2 c2) ([y1] : List DValue)], cv_sel [1, 2, 3, 4, 5, 6, 7, 8, 9, 10, 11, 12, 13, 14, 15] 16 rfl rfl, cv_refl _, ?_⟩
  obtain ⟨y23, hy23, h⟩ := bind_elim h
  refine T3_opd 3 rfl (by kernel_rfl) (op_callR (major_Places_ok hy23) call28 rfl (mem_cons (lent_own (i := 9) rfl) (mem_cons (lent_own (i := 2) rfl) (mem_cons (lent_own (i := 0) rfl) mem_nil))) major_Places_free) rfl rfl rfl ?_
  rintro _ _ ⟨_, ⟨A24, n24, c24, A25, n25, c25, rfl, rfl⟩, rfl⟩
  refine ⟨[boxC B20 24 [.slice A10 n10 c10, .slice A19 n19 c19], ownC rDCell 42 (.slice A19 n19 c19) ([y11, y15] : List DCell), slC rDValue (.slice A16 n16 c16) y15.Slots, slC rDValue (.slice A17 n17 c17) y15.More, slC rDValue (.slice none 0 0) ([] : List DValue), slC rDValue (.slice A12 n12 c12) y11.Slots, slC rDValue (.slice A13 n13 c13) y11.More, slC rDValue (.slice none 0 0) ([] : List DValue), ownC rDCell 42 (.slice A10 n10 c10) ([y3, y6] : List DCell), slC rDValue (.slice A7 n7 c7) y6.Slots, slC rDValue (.slice A8 n8 c8) y6.More, slC rDValue (.slice none 0 0) ([] : List DValue), slC rDValue (.slice A4 n4 c4) y3.Slots, slC rDValue (.slice A5 n5 c5) y3.More, slC rDValue (.slice A2 n2 c2) ([y1] : List DValue)], cv_sel [3, 4, 5, 6, 7, 8, 9, 10, 11, 12, 13, 14, 15, 16, 17] 18 rfl rfl, cv_refl _, ?_⟩
  refine T3_ev 4 rfl (by kernel_rfl) (ev_move rfl) rfl rfl ?_
  refine T3_ev 5 rfl (by kernel_rfl) (ev_extract rfl rfl) rfl rfl ?_
  refine T3_ev 6 rfl (by kernel_rfl) (ev_extract rfl rfl) rfl rfl ?_
  refine T3_ev 7 rfl (by kernel_rfl) (ev_assign rfl) rfl rfl ?_
  refine T3_ev 8 rfl (by kernel_rfl) (ev_assign rfl) rfl rfl ?_
  refine T3_done (by kernel_rfl) ?_
  refine nx_n ?_
  refine G_seq ?_
  refine G_sub ?_ sub_refl (cv_frz 4 rfl)
  refine Wq_norm ([ownC (rInt .i64) 3 (.slice A24 n24 c24) y23.1, ownC (rInt .i64) 3 (.slice A25 n25 c25) y23.2, ownC rDValue 38 (.slice A22 n22 c22) ([y21] : List DValue), boxC B20 24 [.slice A10 n10 c10, .slice A19 n19 c19], slC rDCell (.slice A19 n19 c19) ([y11, y15] : List DCell), slC rDValue (.slice A16 n16 c16) y15.Slots, slC rDValue (.slice A17 n17 c17) y15.More, slC rDValue (.slice none 0 0) ([] : List DValue), slC rDValue (.slice A12 n12 c12) y11.Slots, slC rDValue (.slice A13 n13 c13) y11.More, slC rDValue (.slice none 0 0) ([] : List DValue), ownC rDCell 42 (.slice A10 n10 c10) ([y3, y6] : List DCell), slC rDValue (.slice A7 n7 c7) y6.Slots, slC rDValue (.slice A8 n8 c8) y6.More, slC rDValue (.slice none 0 0) ([] : List DValue), slC rDValue (.slice A4 n4 c4) y3.Slots, slC rDValue (.slice A5 n5 c5) y3.More, slC rDValue (.slice A2 n2 c2) ([y1] : List DValue)]) rfl ?_
  refine G_sub ?_ sub_refl (cv_frz 11 rfl)
  refine Wq_norm ([ownC (rInt .i64) 3 (.slice A24 n24 c24) y23.1, ownC (rInt .i64) 3 (.slice A25 n25 c25) y23.2, ownC rDValue 38 (.slice A22 n22 c22) ([y21] : List DValue), boxC B20 24 [.slice A10 n10 c10, .slice A19 n19 c19], slC rDCell (.slice A19 n19 c19) ([y11, y15] : List DCell), slC rDValue (.slice A16 n16 c16) y15.Slots, slC rDValue (.slice A17 n17 c17) y15.More, slC rDValue (.slice none 0 0) ([] : List DValue), slC rDValue (.slice A12 n12 c12) y11.Slots, slC rDValue (.slice A13 n13 c13) y11.More, slC rDValue (.slice none 0 0) ([] : List DValue), slC rDCell (.slice A10 n10 c10) ([y3, y6] : List DCell), slC rDValue (.slice A7 n7 c7) y6.Slots, slC rDValue (.slice A8 n8 c8) y6.More, slC rDValue (.slice none 0 0) ([] : List DValue), slC rDValue (.slice A4 n4 c4) y3.Slots, slC rDValue (.slice A5 n5 c5) y3.More, slC rDValue (.slice A2 n2 c2) ([y1] : List DValue)]) rfl ?_
  obtain ⟨y26, hy26, h⟩ := bind_elim h
  obtain ⟨y29, hy29, h⟩ := bind_elim h
  refine G_sub (t := [(0, .bool false), (1, .func (.func 63) #[] #[]), (2, .pointer (some ⟨B20, 0, none⟩)), (3, .slice A24 n24 c24), (4, .slice A25 n25 c25)]) ?_ subT (cv_refl _)
  refine G_monoX (by kernel_rfl) 10 [6, 7, 8] [5, 6, 7, 8, 9] [35, 36, 37, 38, 34, 39, 40, 41, 42, 5] [[], [], [1], [0, 2], [3], [4], [4], [4], [4], []] [aV (.agg #[.slice A10 n10 c10, .slice A19 n19 c19]),
 aV (.agg #[.int .i64 y26.Kind, .int .i64 y26.N, .string y26.S]),
 aX3 (fun (A28 : Option Addr) (n28 c28 : Nat) => .slice A28 n28 c28) (fun A28 n28 c28 => [slC rDValue (.slice A28 n28 c28) ([y26] : List DValue)]),
 aX12 (fun (A34 : Option Addr) (n34 c34 : Nat) (A35 : Option Addr) (n35 c35 : Nat) (A36 : Option Addr) (n36 c36 : Nat) (A37 : Option Addr) (n37 c37 : Nat) => .tuple #[.agg #[.slice A34 n34 c34, .slice A35 n35 c35], .slice A36 n36 c36, .slice A37 n37 c37, .int .i64 y29.2.2.2]) (fun A34 n34 c34 A35 n35 c35 A36 n36 c36 A37 n37 c37 => [slC rDCell (.slice A34 n34 c34) y29.1.Young, slC rDCell (.slice A35 n35 c35) y29.1.Old, slC rDValue (.slice A36 n36 c36) y29.2.1, slC rDValue (.slice A37 n37 c37) y29.2.2.1]),
 aX12 (fun (A38 : Option Addr) (n38 c38 : Nat) (A39 : Option Addr) (n39 c39 : Nat) (A40 : Option Addr) (n40 c40 : Nat) (A41 : Option Addr) (n41 c41 : Nat) => .tuple #[.agg #[.slice A38 n38 c38, .slice A39 n39 c39], .slice A40 n40 c40, .slice A41 n41 c41, .int .i64 y29.2.2.2]) (fun A38 n38 c38 A39 n39 c39 A40 n40 c40 A41 n41 c41 => [slC rDCell (.slice A38 n38 c38) y29.1.Young, slC rDCell (.slice A39 n39 c39) y29.1.Old, slC rDValue (.slice A40 n40 c40) y29.2.1, slC rDValue (.slice A41 n41 c41) y29.2.2.1]),
 aX6 (fun (A46 : Option Addr) (n46 c46 : Nat) (A47 : Option Addr) (n47 c47 : Nat) => .agg #[.slice A46 n46 c46, .slice A47 n47 c47]) (fun A46 n46 c46 A47 n47 c47 => [slC rDCell (.slice A46 n46 c46) y29.1.Young, slC rDCell (.slice A47 n47 c47) y29.1.Old]),
 aX3 (fun (A50 : Option Addr) (n50 c50 : Nat) => .slice A50 n50 c50) (fun A50 n50 c50 => [slC rDValue (.slice A50 n50 c50) y29.2.1]),
 aX3 (fun (A52 : Option Addr) (n52 c52 : Nat) => .slice A52 n52 c52) (fun A52 n52 c52 => [slC rDValue (.slice A52 n52 c52) y29.2.2.1]),
 aV (.int .i64 y29.2.2.2),
 aX1 (fun (B55 : Nat) => .pointer (some ⟨B55, 0, none⟩)) (fun B55 => [boxC B55 24 [.slice none 0 0, .slice none 0 0]])] [] (cv_refl _) (qB_cons rfl (qB_cons rfl (qB_cons rfl qB_nil))) (by kernel_rfl) rfl rfl ?_ ?_ ?_
  · refine qs_cons rfl ?_ ?_
    · intro A38 n38 c38 A39 n39 c39 A40 n40 c40 A41 n41 c41
      exact QS_ev (ev_extract rfl rfl) rfl (cvp3 A40 n40 c40 ((cv_dup 2 rfl rfl).trans (cv_refl _)))
    refine qs_cons rfl ?_ ?_
    · intro A38 n38 c38 A39 n39 c39 A40 n40 c40 A41 n41 c41
      exact QS_ev (ev_extract rfl rfl) rfl (cvp3 A41 n41 c41 ((cv_dup 3 rfl rfl).trans (cv_refl _)))
    refine qs_cons rfl ?_ ?_
    · intro A38 n38 c38 A39 n39 c39 A40 n40 c40 A41 n41 c41
      exact QS_ev (ev_extract rfl rfl) rfl (cvpV rfl (cv_refl _))
    exact qs_nil
  · refine steps_cons rfl ?_ ?_
    · refine X_op (op_alloc zero24 rfl) rfl ?_
      rintro _ _ ⟨B54, rfl, rfl⟩
      exact cvp1 B54 (cv_refl _)
    refine steps_cons rfl ?_ ?_
    · intro A38 n38 c38 A39 n39 c39 A40 n40 c40 A41 n41 c41
      exact X_ev (ev_extract rfl rfl) rfl (cvpV rfl (cv_refl _))
    refine steps_cons rfl ?_ ?_
    · intro A38 n38 c38 A39 n39 c39 A40 n40 c40 A41 n41 c41
      exact X_ev (ev_extract rfl rfl) rfl (cvp3 A41 n41 c41 ((cv_dup 3 rfl rfl).trans (cv_refl _)))
    refine steps_cons rfl ?_ ?_
    · intro A38 n38 c38 A39 n39 c39 A40 n40 c40 A41 n41 c41
      exact X_ev (ev_extract rfl rfl) rfl (cvp3 A40 n40 c40 ((cv_dup 2 rfl rfl).trans (cv_refl _)))
    refine steps_cons rfl ?_ ?_
    · intro A38 n38 c38 A39 n39 c39 A40 n40 c40 A41 n41 c41
      exact X_ev (ev_extract rfl rfl) rfl (cvp6 A38 n38 c38 A39 n39 c39 ((cv_dup 0 rfl rfl).trans ((cv_dup 2 rfl rfl).trans (cv_sel [1, 0, 2, 3, 4, 5, 6, 7, 8, 9, 10, 11, 12, 13, 14, 15, 16, 17, 18, 19, 20, 21, 22, 23] 24 rfl rfl))))
    refine steps_cons rfl ?_ ?_
    · intro A34 n34 c34 A35 n35 c35 A36 n36 c36 A37 n37 c37
      exact X_ev (ev_move rfl) rfl (cvp12 A34 n34 c34 A35 n35 c35 A36 n36 c36 A37 n37 c37 ((cv_dup 0 rfl rfl).trans ((cv_dup 2 rfl rfl).trans ((cv_dup 4 rfl rfl).trans ((cv_dup 6 rfl rfl).trans (cv_sel [3, 2, 1, 0, 4, 5, 6, 7, 8, 9, 10, 11, 12, 13, 14, 15, 16, 17, 18, 19, 20, 21, 22, 23, 24, 25] 26 rfl rfl))))))
    refine steps_cons rfl ?_ ?_
    · intro A28 n28 c28
      refine X_op (op_call (major_Collect_ok hy29) call65 rfl (cv_take [12, 5, 0] [] [0, 1, 2, 3, 4, 5, 6, 7, 8, 9, 10, 11, 12, 13, 14, 15, 16, 17, 18] 19 rfl)) rfl ?_
      rintro _ _ ⟨_, ⟨A30, n30, c30, A31, n31, c31, A32, n32, c32, A33, n33, c33, rfl, rfl⟩, rfl⟩
      exact cvp12 A30 n30 c30 A31 n31 c31 A32 n32 c32 A33 n33 c33 ((cv_frz 0 rfl).trans ((cv_frz 1 rfl).trans ((cv_frz 2 rfl).trans ((cv_frz 3 rfl).trans (cv_refl _)))))
    refine steps_cons rfl ?_ ?_
    · refine X_op (op_bslice (R := rDValue) (vss := [[.int .i64 y26.Kind, .int .i64 y26.N, .string y26.S]]) (xs := [y26]) rfl (bsl_25_1 _ _ _) rfl rfl (fun _ _ hr => .cons rfl All2.nil)) rfl ?_
      rintro _ _ ⟨A27, n27, c27, rfl, rfl⟩
      exact cvp3 A27 n27 c27 ((cv_frz 0 rfl).trans (cv_refl _))
    refine steps_cons rfl ?_ ?_
    · refine X_op (op_callR (pantomimelaw22_object_ok hy26) call64 rfl (mem_nil) pantomimelaw22_object_free) rfl ?_
      rintro _ _ ⟨_, ⟨rfl, rfl⟩, rfl⟩
      exact cvpV rfl (cv_refl _)
    refine steps_cons rfl ?_ ?_
    · exact X_rd (rd_boxS (us := [.slice A10 n10 c10, .slice A19 n19 c19]) 3 rfl rfl agg24 rfl) rfl (cvpV rfl (cv_refl _))
    exact steps_nil
  · intro A46 n46 c46 A47 n47 c47 A50 n50 c50 A52 n52 c52 B55
    refine N_sub (t := [(39, .agg #[.slice A46 n46 c46, .slice A47 n47 c47]), (40, .slice A50 n50 c50), (41, .slice A52 n52 c52), (42, .int .i64 y29.2.2.2), (5, .pointer (some ⟨B55, 0, none⟩)), (0, .bool false), (1, .func (.func 63) #[] #[]), (2, .pointer (some ⟨B20, 0, none⟩)), (3, .slice A24 n24 c24), (4, .slice A25 n25 c25)]) (L' := [slC rDCell (.slice A46 n46 c46) y29.1.Young, slC rDCell (.slice A47 n47 c47) y29.1.Old, slC rDValue (.slice A50 n50 c50) y29.2.1, slC rDValue (.slice A52 n52 c52) y29.2.2.1, boxC B55 24 [.slice none 0 0, .slice none 0 0], ownC (rInt .i64) 3 (.slice A24 n24 c24) y23.1, ownC (rInt .i64) 3 (.slice A25 n25 c25) y23.2, ownC rDValue 38 (.slice A22 n22 c22) ([y21] : List DValue), boxC B20 24 [.slice A10 n10 c10, .slice A19 n19 c19], slC rDCell (.slice A19 n19 c19) ([y11, y15] : List DCell), slC rDValue (.slice A16 n16 c16) y15.Slots, slC rDValue (.slice A17 n17 c17) y15.More, slC rDValue (.slice none 0 0) ([] : List DValue), slC rDValue (.slice A12 n12 c12) y11.Slots, slC rDValue (.slice A13 n13 c13) y11.More, slC rDValue (.slice none 0 0) ([] : List DValue), slC rDCell (.slice A10 n10 c10) ([y3, y6] : List DCell), slC rDValue (.slice A7 n7 c7) y6.Slots, slC rDValue (.slice A8 n8 c8) y6.More, slC rDValue (.slice none 0 0) ([] : List DValue), slC rDValue (.slice A4 n4 c4) y3.Slots, slC rDValue (.slice A5 n5 c5) y3.More, slC rDValue (.slice A2 n2 c2) ([y1] : List DValue)]) ?_ subT (cv_refl _)
    refine N_opn 10 rfl (by kernel_rfl) (op_store (us := [.slice A46 n46 c46, .slice A47 n47 c47]) (cs' := [.slice A46 n46 c46, .slice A47 n47 c47]) 4 rfl rfl rfl rfl size24 rfl rfl rfl) rfl rfl ?_
    rintro _ _ rfl
    refine N_norm ([slC rDCell (.slice A46 n46 c46) y29.1.Young, slC rDCell (.slice A47 n47 c47) y29.1.Old, slC rDValue (.slice A50 n50 c50) y29.2.1, slC rDValue (.slice A52 n52 c52) y29.2.2.1, boxC B55 24 [.slice A46 n46 c46, .slice A47 n47 c47], ownC (rInt .i64) 3 (.slice A24 n24 c24) y23.1, ownC (rInt .i64) 3 (.slice A25 n25 c25) y23.2, ownC rDValue 38 (.slice A22 n22 c22) ([y21] : List DValue), boxC B20 24 [.slice A10 n10 c10, .slice A19 n19 c19], slC rDCell (.slice A19 n19 c19) ([y11, y15] : List DCell), slC rDValue (.slice A16 n16 c16) y15.Slots, slC rDValue (.slice A17 n17 c17) y15.More, slC rDValue (.slice none 0 0) ([] : List DValue), slC rDValue (.slice A12 n12 c12) y11.Slots, slC rDValue (.slice A13 n13 c13) y11.More, slC rDValue (.slice none 0 0) ([] : List DValue), slC rDCell (.slice A10 n10 c10) ([y3, y6] : List DCell), slC rDValue (.slice A7 n7 c7) y6.Slots, slC rDValue (.slice A8 n8 c8) y6.More, slC rDValue (.slice none 0 0) ([] : List DValue), slC rDValue (.slice A4 n4 c4) y3.Slots, slC rDValue (.slice A5 n5 c5) y3.More, slC rDValue (.slice A2 n2 c2) ([y1] : List DValue)]) rfl ?_
    refine N_ev 11 rfl (by kernel_rfl) (ev_assign rfl) rfl rfl rfl ?_
    refine N_ev 12 rfl (by kernel_rfl) (ev_assign rfl) rfl rfl rfl ?_
    refine N_ev 13 rfl (by kernel_rfl) (ev_assign rfl) rfl rfl rfl ?_
    refine N_done (by kernel_rfl) ?_
    refine run ?_
    refine G_ev (ev_build rfl (bld_38_0 _)) rfl rfl rfl ?_
    refine G_opd (op_bslice (R := rDValue) (vss := [[.int .i64 1, .int .i64 0, .string (⟨#[]⟩)]]) (xs := [(⟨1, 0, ⟨#[]⟩⟩ : DValue)]) rfl (bsl_25_1 _ _ _) rfl rfl (fun _ _ hr => .cons rfl All2.nil)) rfl rfl rfl ?_
    rintro _ _ ⟨A56, n56, c56, rfl, rfl⟩
    obtain ⟨y57, hy57, h⟩ := bind_elim h
    refine G_opd (op_callR (pantomimelaw22_object_ok hy57) call64 rfl (mem_nil) pantomimelaw22_object_free) rfl rfl rfl ?_
    rintro _ _ ⟨_, ⟨rfl, rfl⟩, rfl⟩
    obtain ⟨y58, hy58, h⟩ := bind_elim h
    refine G_opd (op_callR (pantomimelaw22_object_ok hy58) call64 rfl (mem_nil) pantomimelaw22_object_free) rfl rfl rfl ?_
    rintro _ _ ⟨_, ⟨rfl, rfl⟩, rfl⟩
    obtain ⟨y59, hy59, h⟩ := bind_elim h
    refine G_opd (op_callR (pantomimelaw22_object_ok hy59) call64 rfl (mem_nil) pantomimelaw22_object_free) rfl rfl rfl ?_
    rintro _ _ ⟨_, ⟨rfl, rfl⟩, rfl⟩
    refine G_ev (ev_build rfl (bld_38_)) rfl rfl rfl ?_
    refine G_ev (ev_build rfl (bld_38_0_1 _ _)) rfl rfl rfl ?_
    refine G_opd (op_bslice (R := rDValue) (vss := [[.int .i64 y57.Kind, .int .i64 y57.N, .string y57.S], [.int .i64 y58.Kind, .int .i64 y58.N, .string y58.S], [.int .i64 y59.Kind, .int .i64 y59.N, .string y59.S], [.int .i64 0, .int .i64 0, .string (⟨#[]⟩)], [.int .i64 3, .int .i64 7, .string (⟨#[]⟩)]]) (xs := [y57, y58, y59, (⟨0, 0, ⟨#[]⟩⟩ : DValue), (⟨3, 7, ⟨#[]⟩⟩ : DValue)]) rfl (bsl_25_5 _ _ _ _ _ _ _ _ _ _ _ _ _ _ _) rfl rfl (fun _ _ hr => .cons rfl (.cons rfl (.cons rfl (.cons rfl (.cons rfl All2.nil)))))) rfl rfl rfl ?_
    rintro _ _ ⟨A60, n60, c60, rfl, rfl⟩
    refine G_ev (ev_build rfl (bld_42_0_4_5 _ _ _ _ _ _ _)) rfl rfl rfl ?_
    refine run ?_
    obtain ⟨y61, hy61, h⟩ := bind_elim h
    refine G_cv (cv_nilS rDValue _) ?_
    refine G_opd (op_callc (pantomimelaw22_goes_c1_ok hy61) call63 rfl rfl rfl (cv_take [0] [] [0, 1, 2, 3, 4, 5, 6, 7, 8, 9, 10, 11, 12, 13, 14, 15, 16, 17, 18, 19, 20, 21, 22, 23, 24, 25] 26 rfl)) rfl rfl rfl ?_
    rintro _ _ ⟨_, ⟨A62, n62, c62, A63, n63, c63, rfl, rfl⟩, rfl⟩
    refine G_norm ([slC rDValue (.slice A62 n62 c62) y61.Slots, slC rDValue (.slice A63 n63 c63) y61.More, slC rDValue (.slice none 0 0) ([] : List DValue), ownC rDValue 38 (.slice A60 n60 c60) ([y57, y58, y59, (⟨0, 0, ⟨#[]⟩⟩ : DValue), (⟨3, 7, ⟨#[]⟩⟩ : DValue)] : List DValue), ownC rDValue 38 (.slice A56 n56 c56) ([(⟨1, 0, ⟨#[]⟩⟩ : DValue)] : List DValue), slC rDCell (.slice A46 n46 c46) y29.1.Young, slC rDCell (.slice A47 n47 c47) y29.1.Old, slC rDValue (.slice A50 n50 c50) y29.2.1, slC rDValue (.slice A52 n52 c52) y29.2.2.1, boxC B55 24 [.slice A46 n46 c46, .slice A47 n47 c47], ownC (rInt .i64) 3 (.slice A24 n24 c24) y23.1, ownC (rInt .i64) 3 (.slice A25 n25 c25) y23.2, ownC rDValue 38 (.slice A22 n22 c22) ([y21] : List DValue), boxC B20 24 [.slice A10 n10 c10, .slice A19 n19 c19], slC rDCell (.slice A19 n19 c19) ([y11, y15] : List DCell), slC rDValue (.slice A16 n16 c16) y15.Slots, slC rDValue (.slice A17 n17 c17) y15.More, slC rDValue (.slice none 0 0) ([] : List DValue), slC rDValue (.slice A12 n12 c12) y11.Slots, slC rDValue (.slice A13 n13 c13) y11.More, slC rDValue (.slice none 0 0) ([] : List DValue), slC rDCell (.slice A10 n10 c10) ([y3, y6] : List DCell), slC rDValue (.slice A7 n7 c7) y6.Slots, slC rDValue (.slice A8 n8 c8) y6.More, slC rDValue (.slice none 0 0) ([] : List DValue), slC rDValue (.slice A4 n4 c4) y3.Slots, slC rDValue (.slice A5 n5 c5) y3.More, slC rDValue (.slice A2 n2 c2) ([y1] : List DValue)]) rfl ?_
    refine run ?_
    obtain ⟨y65, hy65, h⟩ := bind_elim h
    refine G_cv (cv_nilS rDValue _) ?_
    refine G_opd (op_callc (pantomimelaw22_goes_c1_ok hy65) call63 rfl rfl rfl (cv_take [0] [] [0, 1, 2, 3, 4, 5, 6, 7, 8, 9, 10, 11, 12, 13, 14, 15, 16, 17, 18, 19, 20, 21, 22, 23, 24, 25, 26, 27, 28] 29 rfl)) rfl rfl rfl ?_
    rintro _ _ ⟨_, ⟨A66, n66, c66, A67, n67, c67, rfl, rfl⟩, rfl⟩
    refine G_norm ([slC rDValue (.slice A66 n66 c66) y65.Slots, slC rDValue (.slice A67 n67 c67) y65.More, slC rDValue (.slice none 0 0) ([] : List DValue), slC rDValue (.slice A62 n62 c62) y61.Slots, slC rDValue (.slice A63 n63 c63) y61.More, slC rDValue (.slice none 0 0) ([] : List DValue), ownC rDValue 38 (.slice A60 n60 c60) ([y57, y58, y59, (⟨0, 0, ⟨#[]⟩⟩ : DValue), (⟨3, 7, ⟨#[]⟩⟩ : DValue)] : List DValue), ownC rDValue 38 (.slice A56 n56 c56) ([(⟨1, 0, ⟨#[]⟩⟩ : DValue)] : List DValue), slC rDCell (.slice A46 n46 c46) y29.1.Young, slC rDCell (.slice A47 n47 c47) y29.1.Old, slC rDValue (.slice A50 n50 c50) y29.2.1, slC rDValue (.slice A52 n52 c52) y29.2.2.1, boxC B55 24 [.slice A46 n46 c46, .slice A47 n47 c47], ownC (rInt .i64) 3 (.slice A24 n24 c24) y23.1, ownC (rInt .i64) 3 (.slice A25 n25 c25) y23.2, ownC rDValue 38 (.slice A22 n22 c22) ([y21] : List DValue), boxC B20 24 [.slice A10 n10 c10, .slice A19 n19 c19], slC rDCell (.slice A19 n19 c19) ([y11, y15] : List DCell), slC rDValue (.slice A16 n16 c16) y15.Slots, slC rDValue (.slice A17 n17 c17) y15.More, slC rDValue (.slice none 0 0) ([] : List DValue), slC rDValue (.slice A12 n12 c12) y11.Slots, slC rDValue (.slice A13 n13 c13) y11.More, slC rDValue (.slice none 0 0) ([] : List DValue), slC rDCell (.slice A10 n10 c10) ([y3, y6] : List DCell), slC rDValue (.slice A7 n7 c7) y6.Slots, slC rDValue (.slice A8 n8 c8) y6.More, slC rDValue (.slice none 0 0) ([] : List DValue), slC rDValue (.slice A4 n4 c4) y3.Slots, slC rDValue (.slice A5 n5 c5) y3.More, slC rDValue (.slice A2 n2 c2) ([y1] : List DValue)]) rfl ?_
    refine run ?_
    obtain ⟨y69, hy69, h⟩ := bind_elim h
    refine G_cv (cv_nilS rDValue _) ?_
    refine G_opd (op_callc (pantomimelaw22_goes_c1_ok hy69) call63 rfl rfl rfl (cv_take [0] [] [0, 1, 2, 3, 4, 5, 6, 7, 8, 9, 10, 11, 12, 13, 14, 15, 16, 17, 18, 19, 20, 21, 22, 23, 24, 25, 26, 27, 28, 29, 30, 31] 32 rfl)) rfl rfl rfl ?_
    rintro _ _ ⟨_, ⟨A70, n70, c70, A71, n71, c71, rfl, rfl⟩, rfl⟩
    refine G_norm ([slC rDValue (.slice A70 n70 c70) y69.Slots, slC rDValue (.slice A71 n71 c71) y69.More, slC rDValue (.slice none 0 0) ([] : List DValue), slC rDValue (.slice A66 n66 c66) y65.Slots, slC rDValue (.slice A67 n67 c67) y65.More, slC rDValue (.slice none 0 0) ([] : List DValue), slC rDValue (.slice A62 n62 c62) y61.Slots, slC rDValue (.slice A63 n63 c63) y61.More, slC rDValue (.slice none 0 0) ([] : List DValue), ownC rDValue 38 (.slice A60 n60 c60) ([y57, y58, y59, (⟨0, 0, ⟨#[]⟩⟩ : DValue), (⟨3, 7, ⟨#[]⟩⟩ : DValue)] : List DValue), ownC rDValue 38 (.slice A56 n56 c56) ([(⟨1, 0, ⟨#[]⟩⟩ : DValue)] : List DValue), slC rDCell (.slice A46 n46 c46) y29.1.Young, slC rDCell (.slice A47 n47 c47) y29.1.Old, slC rDValue (.slice A50 n50 c50) y29.2.1, slC rDValue (.slice A52 n52 c52) y29.2.2.1, boxC B55 24 [.slice A46 n46 c46, .slice A47 n47 c47], ownC (rInt .i64) 3 (.slice A24 n24 c24) y23.1, ownC (rInt .i64) 3 (.slice A25 n25 c25) y23.2, ownC rDValue 38 (.slice A22 n22 c22) ([y21] : List DValue), boxC B20 24 [.slice A10 n10 c10, .slice A19 n19 c19], slC rDCell (.slice A19 n19 c19) ([y11, y15] : List DCell), slC rDValue (.slice A16 n16 c16) y15.Slots, slC rDValue (.slice A17 n17 c17) y15.More, slC rDValue (.slice none 0 0) ([] : List DValue), slC rDValue (.slice A12 n12 c12) y11.Slots, slC rDValue (.slice A13 n13 c13) y11.More, slC rDValue (.slice none 0 0) ([] : List DValue), slC rDCell (.slice A10 n10 c10) ([y3, y6] : List DCell), slC rDValue (.slice A7 n7 c7) y6.Slots, slC rDValue (.slice A8 n8 c8) y6.More, slC rDValue (.slice none 0 0) ([] : List DValue), slC rDValue (.slice A4 n4 c4) y3.Slots, slC rDValue (.slice A5 n5 c5) y3.More, slC rDValue (.slice A2 n2 c2) ([y1] : List DValue)]) rfl ?_
    refine G_cv (cv_frz 10 rfl) ?_
    refine G_norm ([slC rDValue (.slice A70 n70 c70) y69.Slots, slC rDValue (.slice A71 n71 c71) y69.More, slC rDValue (.slice none 0 0) ([] : List DValue), slC rDValue (.slice A66 n66 c66) y65.Slots, slC rDValue (.slice A67 n67 c67) y65.More, slC rDValue (.slice none 0 0) ([] : List DValue), slC rDValue (.slice A62 n62 c62) y61.Slots, slC rDValue (.slice A63 n63 c63) y61.More, slC rDValue (.slice none 0 0) ([] : List DValue), ownC rDValue 38 (.slice A60 n60 c60) ([y57, y58, y59, (⟨0, 0, ⟨#[]⟩⟩ : DValue), (⟨3, 7, ⟨#[]⟩⟩ : DValue)] : List DValue), slC rDValue (.slice A56 n56 c56) ([(⟨1, 0, ⟨#[]⟩⟩ : DValue)] : List DValue), slC rDCell (.slice A46 n46 c46) y29.1.Young, slC rDCell (.slice A47 n47 c47) y29.1.Old, slC rDValue (.slice A50 n50 c50) y29.2.1, slC rDValue (.slice A52 n52 c52) y29.2.2.1, boxC B55 24 [.slice A46 n46 c46, .slice A47 n47 c47], ownC (rInt .i64) 3 (.slice A24 n24 c24) y23.1, ownC (rInt .i64) 3 (.slice A25 n25 c25) y23.2, ownC rDValue 38 (.slice A22 n22 c22) ([y21] : List DValue), boxC B20 24 [.slice A10 n10 c10, .slice A19 n19 c19], slC rDCell (.slice A19 n19 c19) ([y11, y15] : List DCell), slC rDValue (.slice A16 n16 c16) y15.Slots, slC rDValue (.slice A17 n17 c17) y15.More, slC rDValue (.slice none 0 0) ([] : List DValue), slC rDValue (.slice A12 n12 c12) y11.Slots, slC rDValue (.slice A13 n13 c13) y11.More, slC rDValue (.slice none 0 0) ([] : List DValue), slC rDCell (.slice A10 n10 c10) ([y3, y6] : List DCell), slC rDValue (.slice A7 n7 c7) y6.Slots, slC rDValue (.slice A8 n8 c8) y6.More, slC rDValue (.slice none 0 0) ([] : List DValue), slC rDValue (.slice A4 n4 c4) y3.Slots, slC rDValue (.slice A5 n5 c5) y3.More, slC rDValue (.slice A2 n2 c2) ([y1] : List DValue)]) rfl ?_
    refine G_cv (cv_frz 9 rfl) ?_
    refine G_norm ([slC rDValue (.slice A70 n70 c70) y69.Slots, slC rDValue (.slice A71 n71 c71) y69.More, slC rDValue (.slice none 0 0) ([] : List DValue), slC rDValue (.slice A66 n66 c66) y65.Slots, slC rDValue (.slice A67 n67 c67) y65.More, slC rDValue (.slice none 0 0) ([] : List DValue), slC rDValue (.slice A62 n62 c62) y61.Slots, slC rDValue (.slice A63 n63 c63) y61.More, slC rDValue (.slice none 0 0) ([] : List DValue), slC rDValue (.slice A60 n60 c60) ([y57, y58, y59, (⟨0, 0, ⟨#[]⟩⟩ : DValue), (⟨3, 7, ⟨#[]⟩⟩ : DValue)] : List DValue), slC rDValue (.slice A56 n56 c56) ([(⟨1, 0, ⟨#[]⟩⟩ : DValue)] : List DValue), slC rDCell (.slice A46 n46 c46) y29.1.Young, slC rDCell (.slice A47 n47 c47) y29.1.Old, slC rDValue (.slice A50 n50 c50) y29.2.1, slC rDValue (.slice A52 n52 c52) y29.2.2.1, boxC B55 24 [.slice A46 n46 c46, .slice A47 n47 c47], ownC (rInt .i64) 3 (.slice A24 n24 c24) y23.1, ownC (rInt .i64) 3 (.slice A25 n25 c25) y23.2, ownC rDValue 38 (.slice A22 n22 c22) ([y21] : List DValue), boxC B20 24 [.slice A10 n10 c10, .slice A19 n19 c19], slC rDCell (.slice A19 n19 c19) ([y11, y15] : List DCell), slC rDValue (.slice A16 n16 c16) y15.Slots, slC rDValue (.slice A17 n17 c17) y15.More, slC rDValue (.slice none 0 0) ([] : List DValue), slC rDValue (.slice A12 n12 c12) y11.Slots, slC rDValue (.slice A13 n13 c13) y11.More, slC rDValue (.slice none 0 0) ([] : List DValue), slC rDCell (.slice A10 n10 c10) ([y3, y6] : List DCell), slC rDValue (.slice A7 n7 c7) y6.Slots, slC rDValue (.slice A8 n8 c8) y6.More, slC rDValue (.slice none 0 0) ([] : List DValue), slC rDValue (.slice A4 n4 c4) y3.Slots, slC rDValue (.slice A5 n5 c5) y3.More, slC rDValue (.slice A2 n2 c2) ([y1] : List DValue)]) rfl ?_
    refine G_opd (op_bslice (R := rDCell) (vss := [[.int .i64 10, .int .i64 0, .int .i64 0, .int .i64 0, .slice A56 n56 c56, .slice A60 n60 c60], [.int .i64 y61.Kind, .int .i64 y61.Shape, .int .i64 y61.Flags, .int .i64 y61.Age, .slice A62 n62 c62, .slice A63 n63 c63], [.int .i64 y65.Kind, .int .i64 y65.Shape, .int .i64 y65.Flags, .int .i64 y65.Age, .slice A66 n66 c66, .slice A67 n67 c67], [.int .i64 y69.Kind, .int .i64 y69.Shape, .int .i64 y69.Flags, .int .i64 y69.Age, .slice A70 n70 c70, .slice A71 n71 c71]]) (xs := [(⟨10, 0, 0, 0, ([(⟨1, 0, ⟨#[]⟩⟩ : DValue)] : List DValue), ([y57, y58, y59, (⟨0, 0, ⟨#[]⟩⟩ : DValue), (⟨3, 7, ⟨#[]⟩⟩ : DValue)] : List DValue)⟩ : DCell), y61, y65, y69]) rfl (bsl_22_4 _ _ _ _ _ _ _ _ _ _ _ _ _ _ _ _ _ _ _ _ _ _ _ _ _ _ _ _ _ _ _ _ _ _ _ _ _ _ _ _) rfl rfl (fun _ _ hr => .cons (⟨_, _, _, _, _, _, rfl, hr 10 _ rfl rfl, hr 9 _ rfl rfl⟩) (.cons (⟨_, _, _, _, _, _, rfl, hr 6 _ rfl rfl, hr 7 _ rfl rfl⟩) (.cons (⟨_, _, _, _, _, _, rfl, hr 3 _ rfl rfl, hr 4 _ rfl rfl⟩) (.cons (⟨_, _, _, _, _, _, rfl, hr 0 _ rfl rfl, hr 1 _ rfl rfl⟩) All2.nil))))) rfl rfl rfl ?_
    rintro _ _ ⟨A73, n73, c73, rfl, rfl⟩
    refine G_ev (ev_build rfl (bld_24_1 _ _ _)) rfl rfl rfl ?_
    refine G_opd (op_alloc zero24 rfl) rfl rfl rfl ?_
    rintro _ _ ⟨B74, rfl, rfl⟩
    refine G_opn (op_store (us := [.slice none 0 0, .slice A73 n73 c73]) (cs' := [.slice none 0 0, .slice A73 n73 c73]) 0 rfl rfl rfl rfl size24 rfl rfl rfl) rfl rfl ?_
    rintro _ _ rfl
    refine G_norm ([boxC B74 24 [.slice none 0 0, .slice A73 n73 c73], ownC rDCell 42 (.slice A73 n73 c73) ([(⟨10, 0, 0, 0, ([(⟨1, 0, ⟨#[]⟩⟩ : DValue)] : List DValue), ([y57, y58, y59, (⟨0, 0, ⟨#[]⟩⟩ : DValue), (⟨3, 7, ⟨#[]⟩⟩ : DValue)] : List DValue)⟩ : DCell), y61, y65, y69] : List DCell), slC rDValue (.slice A70 n70 c70) y69.Slots, slC rDValue (.slice A71 n71 c71) y69.More, slC rDValue (.slice none 0 0) ([] : List DValue), slC rDValue (.slice A66 n66 c66) y65.Slots, slC rDValue (.slice A67 n67 c67) y65.More, slC rDValue (.slice none 0 0) ([] : List DValue), slC rDValue (.slice A62 n62 c62) y61.Slots, slC rDValue (.slice A63 n63 c63) y61.More, slC rDValue (.slice none 0 0) ([] : List DValue), slC rDValue (.slice A60 n60 c60) ([y57, y58, y59, (⟨0, 0, ⟨#[]⟩⟩ : DValue), (⟨3, 7, ⟨#[]⟩⟩ : DValue)] : List DValue), slC rDValue (.slice A56 n56 c56) ([(⟨1, 0, ⟨#[]⟩⟩ : DValue)] : List DValue), slC rDCell (.slice A46 n46 c46) y29.1.Young, slC rDCell (.slice A47 n47 c47) y29.1.Old, slC rDValue (.slice A50 n50 c50) y29.2.1, slC rDValue (.slice A52 n52 c52) y29.2.2.1, boxC B55 24 [.slice A46 n46 c46, .slice A47 n47 c47], ownC (rInt .i64) 3 (.slice A24 n24 c24) y23.1, ownC (rInt .i64) 3 (.slice A25 n25 c25) y23.2, ownC rDValue 38 (.slice A22 n22 c22) ([y21] : List DValue), boxC B20 24 [.slice A10 n10 c10, .slice A19 n19 c19], slC rDCell (.slice A19 n19 c19) ([y11, y15] : List DCell), slC rDValue (.slice A16 n16 c16) y15.Slots, slC rDValue (.slice A17 n17 c17) y15.More, slC rDValue (.slice none 0 0) ([] : List DValue), slC rDValue (.slice A12 n12 c12) y11.Slots, slC rDValue (.slice A13 n13 c13) y11.More, slC rDValue (.slice none 0 0) ([] : List DValue), slC rDCell (.slice A10 n10 c10) ([y3, y6] : List DCell), slC rDValue (.slice A7 n7 c7) y6.Slots, slC rDValue (.slice A8 n8 c8) y6.More, slC rDValue (.slice none 0 0) ([] : List DValue), slC rDValue (.slice A4 n4 c4) y3.Slots, slC rDValue (.slice A5 n5 c5) y3.More, slC rDValue (.slice A2 n2 c2) ([y1] : List DValue)]) rfl ?_
    refine run ?_
    refine G_seq ?_
    refine G_sub ?_ sub_refl (cv_frz 1 rfl)
    refine Wq_norm ([boxC B74 24 [.slice none 0 0, .slice A73 n73 c73], slC rDCell (.slice A73 n73 c73) ([(⟨10, 0, 0, 0, ([(⟨1, 0, ⟨#[]⟩⟩ : DValue)] : List DValue), ([y57, y58, y59, (⟨0, 0, ⟨#[]⟩⟩ : DValue), (⟨3, 7, ⟨#[]⟩⟩ : DValue)] : List DValue)⟩ : DCell), y61, y65, y69] : List DCell), slC rDValue (.slice A70 n70 c70) y69.Slots, slC rDValue (.slice A71 n71 c71) y69.More, slC rDValue (.slice none 0 0) ([] : List DValue), slC rDValue (.slice A66 n66 c66) y65.Slots, slC rDValue (.slice A67 n67 c67) y65.More, slC rDValue (.slice none 0 0) ([] : List DValue), slC rDValue (.slice A62 n62 c62) y61.Slots, slC rDValue (.slice A63 n63 c63) y61.More, slC rDValue (.slice none 0 0) ([] : List DValue), slC rDValue (.slice A60 n60 c60) ([y57, y58, y59, (⟨0, 0, ⟨#[]⟩⟩ : DValue), (⟨3, 7, ⟨#[]⟩⟩ : DValue)] : List DValue), slC rDValue (.slice A56 n56 c56) ([(⟨1, 0, ⟨#[]⟩⟩ : DValue)] : List DValue), slC rDCell (.slice A46 n46 c46) y29.1.Young, slC rDCell (.slice A47 n47 c47) y29.1.Old, slC rDValue (.slice A50 n50 c50) y29.2.1, slC rDValue (.slice A52 n52 c52) y29.2.2.1, boxC B55 24 [.slice A46 n46 c46, .slice A47 n47 c47], ownC (rInt .i64) 3 (.slice A24 n24 c24) y23.1, ownC (rInt .i64) 3 (.slice A25 n25 c25) y23.2, ownC rDValue 38 (.slice A22 n22 c22) ([y21] : List DValue), boxC B20 24 [.slice A10 n10 c10, .slice A19 n19 c19], slC rDCell (.slice A19 n19 c19) ([y11, y15] : List DCell), slC rDValue (.slice A16 n16 c16) y15.Slots, slC rDValue (.slice A17 n17 c17) y15.More, slC rDValue (.slice none 0 0) ([] : List DValue), slC rDValue (.slice A12 n12 c12) y11.Slots, slC rDValue (.slice A13 n13 c13) y11.More, slC rDValue (.slice none 0 0) ([] : List DValue), slC rDCell (.slice A10 n10 c10) ([y3, y6] : List DCell), slC rDValue (.slice A7 n7 c7) y6.Slots, slC rDValue (.slice A8 n8 c8) y6.More, slC rDValue (.slice none 0 0) ([] : List DValue), slC rDValue (.slice A4 n4 c4) y3.Slots, slC rDValue (.slice A5 n5 c5) y3.More, slC rDValue (.slice A2 n2 c2) ([y1] : List DValue)]) rfl ?_
    obtain ⟨y75, hy75, h⟩ := bind_elim h
    obtain ⟨y78, hy78, h⟩ := bind_elim h
    refine G_sub (t := [(0, .bool false), (3, .slice A24 n24 c24), (4, .slice A25 n25 c25), (5, .pointer (some ⟨B55, 0, none⟩)), (6, .slice A50 n50 c50), (7, .slice A52 n52 c52), (8, .int .i64 y29.2.2.2), (9, .pointer (some ⟨B74, 0, none⟩))]) ?_ subT (cv_refl _)
    refine G_monoX (by kernel_rfl) 10 [6, 7, 8] [5, 6, 7, 8, 9] [61, 62, 63, 64, 60, 65, 66, 67, 68, 10] [[], [], [1], [0, 2], [3], [4], [4], [4], [4], []] [aV (.agg #[.slice none 0 0, .slice A73 n73 c73]),
 aV (.agg #[.int .i64 y75.Kind, .int .i64 y75.N, .string y75.S]),
 aX3 (fun (A77 : Option Addr) (n77 c77 : Nat) => .slice A77 n77 c77) (fun A77 n77 c77 => [slC rDValue (.slice A77 n77 c77) ([y75] : List DValue)]),
 aX12 (fun (A84 : Option Addr) (n84 c84 : Nat) (A85 : Option Addr) (n85 c85 : Nat) (A86 : Option Addr) (n86 c86 : Nat) (A87 : Option Addr) (n87 c87 : Nat) => .tuple #[.agg #[.slice A84 n84 c84, .slice A85 n85 c85], .slice A86 n86 c86, .slice A87 n87 c87, .int .i64 y78.2.2.2]) (fun A84 n84 c84 A85 n85 c85 A86 n86 c86 A87 n87 c87 => [slC rDCell (.slice A84 n84 c84) y78.1.Young, slC rDCell (.slice A85 n85 c85) y78.1.Old, slC rDValue (.slice A86 n86 c86) y78.2.1, slC rDValue (.slice A87 n87 c87) y78.2.2.1]),
 aX12 (fun (A88 : Option Addr) (n88 c88 : Nat) (A89 : Option Addr) (n89 c89 : Nat) (A90 : Option Addr) (n90 c90 : Nat) (A91 : Option Addr) (n91 c91 : Nat) => .tuple #[.agg #[.slice A88 n88 c88, .slice A89 n89 c89], .slice A90 n90 c90, .slice A91 n91 c91, .int .i64 y78.2.2.2]) (fun A88 n88 c88 A89 n89 c89 A90 n90 c90 A91 n91 c91 => [slC rDCell (.slice A88 n88 c88) y78.1.Young, slC rDCell (.slice A89 n89 c89) y78.1.Old, slC rDValue (.slice A90 n90 c90) y78.2.1, slC rDValue (.slice A91 n91 c91) y78.2.2.1]),
 aX6 (fun (A96 : Option Addr) (n96 c96 : Nat) (A97 : Option Addr) (n97 c97 : Nat) => .agg #[.slice A96 n96 c96, .slice A97 n97 c97]) (fun A96 n96 c96 A97 n97 c97 => [slC rDCell (.slice A96 n96 c96) y78.1.Young, slC rDCell (.slice A97 n97 c97) y78.1.Old]),
 aX3 (fun (A100 : Option Addr) (n100 c100 : Nat) => .slice A100 n100 c100) (fun A100 n100 c100 => [slC rDValue (.slice A100 n100 c100) y78.2.1]),
 aX3 (fun (A102 : Option Addr) (n102 c102 : Nat) => .slice A102 n102 c102) (fun A102 n102 c102 => [slC rDValue (.slice A102 n102 c102) y78.2.2.1]),
 aV (.int .i64 y78.2.2.2),
 aX1 (fun (B105 : Nat) => .pointer (some ⟨B105, 0, none⟩)) (fun B105 => [boxC B105 24 [.slice none 0 0, .slice none 0 0]])] [] (cv_refl _) (qB_cons rfl (qB_cons rfl (qB_cons rfl qB_nil))) (by kernel_rfl) rfl rfl ?_ ?_ ?_
    · refine qs_cons rfl ?_ ?_
      · intro A88 n88 c88 A89 n89 c89 A90 n90 c90 A91 n91 c91
        exact QS_ev (ev_extract rfl rfl) rfl (cvp3 A90 n90 c90 ((cv_dup 2 rfl rfl).trans (cv_refl _)))
      refine qs_cons rfl ?_ ?_
      · intro A88 n88 c88 A89 n89 c89 A90 n90 c90 A91 n91 c91
        exact QS_ev (ev_extract rfl rfl) rfl (cvp3 A91 n91 c91 ((cv_dup 3 rfl rfl).trans (cv_refl _)))
      refine qs_cons rfl ?_ ?_
      · intro A88 n88 c88 A89 n89 c89 A90 n90 c90 A91 n91 c91
        exact QS_ev (ev_extract rfl rfl) rfl (cvpV rfl (cv_refl _))
      exact qs_nil
    · refine steps_cons rfl ?_ ?_
      · refine X_op (op_alloc zero24 rfl) rfl ?_
        rintro _ _ ⟨B104, rfl, rfl⟩
        exact cvp1 B104 (cv_refl _)
      refine steps_cons rfl ?_ ?_
      · intro A88 n88 c88 A89 n89 c89 A90 n90 c90 A91 n91 c91
        exact X_ev (ev_extract rfl rfl) rfl (cvpV rfl (cv_refl _))
      refine steps_cons rfl ?_ ?_
      · intro A88 n88 c88 A89 n89 c89 A90 n90 c90 A91 n91 c91
        exact X_ev (ev_extract rfl rfl) rfl (cvp3 A91 n91 c91 ((cv_dup 3 rfl rfl).trans (cv_refl _)))
      refine steps_cons rfl ?_ ?_
      · intro A88 n88 c88 A89 n89 c89 A90 n90 c90 A91 n91 c91
        exact X_ev (ev_extract rfl rfl) rfl (cvp3 A90 n90 c90 ((cv_dup 2 rfl rfl).trans (cv_refl _)))
      refine steps_cons rfl ?_ ?_
      · intro A88 n88 c88 A89 n89 c89 A90 n90 c90 A91 n91 c91
        exact X_ev (ev_extract rfl rfl) rfl (cvp6 A88 n88 c88 A89 n89 c89 ((cv_dup 0 rfl rfl).trans ((cv_dup 2 rfl rfl).trans (cv_sel [1, 0, 2, 3, 4, 5, 6, 7, 8, 9, 10, 11, 12, 13, 14, 15, 16, 17, 18, 19, 20, 21, 22, 23, 24, 25, 26, 27, 28, 29, 30, 31, 32, 33, 34, 35, 36, 37, 38, 39, 40, 41] 42 rfl rfl))))
      refine steps_cons rfl ?_ ?_
      · intro A84 n84 c84 A85 n85 c85 A86 n86 c86 A87 n87 c87
        exact X_ev (ev_move rfl) rfl (cvp12 A84 n84 c84 A85 n85 c85 A86 n86 c86 A87 n87 c87 ((cv_dup 0 rfl rfl).trans ((cv_dup 2 rfl rfl).trans ((cv_dup 4 rfl rfl).trans ((cv_dup 6 rfl rfl).trans (cv_sel [3, 2, 1, 0, 4, 5, 6, 7, 8, 9, 10, 11, 12, 13, 14, 15, 16, 17, 18, 19, 20, 21, 22, 23, 24, 25, 26, 27, 28, 29, 30, 31, 32, 33, 34, 35, 36, 37, 38, 39, 40, 41, 42, 43] 44 rfl rfl))))))
      refine steps_cons rfl ?_ ?_
      · intro A77 n77 c77
        refine X_cv (cv_nilS rDCell _) ?_
        refine X_op (op_call (major_Collect_ok hy78) call65 rfl (cv_take [0, 3, 1] [] [0, 1, 2, 3, 4, 5, 6, 7, 8, 9, 10, 11, 12, 13, 14, 15, 16, 17, 18, 19, 20, 21, 22, 23, 24, 25, 26, 27, 28, 29, 30, 31, 32, 33, 34, 35, 36, 37] 38 rfl)) rfl ?_
        rintro _ _ ⟨_, ⟨A79, n79, c79, A80, n80, c80, A81, n81, c81, A82, n82, c82, rfl, rfl⟩, rfl⟩
        exact cvp12 A79 n79 c79 A80 n80 c80 A81 n81 c81 A82 n82 c82 ((cv_frz 0 rfl).trans ((cv_frz 1 rfl).trans ((cv_frz 2 rfl).trans ((cv_frz 3 rfl).trans (cv_sel [0, 1, 2, 3, 5, 6, 7, 8, 9, 10, 11, 12, 13, 14, 15, 16, 17, 18, 19, 20, 21, 22, 23, 24, 25, 26, 27, 28, 29, 30, 31, 32, 33, 34, 35, 36, 37, 38, 39, 40, 41] 42 rfl rfl)))))
      refine steps_cons rfl ?_ ?_
      · refine X_op (op_bslice (R := rDValue) (vss := [[.int .i64 y75.Kind, .int .i64 y75.N, .string y75.S]]) (xs := [y75]) rfl (bsl_25_1 _ _ _) rfl rfl (fun _ _ hr => .cons rfl All2.nil)) rfl ?_
        rintro _ _ ⟨A76, n76, c76, rfl, rfl⟩
        exact cvp3 A76 n76 c76 ((cv_frz 0 rfl).trans (cv_refl _))
      refine steps_cons rfl ?_ ?_
      · refine X_op (op_callR (pantomimelaw22_object_ok hy75) call64 rfl (mem_nil) pantomimelaw22_object_free) rfl ?_
        rintro _ _ ⟨_, ⟨rfl, rfl⟩, rfl⟩
        exact cvpV rfl (cv_refl _)
      refine steps_cons rfl ?_ ?_
      · exact X_rd (rd_boxS (us := [.slice none 0 0, .slice A73 n73 c73]) 0 rfl rfl agg24 rfl) rfl (cvpV rfl (cv_refl _))
      exact steps_nil
    · intro A96 n96 c96 A97 n97 c97 A100 n100 c100 A102 n102 c102 B105
      refine N_sub (t := [(65, .agg #[.slice A96 n96 c96, .slice A97 n97 c97]), (66, .slice A100 n100 c100), (67, .slice A102 n102 c102), (68, .int .i64 y78.2.2.2), (10, .pointer (some ⟨B105, 0, none⟩)), (0, .bool false), (3, .slice A24 n24 c24), (4, .slice A25 n25 c25), (5, .pointer (some ⟨B55, 0, none⟩)), (6, .slice A50 n50 c50), (7, .slice A52 n52 c52), (8, .int .i64 y29.2.2.2), (9, .pointer (some ⟨B74, 0, none⟩))]) (L' := [slC rDCell (.slice A96 n96 c96) y78.1.Young, slC rDCell (.slice A97 n97 c97) y78.1.Old, slC rDValue (.slice A100 n100 c100) y78.2.1, slC rDValue (.slice A102 n102 c102) y78.2.2.1, boxC B105 24 [.slice none 0 0, .slice none 0 0], boxC B74 24 [.slice none 0 0, .slice A73 n73 c73], slC rDCell (.slice A73 n73 c73) ([(⟨10, 0, 0, 0, ([(⟨1, 0, ⟨#[]⟩⟩ : DValue)] : List DValue), ([y57, y58, y59, (⟨0, 0, ⟨#[]⟩⟩ : DValue), (⟨3, 7, ⟨#[]⟩⟩ : DValue)] : List DValue)⟩ : DCell), y61, y65, y69] : List DCell), slC rDValue (.slice A70 n70 c70) y69.Slots, slC rDValue (.slice A71 n71 c71) y69.More, slC rDValue (.slice none 0 0) ([] : List DValue), slC rDValue (.slice A66 n66 c66) y65.Slots, slC rDValue (.slice A67 n67 c67) y65.More, slC rDValue (.slice none 0 0) ([] : List DValue), slC rDValue (.slice A62 n62 c62) y61.Slots, slC rDValue (.slice A63 n63 c63) y61.More, slC rDValue (.slice none 0 0) ([] : List DValue), slC rDValue (.slice A60 n60 c60) ([y57, y58, y59, (⟨0, 0, ⟨#[]⟩⟩ : DValue), (⟨3, 7, ⟨#[]⟩⟩ : DValue)] : List DValue), slC rDValue (.slice A56 n56 c56) ([(⟨1, 0, ⟨#[]⟩⟩ : DValue)] : List DValue), slC rDCell (.slice A46 n46 c46) y29.1.Young, slC rDCell (.slice A47 n47 c47) y29.1.Old, slC rDValue (.slice A50 n50 c50) y29.2.1, slC rDValue (.slice A52 n52 c52) y29.2.2.1, boxC B55 24 [.slice A46 n46 c46, .slice A47 n47 c47], ownC (rInt .i64) 3 (.slice A24 n24 c24) y23.1, ownC (rInt .i64) 3 (.slice A25 n25 c25) y23.2, ownC rDValue 38 (.slice A22 n22 c22) ([y21] : List DValue), boxC B20 24 [.slice A10 n10 c10, .slice A19 n19 c19], slC rDCell (.slice A19 n19 c19) ([y11, y15] : List DCell), slC rDValue (.slice A16 n16 c16) y15.Slots, slC rDValue (.slice A17 n17 c17) y15.More, slC rDValue (.slice none 0 0) ([] : List DValue), slC rDValue (.slice A12 n12 c12) y11.Slots, slC rDValue (.slice A13 n13 c13) y11.More, slC rDValue (.slice none 0 0) ([] : List DValue), slC rDCell (.slice A10 n10 c10) ([y3, y6] : List DCell), slC rDValue (.slice A7 n7 c7) y6.Slots, slC rDValue (.slice A8 n8 c8) y6.More, slC rDValue (.slice none 0 0) ([] : List DValue), slC rDValue (.slice A4 n4 c4) y3.Slots, slC rDValue (.slice A5 n5 c5) y3.More, slC rDValue (.slice A2 n2 c2) ([y1] : List DValue)]) ?_ subT (cv_refl _)
      refine N_opn 10 rfl (by kernel_rfl) (op_store (us := [.slice A96 n96 c96, .slice A97 n97 c97]) (cs' := [.slice A96 n96 c96, .slice A97 n97 c97]) 4 rfl rfl rfl rfl size24 rfl rfl rfl) rfl rfl ?_
      rintro _ _ rfl
      refine N_norm ([slC rDCell (.slice A96 n96 c96) y78.1.Young, slC rDCell (.slice A97 n97 c97) y78.1.Old, slC rDValue (.slice A100 n100 c100) y78.2.1, slC rDValue (.slice A102 n102 c102) y78.2.2.1, boxC B105 24 [.slice A96 n96 c96, .slice A97 n97 c97], boxC B74 24 [.slice none 0 0, .slice A73 n73 c73], slC rDCell (.slice A73 n73 c73) ([(⟨10, 0, 0, 0, ([(⟨1, 0, ⟨#[]⟩⟩ : DValue)] : List DValue), ([y57, y58, y59, (⟨0, 0, ⟨#[]⟩⟩ : DValue), (⟨3, 7, ⟨#[]⟩⟩ : DValue)] : List DValue)⟩ : DCell), y61, y65, y69] : List DCell), slC rDValue (.slice A70 n70 c70) y69.Slots, slC rDValue (.slice A71 n71 c71) y69.More, slC rDValue (.slice none 0 0) ([] : List DValue), slC rDValue (.slice A66 n66 c66) y65.Slots, slC rDValue (.slice A67 n67 c67) y65.More, slC rDValue (.slice none 0 0) ([] : List DValue), slC rDValue (.slice A62 n62 c62) y61.Slots, slC rDValue (.slice A63 n63 c63) y61.More, slC rDValue (.slice none 0 0) ([] : List DValue), slC rDValue (.slice A60 n60 c60) ([y57, y58, y59, (⟨0, 0, ⟨#[]⟩⟩ : DValue), (⟨3, 7, ⟨#[]⟩⟩ : DValue)] : List DValue), slC rDValue (.slice A56 n56 c56) ([(⟨1, 0, ⟨#[]⟩⟩ : DValue)] : List DValue), slC rDCell (.slice A46 n46 c46) y29.1.Young, slC rDCell (.slice A47 n47 c47) y29.1.Old, slC rDValue (.slice A50 n50 c50) y29.2.1, slC rDValue (.slice A52 n52 c52) y29.2.2.1, boxC B55 24 [.slice A46 n46 c46, .slice A47 n47 c47], ownC (rInt .i64) 3 (.slice A24 n24 c24) y23.1, ownC (rInt .i64) 3 (.slice A25 n25 c25) y23.2, ownC rDValue 38 (.slice A22 n22 c22) ([y21] : List DValue), boxC B20 24 [.slice A10 n10 c10, .slice A19 n19 c19], slC rDCell (.slice A19 n19 c19) ([y11, y15] : List DCell), slC rDValue (.slice A16 n16 c16) y15.Slots, slC rDValue (.slice A17 n17 c17) y15.More, slC rDValue (.slice none 0 0) ([] : List DValue), slC rDValue (.slice A12 n12 c12) y11.Slots, slC rDValue (.slice A13 n13 c13) y11.More, slC rDValue (.slice none 0 0) ([] : List DValue), slC rDCell (.slice A10 n10 c10) ([y3, y6] : List DCell), slC rDValue (.slice A7 n7 c7) y6.Slots, slC rDValue (.slice A8 n8 c8) y6.More, slC rDValue (.slice none 0 0) ([] : List DValue), slC rDValue (.slice A4 n4 c4) y3.Slots, slC rDValue (.slice A5 n5 c5) y3.More, slC rDValue (.slice A2 n2 c2) ([y1] : List DValue)]) rfl ?_
      refine N_ev 11 rfl (by kernel_rfl) (ev_assign rfl) rfl rfl rfl ?_
      refine N_ev 12 rfl (by kernel_rfl) (ev_assign rfl) rfl rfl rfl ?_
      refine N_ev 13 rfl (by kernel_rfl) (ev_assign rfl) rfl rfl rfl ?_
      refine N_done (by kernel_rfl) ?_
      refine nx_n ?_
      refine G_seq ?_
      obtain ⟨y108, hy108, h⟩ := bind_elim h
      obtain ⟨b109, hb109, h⟩ := bind_elim h
      obtain ⟨c109, hc109⟩ : ∃ c, y108 = c := ⟨_, rfl⟩
      obtain ⟨y112, hs109⟩ : ∃ (y112 : (Bool)), c109 = true → ((pantomimeref19_Same_O N y23.2 ([2, 4] : List Int)) = some y112 ∧ y112 = b109) := by
        cases c109
        · exact ⟨default, fun e => by cases e⟩
        · replace hb109 := cond_t hc109 hb109
          obtain ⟨y112, hy112, hb109⟩ := bind_elim hb109
          exact ⟨y112, fun _ => ⟨hy112, Option.some.inj hb109⟩⟩
      have ho109 : c109 = false → b109 = false := fun e => (Option.some.inj (cond_f (hc109.trans e) hb109)).symm
      obtain ⟨b113, hb113, h⟩ := bind_elim h
      obtain ⟨c113, hc113⟩ : ∃ c, b109 = c := ⟨_, rfl⟩
      obtain hs113 : c113 = true → ((decide (y29.2.2.2 = 0)) = b113) := by
        cases c113
        · exact fun e => by cases e
        · replace hb113 := cond_t hc113 hb113
          exact fun _ => Option.some.inj hb113
      have ho113 : c113 = false → b113 = false := fun e => (Option.some.inj (cond_f (hc113.trans e) hb113)).symm
      obtain ⟨b114, hb114, h⟩ := bind_elim h
      obtain ⟨c114, hc114⟩ : ∃ c, b113 = c := ⟨_, rfl⟩
      obtain hs114 : c114 = true → ((decide ((y29.1.Old.length : Int) = 2)) = b114) := by
        cases c114
        · exact fun e => by cases e
        · replace hb114 := cond_t hc114 hb114
          exact fun _ => Option.some.inj hb114
      have ho114 : c114 = false → b114 = false := fun e => (Option.some.inj (cond_f (hc114.trans e) hb114)).symm
      obtain ⟨b115, hb115, h⟩ := bind_elim h
      obtain ⟨c115, hc115⟩ : ∃ c, b114 = c := ⟨_, rfl⟩
      obtain hs115 : c115 = true → ((decide ((y29.1.Young.length : Int) = 0)) = b115) := by
        cases c115
        · exact fun e => by cases e
        · replace hb115 := cond_t hc115 hb115
          exact fun _ => Option.some.inj hb115
      have ho115 : c115 = false → b115 = false := fun e => (Option.some.inj (cond_f (hc115.trans e) hb115)).symm
      obtain ⟨b116, hb116, h⟩ := bind_elim h
      obtain ⟨c116, hc116⟩ : ∃ c, b115 = c := ⟨_, rfl⟩
      obtain ⟨x117, hs116⟩ : ∃ (x117 : DCell), c116 = true → ((getE y29.1.Old 1) = some x117 ∧ (decide ((x117.More.length : Int) = 1)) = b116) := by
        cases c116
        · exact ⟨default, fun e => by cases e⟩
        · replace hb116 := cond_t hc116 hb116
          obtain ⟨x117, hx117, hb116⟩ := bind_elim hb116
          exact ⟨x117, fun _ => ⟨hx117, Option.some.inj hb116⟩⟩
      have ho116 : c116 = false → b116 = false := fun e => (Option.some.inj (cond_f (hc116.trans e) hb116)).symm
      obtain ⟨b122, hb122, h⟩ := bind_elim h
      obtain ⟨c122, hc122⟩ : ∃ c, b116 = c := ⟨_, rfl⟩
      obtain ⟨x123, x128, y131, hs122⟩ : ∃ (x123 : DCell) (x128 : DValue) (y131 : (DValue)), c122 = true → ((getE y29.1.Old 1) = some x123 ∧ (getE x123.More 0) = some x128 ∧ (pantomimelaw22_object_O N 2) = some y131 ∧ (decide (x128 = y131)) = b122) := by
        cases c122
        · exact ⟨default, default, default, fun e => by cases e⟩
        · replace hb122 := cond_t hc122 hb122
          obtain ⟨x123, hx123, hb122⟩ := bind_elim hb122
          obtain ⟨x128, hx128, hb122⟩ := bind_elim hb122
          obtain ⟨y131, hy131, hb122⟩ := bind_elim hb122
          exact ⟨x123, x128, y131, fun _ => ⟨hx123, hx128, hy131, Option.some.inj hb122⟩⟩
      have ho122 : c122 = false → b122 = false := fun e => (Option.some.inj (cond_f (hc122.trans e) hb122)).symm
      obtain ⟨b132, hb132, h⟩ := bind_elim h
      obtain ⟨c132, hc132⟩ : ∃ c, b122 = c := ⟨_, rfl⟩
      obtain hs132 : c132 = true → ((decide ((y29.2.1.length : Int) = 1)) = b132) := by
        cases c132
        · exact fun e => by cases e
        · replace hb132 := cond_t hc132 hb132
          exact fun _ => Option.some.inj hb132
      have ho132 : c132 = false → b132 = false := fun e => (Option.some.inj (cond_f (hc132.trans e) hb132)).symm
      obtain ⟨b133, hb133, h⟩ := bind_elim h
      obtain ⟨c133, hc133⟩ : ∃ c, b132 = c := ⟨_, rfl⟩
      obtain ⟨x134, y135, hs133⟩ : ∃ (x134 : DValue) (y135 : (DValue)), c133 = true → ((getE y29.2.1 0) = some x134 ∧ (pantomimelaw22_object_O N 4) = some y135 ∧ (decide (x134 = y135)) = b133) := by
        cases c133
        · exact ⟨default, default, fun e => by cases e⟩
        · replace hb133 := cond_t hc133 hb133
          obtain ⟨x134, hx134, hb133⟩ := bind_elim hb133
          obtain ⟨y135, hy135, hb133⟩ := bind_elim hb133
          exact ⟨x134, y135, fun _ => ⟨hx134, hy135, Option.some.inj hb133⟩⟩
      have ho133 : c133 = false → b133 = false := fun e => (Option.some.inj (cond_f (hc133.trans e) hb133)).symm
      obtain ⟨b136, hb136, h⟩ := bind_elim h
      obtain ⟨c136, hc136⟩ : ∃ c, b133 = c := ⟨_, rfl⟩
      obtain hs136 : c136 = true → ((decide ((y29.2.2.1.length : Int) = 0)) = b136) := by
        cases c136
        · exact fun e => by cases e
        · replace hb136 := cond_t hc136 hb136
          exact fun _ => Option.some.inj hb136
      have ho136 : c136 = false → b136 = false := fun e => (Option.some.inj (cond_f (hc136.trans e) hb136)).symm
      obtain ⟨b137, hb137, h⟩ := bind_elim h
      obtain ⟨c137, hc137⟩ : ∃ c, b136 = c := ⟨_, rfl⟩
      obtain hs137 : c137 = true → ((decide (y78.2.2.2 = 0)) = b137) := by
        cases c137
        · exact fun e => by cases e
        · replace hb137 := cond_t hc137 hb137
          exact fun _ => Option.some.inj hb137
      have ho137 : c137 = false → b137 = false := fun e => (Option.some.inj (cond_f (hc137.trans e) hb137)).symm
      obtain ⟨b138, hb138, h⟩ := bind_elim h
      obtain ⟨c138, hc138⟩ : ∃ c, b137 = c := ⟨_, rfl⟩
      obtain hs138 : c138 = true → ((decide ((y78.1.Old.length : Int) = 3)) = b138) := by
        cases c138
        · exact fun e => by cases e
        · replace hb138 := cond_t hc138 hb138
          exact fun _ => Option.some.inj hb138
      have ho138 : c138 = false → b138 = false := fun e => (Option.some.inj (cond_f (hc138.trans e) hb138)).symm
      obtain ⟨b139, hb139, h⟩ := bind_elim h
      obtain ⟨c139, hc139⟩ : ∃ c, b138 = c := ⟨_, rfl⟩
      obtain ⟨y140, y141, y144, hs139⟩ : ∃ (y140 : (DValue)) (y141 : (DValue)) (y144 : (Bool)), c139 = true → ((pantomimelaw22_object_O N 4) = some y140 ∧ (pantomimelaw22_object_O N 6) = some y141 ∧ (pantomimeref15_SameValues_O N y78.2.2.1 ([y140, y141, (⟨3, 7, ⟨#[]⟩⟩ : DValue)] : List DValue)) = some y144 ∧ y144 = b139) := by
        cases c139
        · exact ⟨default, default, default, fun e => by cases e⟩
        · replace hb139 := cond_t hc139 hb139
          obtain ⟨y140, hy140, hb139⟩ := bind_elim hb139
          obtain ⟨y141, hy141, hb139⟩ := bind_elim hb139
          obtain ⟨y144, hy144, hb139⟩ := bind_elim hb139
          exact ⟨y140, y141, y144, fun _ => ⟨hy140, hy141, hy144, Option.some.inj hb139⟩⟩
      have ho139 : c139 = false → b139 = false := fun e => (Option.some.inj (cond_f (hc139.trans e) hb139)).symm
      refine G_sub (t := [(0, .bool false), (3, .slice A24 n24 c24), (4, .slice A25 n25 c25), (5, .pointer (some ⟨B55, 0, none⟩)), (6, .slice A50 n50 c50), (7, .slice A52 n52 c52), (8, .int .i64 y29.2.2.2), (10, .pointer (some ⟨B105, 0, none⟩)), (12, .slice A102 n102 c102), (13, .int .i64 y78.2.2.2)]) ?_ subT (cv_refl _)
      refine G_monoX (by kernel_rfl) 79 [] [78] (69 :: 70 :: 71 :: 72 :: 73 :: 74 :: 75 :: 76 :: 77 :: 78 :: 79 :: 80 :: 81 :: 82 :: 83 :: 84 :: 85 :: 86 :: 87 :: 88 :: 89 :: 90 :: 91 :: 92 :: 93 :: 94 :: 95 :: 96 :: 97 :: 98 :: 99 :: 100 :: 101 :: 102 :: 103 :: 104 :: 105 :: 106 :: 107 :: 108 :: 109 :: 110 :: 111 :: 112 :: 113 :: 114 :: 115 :: 116 :: 117 :: 118 :: 119 :: 120 :: 121 :: 122 :: 123 :: 124 :: 125 :: 126 :: 127 :: 128 :: 129 :: 130 :: 131 :: 132 :: 133 :: 134 :: 135 :: 136 :: 137 :: 138 :: 139 :: 140 :: 141 :: 142 :: 143 :: 144 :: 145 :: 146 :: 147 :: ([] : List Nat)) ([] :: [] :: [0, 1] :: [2] :: [3] :: [3] :: [3, 4, 5] :: [3, 6] :: [7] :: [8] :: [8, 9] :: [8, 10] :: [11] :: [12] :: [12, 13] :: [12, 14] :: [12, 15] :: [12, 16] :: [17] :: [18] :: [18, 19] :: [18, 20] :: [18, 21] :: [18, 22] :: [23] :: [24] :: [24, 25] :: [24, 26] :: [24, 27] :: [24, 28] :: [24, 29] :: [24, 30] :: [24, 31] :: [32] :: [33] :: [33, 34] :: [33, 35] :: [33, 36] :: [33, 37] :: [33, 38] :: [33, 39] :: [33] :: [33, 40, 41] :: [33, 42] :: [43] :: [44] :: [44, 45] :: [44, 46] :: [44, 47] :: [48] :: [49] :: [49, 50] :: [49, 51] :: [49] :: [49, 52, 53] :: [49, 54] :: [55] :: [56] :: [56, 57] :: [56, 58] :: [56, 59] :: [60] :: [61] :: [61, 62] :: [61, 63] :: [64] :: [65] :: [65, 66] :: [65, 67] :: [65, 68] :: [65, 69] :: [70] :: [71] :: [71] :: [71] :: [71] :: [71, 73, 74, 75] :: [71, 72, 76] :: [71, 77] :: ([] : List (List Nat))) ((aV (.slice A24 n24 c24)) :: (aX3 (fun (A107 : Option Addr) (n107 c107 : Nat) => .slice A107 n107 c107) (fun A107 n107 c107 => [ownC (rInt .i64) 3 (.slice A107 n107 c107) ([2, 1] : List Int)])) :: (aV (.bool y108)) :: (aV (.bool y108)) :: (bif c109 then aV (.slice A25 n25 c25) else aV undef) :: (bif c109 then aX3 (fun (A111 : Option Addr) (n111 c111 : Nat) => .slice A111 n111 c111) (fun A111 n111 c111 => [ownC (rInt .i64) 3 (.slice A111 n111 c111) ([2, 4] : List Int)]) else aV undef) :: (bif c109 then aV (.bool y112) else aV undef) :: (aV (.bool b109)) :: (aV (.bool b109)) :: (bif c113 then aV (.int .i64 y29.2.2.2) else aV undef) :: (bif c113 then aV (.bool (decide (y29.2.2.2 = 0))) else aV undef) :: (aV (.bool b113)) :: (aV (.bool b113)) :: (bif c114 then aV (.pointer (some ⟨B55, 1, none⟩)) else aV undef) :: (bif c114 then aV (.slice A47 n47 c47) else aV undef) :: (bif c114 then aV (.int .i64 (y29.1.Old.length : Int)) else aV undef) :: (bif c114 then aV (.bool (decide ((y29.1.Old.length : Int) = 2))) else aV undef) :: (aV (.bool b114)) :: (aV (.bool b114)) :: (bif c115 then aV (.pointer (some ⟨B55, 0, none⟩)) else aV undef) :: (bif c115 then aV (.slice A46 n46 c46) else aV undef) :: (bif c115 then aV (.int .i64 (y29.1.Young.length : Int)) else aV undef) :: (bif c115 then aV (.bool (decide ((y29.1.Young.length : Int) = 0))) else aV undef) :: (aV (.bool b115)) :: (aV (.bool b115)) :: (bif c116 then aV (.pointer (some ⟨B55, 1, none⟩)) else aV undef) :: (bif c116 then aV (.slice A47 n47 c47) else aV undef) :: (bif c116 then aV (elemQ (.slice A47 n47 c47) ((1 : Int).toNat) 6 0) else aV undef) :: (bif c116 then aV (elemQ (.slice A47 n47 c47) ((1 : Int).toNat) 6 5) else aV undef) :: (bif c116 then aX3 (fun (A121 : Option Addr) (n121 c121 : Nat) => .slice A121 n121 c121) (fun A121 n121 c121 => [slC rDValue (.slice A121 n121 c121) x117.More]) else aV undef) :: (bif c116 then aV (.int .i64 (x117.More.length : Int)) else aV undef) :: (bif c116 then aV (.bool (decide ((x117.More.length : Int) = 1))) else aV undef) :: (aV (.bool b116)) :: (aV (.bool b116)) :: (bif c122 then aV (.pointer (some ⟨B55, 1, none⟩)) else aV undef) :: (bif c122 then aV (.slice A47 n47 c47) else aV undef) :: (bif c122 then aV (elemQ (.slice A47 n47 c47) ((1 : Int).toNat) 6 0) else aV undef) :: (bif c122 then aV (elemQ (.slice A47 n47 c47) ((1 : Int).toNat) 6 5) else aV undef) :: (bif c122 then aX3 (fun (A127 : Option Addr) (n127 c127 : Nat) => .slice A127 n127 c127) (fun A127 n127 c127 => [slC rDValue (.slice A127 n127 c127) x123.More]) else aV undef) :: (bif c122 then aX3 (fun (A129 : Option Addr) (n129 c129 : Nat) => elemQ (.slice A129 n129 c129) ((0 : Int).toNat) 3 0) (fun A129 n129 c129 => [slC rDValue (.slice A129 n129 c129) x123.More]) else aV undef) :: (bif c122 then aV (.agg #[.int .i64 x128.Kind, .int .i64 x128.N, .string x128.S]) else aV undef) :: (bif c122 then aV (.agg #[.int .i64 y131.Kind, .int .i64 y131.N, .string y131.S]) else aV undef) :: (bif c122 then aV (.bool (decide (x128 = y131))) else aV undef) :: (aV (.bool b122)) :: (aV (.bool b122)) :: (bif c132 then aV (.slice A50 n50 c50) else aV undef) :: (bif c132 then aV (.int .i64 (y29.2.1.length : Int)) else aV undef) :: (bif c132 then aV (.bool (decide ((y29.2.1.length : Int) = 1))) else aV undef) :: (aV (.bool b132)) :: (aV (.bool b132)) :: (bif c133 then aV (.slice A50 n50 c50) else aV undef) :: (bif c133 then aV (elemQ (.slice A50 n50 c50) ((0 : Int).toNat) 3 0) else aV undef) :: (bif c133 then aV (.agg #[.int .i64 x134.Kind, .int .i64 x134.N, .string x134.S]) else aV undef) :: (bif c133 then aV (.agg #[.int .i64 y135.Kind, .int .i64 y135.N, .string y135.S]) else aV undef) :: (bif c133 then aV (.bool (decide (x134 = y135))) else aV undef) :: (aV (.bool b133)) :: (aV (.bool b133)) :: (bif c136 then aV (.slice A52 n52 c52) else aV undef) :: (bif c136 then aV (.int .i64 (y29.2.2.1.length : Int)) else aV undef) :: (bif c136 then aV (.bool (decide ((y29.2.2.1.length : Int) = 0))) else aV undef) :: (aV (.bool b136)) :: (aV (.bool b136)) :: (bif c137 then aV (.int .i64 y78.2.2.2) else aV undef) :: (bif c137 then aV (.bool (decide (y78.2.2.2 = 0))) else aV undef) :: (aV (.bool b137)) :: (aV (.bool b137)) :: (bif c138 then aV (.pointer (some ⟨B105, 1, none⟩)) else aV undef) :: (bif c138 then aV (.slice A97 n97 c97) else aV undef) :: (bif c138 then aV (.int .i64 (y78.1.Old.length : Int)) else aV undef) :: (bif c138 then aV (.bool (decide ((y78.1.Old.length : Int) = 3))) else aV undef) :: (aV (.bool b138)) :: (aV (.bool b138)) :: (bif c139 then aV (.slice A102 n102 c102) else aV undef) :: (bif c139 then aV (.agg #[.int .i64 y140.Kind, .int .i64 y140.N, .string y140.S]) else aV undef) :: (bif c139 then aV (.agg #[.int .i64 y141.Kind, .int .i64 y141.N, .string y141.S]) else aV undef) :: (bif c139 then aV (.agg #[.int .i64 3, .int .i64 7, .string (⟨#[]⟩)]) else aV undef) :: (bif c139 then aX3 (fun (A143 : Option Addr) (n143 c143 : Nat) => .slice A143 n143 c143) (fun A143 n143 c143 => [ownC rDValue 38 (.slice A143 n143 c143) ([y140, y141, (⟨3, 7, ⟨#[]⟩⟩ : DValue)] : List DValue)]) else aV undef) :: (bif c139 then aV (.bool y144) else aV undef) :: (aV (.bool b139)) :: ([] : List Asn)) [] (cv_refl _) (qB_nil) (by kernel_rfl) rfl rfl ?_ ?_ ?_
      · exact qs_nil
      · refine steps_cons rfl ?_ ?_
        · cases c139
          · exact X_ev (ev_pick_f' hc139 rfl rfl) rfl (cvpV (by rw [ho139 rfl]) (cv_refl _))
          · obtain ⟨hy140, hy141, hy144, hv139⟩ := hs139 rfl
            exact X_ev (ev_pick_t' hc139 rfl rfl) rfl (cvpV (by rw [hv139]) (cv_refl _))
        refine steps_cons rfl ?_ ?_
        · cases c139
          · exact X_no (g_tf hc139 rfl) (cvpV rfl (cv_refl _))
          · obtain ⟨hy140, hy141, hy144, hv139⟩ := hs139 rfl
            intro A143 n143 c143
            refine X_op (op_callR (pantomimeref15_SameValues_ok hy144) call13 rfl (mem_cons (lent_ro (i := 4) rfl rfl) (mem_cons (lent_own (i := 0) rfl) mem_nil)) pantomimeref15_SameValues_free) (g_tt hc139 rfl) ?_
            rintro _ _ ⟨_, ⟨rfl, rfl⟩, rfl⟩
            exact cvpV rfl (cv_refl _)
        refine steps_cons rfl ?_ ?_
        · cases c139
          · exact X_no (g_tf hc139 rfl) (cvpV rfl (cv_refl _))
          · obtain ⟨hy140, hy141, hy144, hv139⟩ := hs139 rfl
            refine X_op (op_bslice (R := rDValue) (vss := [[.int .i64 y140.Kind, .int .i64 y140.N, .string y140.S], [.int .i64 y141.Kind, .int .i64 y141.N, .string y141.S], [.int .i64 3, .int .i64 7, .string (⟨#[]⟩)]]) (xs := [y140, y141, (⟨3, 7, ⟨#[]⟩⟩ : DValue)]) rfl (bsl_25_3 _ _ _ _ _ _ _ _ _) rfl rfl (fun _ _ hr => .cons rfl (.cons rfl (.cons rfl All2.nil)))) (g_tt hc139 rfl) ?_
            rintro _ _ ⟨A142, n142, c142, rfl, rfl⟩
            exact cvp3 A142 n142 c142 (cv_refl _)
        refine steps_cons rfl ?_ ?_
        · cases c139
          · exact X_no (g_tf hc139 rfl) (cvpV rfl (cv_refl _))
          · obtain ⟨hy140, hy141, hy144, hv139⟩ := hs139 rfl
            exact X_ev (ev_build rfl (bld_38_0_1 _ _)) (g_tt hc139 rfl) (cvpV rfl (cv_refl _))
        refine steps_cons rfl ?_ ?_
        · cases c139
          · exact X_no (g_tf hc139 rfl) (cvpV rfl (cv_refl _))
          · obtain ⟨hy140, hy141, hy144, hv139⟩ := hs139 rfl
            refine X_op (op_callR (pantomimelaw22_object_ok hy141) call64 rfl (mem_nil) pantomimelaw22_object_free) (g_tt hc139 rfl) ?_
            rintro _ _ ⟨_, ⟨rfl, rfl⟩, rfl⟩
            exact cvpV rfl (cv_refl _)
        refine steps_cons rfl ?_ ?_
        · cases c139
          · exact X_no (g_tf hc139 rfl) (cvpV rfl (cv_refl _))
          · obtain ⟨hy140, hy141, hy144, hv139⟩ := hs139 rfl
            refine X_op (op_callR (pantomimelaw22_object_ok hy140) call64 rfl (mem_nil) pantomimelaw22_object_free) (g_tt hc139 rfl) ?_
            rintro _ _ ⟨_, ⟨rfl, rfl⟩, rfl⟩
            exact cvpV rfl (cv_refl _)
        refine steps_cons rfl ?_ ?_
        · cases c139
          · exact X_no (g_tf hc139 rfl) (cvpV rfl (cv_refl _))
          · obtain ⟨hy140, hy141, hy144, hv139⟩ := hs139 rfl
            exact X_ev (ev_move rfl) (g_tt hc139 rfl) (cvpV rfl (cv_refl _))
        refine steps_cons rfl ?_ ?_
        · exact X_ev (ev_move rfl) rfl (cvpV rfl (cv_refl _))
        refine steps_cons rfl ?_ ?_
        · cases c138
          · exact X_ev (ev_pick_f' hc138 rfl rfl) rfl (cvpV (by rw [ho138 rfl]) (cv_refl _))
          · have hv138 := hs138 rfl
            exact X_ev (ev_pick_t' hc138 rfl rfl) rfl (cvpV (by rw [hv138]) (cv_refl _))
        refine steps_cons rfl ?_ ?_
        · cases c138
          · exact X_no (g_tf hc138 rfl) (cvpV rfl (cv_refl _))
          · have hv138 := hs138 rfl
            exact X_ev (ev_eq rfl rfl) (g_tt hc138 rfl) (cvpV rfl (cv_refl _))
        refine steps_cons rfl ?_ ?_
        · cases c138
          · exact X_no (g_tf hc138 rfl) (cvpV rfl (cv_refl _))
          · have hv138 := hs138 rfl
            exact X_rd (rd_len 1 rfl els_sl rfl Try.underlying22) (g_tt hc138 rfl) (cvpV rfl (cv_refl _))
        refine steps_cons rfl ?_ ?_
        · cases c138
          · exact X_no (g_tf hc138 rfl) (cvpV rfl (cv_refl _))
          · have hv138 := hs138 rfl
            exact X_rd (rd_box1 4 rfl rfl one22 rfl) (g_tt hc138 rfl) (cvpV rfl (cv_refl _))
        refine steps_cons rfl ?_ ?_
        · cases c138
          · exact X_no (g_tf hc138 rfl) (cvpV rfl (cv_refl _))
          · have hv138 := hs138 rfl
            exact X_ev (ev_fa rfl fa_24_1) (g_tt hc138 rfl) (cvpV rfl (cv_refl _))
        refine steps_cons rfl ?_ ?_
        · exact X_ev (ev_move rfl) rfl (cvpV rfl (cv_refl _))
        refine steps_cons rfl ?_ ?_
        · cases c137
          · exact X_ev (ev_pick_f' hc137 rfl rfl) rfl (cvpV (by rw [ho137 rfl]) (cv_refl _))
          · have hv137 := hs137 rfl
            exact X_ev (ev_pick_t' hc137 rfl rfl) rfl (cvpV (by rw [hv137]) (cv_refl _))
        refine steps_cons rfl ?_ ?_
        · cases c137
          · exact X_no (g_tf hc137 rfl) (cvpV rfl (cv_refl _))
          · have hv137 := hs137 rfl
            exact X_ev (ev_eq rfl rfl) (g_tt hc137 rfl) (cvpV rfl (cv_refl _))
        refine steps_cons rfl ?_ ?_
        · cases c137
          · exact X_no (g_tf hc137 rfl) (cvpV rfl (cv_refl _))
          · have hv137 := hs137 rfl
            exact X_ev (ev_move rfl) (g_tt hc137 rfl) (cvpV rfl (cv_refl _))
        refine steps_cons rfl ?_ ?_
        · exact X_ev (ev_move rfl) rfl (cvpV rfl (cv_refl _))
        refine steps_cons rfl ?_ ?_
        · cases c136
          · exact X_ev (ev_pick_f' hc136 rfl rfl) rfl (cvpV (by rw [ho136 rfl]) (cv_refl _))
          · have hv136 := hs136 rfl
            exact X_ev (ev_pick_t' hc136 rfl rfl) rfl (cvpV (by rw [hv136]) (cv_refl _))
        refine steps_cons rfl ?_ ?_
        · cases c136
          · exact X_no (g_tf hc136 rfl) (cvpV rfl (cv_refl _))
          · have hv136 := hs136 rfl
            exact X_ev (ev_eq rfl rfl) (g_tt hc136 rfl) (cvpV rfl (cv_refl _))
        refine steps_cons rfl ?_ ?_
        · cases c136
          · exact X_no (g_tf hc136 rfl) (cvpV rfl (cv_refl _))
          · have hv136 := hs136 rfl
            exact X_rd (rd_len 21 rfl els_sl rfl Try.underlying25) (g_tt hc136 rfl) (cvpV rfl (cv_refl _))
        refine steps_cons rfl ?_ ?_
        · cases c136
          · exact X_no (g_tf hc136 rfl) (cvpV rfl (cv_refl _))
          · have hv136 := hs136 rfl
            exact X_ev (ev_move rfl) (g_tt hc136 rfl) (cvpV rfl (cv_refl _))
        refine steps_cons rfl ?_ ?_
        · exact X_ev (ev_move rfl) rfl (cvpV rfl (cv_refl _))
        refine steps_cons rfl ?_ ?_
        · cases c133
          · exact X_ev (ev_pick_f' hc133 rfl rfl) rfl (cvpV (by rw [ho133 rfl]) (cv_refl _))
          · obtain ⟨hx134, hy135, hv133⟩ := hs133 rfl
            exact X_ev (ev_pick_t' hc133 rfl rfl) rfl (cvpV (by rw [hv133]) (cv_refl _))
        refine steps_cons rfl ?_ ?_
        · cases c133
          · exact X_no (g_tf hc133 rfl) (cvpV rfl (cv_refl _))
          · obtain ⟨hx134, hy135, hv133⟩ := hs133 rfl
            exact X_ev (ev_seq38 (x := x134) (y := y135) rfl rfl) (g_tt hc133 rfl) (cvpV rfl (cv_refl _))
        refine steps_cons rfl ?_ ?_
        · cases c133
          · exact X_no (g_tf hc133 rfl) (cvpV rfl (cv_refl _))
          · obtain ⟨hx134, hy135, hv133⟩ := hs133 rfl
            refine X_op (op_callR (pantomimelaw22_object_ok hy135) call64 rfl (mem_nil) pantomimelaw22_object_free) (g_tt hc133 rfl) ?_
            rintro _ _ ⟨_, ⟨rfl, rfl⟩, rfl⟩
            exact cvpV rfl (cv_refl _)
        refine steps_cons rfl ?_ ?_
        · cases c133
          · exact X_no (g_tf hc133 rfl) (cvpV rfl (cv_refl _))
          · obtain ⟨hx134, hy135, hv133⟩ := hs133 rfl
            obtain ⟨lx134, ux134, hx134⟩ := getE_elim hx134
            exact X_rd (rd_elemS (us := [.int .i64 x134.Kind, .int .i64 x134.N, .string x134.S]) 20 rfl els_sl rfl hx134 agg38 (fun _ _ _ h => by rw [show _ = _ from h]; rfl)) (g_tt hc133 rfl) (cvpV rfl (cv_refl _))
        refine steps_cons rfl ?_ ?_
        · cases c133
          · exact X_no (g_tf hc133 rfl) (cvpV rfl (cv_refl _))
          · obtain ⟨hx134, hy135, hv133⟩ := hs133 rfl
            obtain ⟨lx134, ux134, hx134⟩ := getE_elim hx134
            exact X_rd (rd_idx 20 rfl els_sl rfl rfl Try.underlying25 size38 lx134 ux134) (g_tt hc133 rfl) (cvpV rfl (cv_refl _))
        refine steps_cons rfl ?_ ?_
        · cases c133
          · exact X_no (g_tf hc133 rfl) (cvpV rfl (cv_refl _))
          · obtain ⟨hx134, hy135, hv133⟩ := hs133 rfl
            exact X_ev (ev_move rfl) (g_tt hc133 rfl) (cvpV rfl (cv_refl _))
        refine steps_cons rfl ?_ ?_
        · exact X_ev (ev_move rfl) rfl (cvpV rfl (cv_refl _))
        refine steps_cons rfl ?_ ?_
        · cases c132
          · exact X_ev (ev_pick_f' hc132 rfl rfl) rfl (cvpV (by rw [ho132 rfl]) (cv_refl _))
          · have hv132 := hs132 rfl
            exact X_ev (ev_pick_t' hc132 rfl rfl) rfl (cvpV (by rw [hv132]) (cv_refl _))
        refine steps_cons rfl ?_ ?_
        · cases c132
          · exact X_no (g_tf hc132 rfl) (cvpV rfl (cv_refl _))
          · have hv132 := hs132 rfl
            exact X_ev (ev_eq rfl rfl) (g_tt hc132 rfl) (cvpV rfl (cv_refl _))
        refine steps_cons rfl ?_ ?_
        · cases c132
          · exact X_no (g_tf hc132 rfl) (cvpV rfl (cv_refl _))
          · have hv132 := hs132 rfl
            exact X_rd (rd_len 20 rfl els_sl rfl Try.underlying25) (g_tt hc132 rfl) (cvpV rfl (cv_refl _))
        refine steps_cons rfl ?_ ?_
        · cases c132
          · exact X_no (g_tf hc132 rfl) (cvpV rfl (cv_refl _))
          · have hv132 := hs132 rfl
            exact X_ev (ev_move rfl) (g_tt hc132 rfl) (cvpV rfl (cv_refl _))
        refine steps_cons rfl ?_ ?_
        · exact X_ev (ev_move rfl) rfl (cvpV rfl (cv_refl _))
        refine steps_cons rfl ?_ ?_
        · cases c122
          · exact X_ev (ev_pick_f' hc122 rfl rfl) rfl (cvpV (by rw [ho122 rfl]) (cv_refl _))
          · obtain ⟨hx123, hx128, hy131, hv122⟩ := hs122 rfl
            exact X_ev (ev_pick_t' hc122 rfl rfl) rfl (cvpV (by rw [hv122]) (cv_refl _))
        refine steps_cons rfl ?_ ?_
        · cases c122
          · exact X_no (g_tf hc122 rfl) (cvpV rfl (cv_refl _))
          · obtain ⟨hx123, hx128, hy131, hv122⟩ := hs122 rfl
            exact X_ev (ev_seq38 (x := x128) (y := y131) rfl rfl) (g_tt hc122 rfl) (cvpV rfl (cv_refl _))
        refine steps_cons rfl ?_ ?_
        · cases c122
          · exact X_no (g_tf hc122 rfl) (cvpV rfl (cv_refl _))
          · obtain ⟨hx123, hx128, hy131, hv122⟩ := hs122 rfl
            refine X_op (op_callR (pantomimelaw22_object_ok hy131) call64 rfl (mem_nil) pantomimelaw22_object_free) (g_tt hc122 rfl) ?_
            rintro _ _ ⟨_, ⟨rfl, rfl⟩, rfl⟩
            exact cvpV rfl (cv_refl _)
        refine steps_cons rfl ?_ ?_
        · cases c122
          · exact X_no (g_tf hc122 rfl) (cvpV rfl (cv_refl _))
          · obtain ⟨hx123, hx128, hy131, hv122⟩ := hs122 rfl
            obtain ⟨lx128, ux128, hx128⟩ := getE_elim hx128
            intro A129 n129 c129
            exact X_rd (rd_elemS (us := [.int .i64 x128.Kind, .int .i64 x128.N, .string x128.S]) 0 rfl els_sl rfl hx128 agg38 (fun _ _ _ h => by rw [show _ = _ from h]; rfl)) (g_tt hc122 rfl) (cvpV rfl (cv_refl _))
        refine steps_cons rfl ?_ ?_
        · cases c122
          · exact X_no (g_tf hc122 rfl) (cvpV rfl (cv_refl _))
          · obtain ⟨hx123, hx128, hy131, hv122⟩ := hs122 rfl
            obtain ⟨lx128, ux128, hx128⟩ := getE_elim hx128
            intro A127 n127 c127
            exact X_rd (rd_idx 0 rfl els_sl rfl rfl Try.underlying25 size38 lx128 ux128) (g_tt hc122 rfl) (cvp3 A127 n127 c127 ((cv_dup 0 rfl rfl).trans (cv_refl _)))
        refine steps_cons rfl ?_ ?_
        · cases c122
          · exact X_no (g_tf hc122 rfl) (cvpV rfl (cv_refl _))
          · obtain ⟨hx123, hx128, hy131, hv122⟩ := hs122 rfl
            obtain ⟨lx123, ux123, hx123⟩ := getE_elim hx123
            refine X_row 19 rfl hx123 (open_DCell x123) ?_
            rintro _ _ ⟨A124, n124, c124, A125, n125, c125, rfl, rfl⟩
            exact X_rd (rd_row1 0 rfl rfl one25 rfl) (g_tt hc122 rfl) (cvp3 A125 n125 c125 (cv_sel [2, 3, 4, 5, 6, 7, 8, 9, 10, 11, 12, 13, 14, 15, 16, 17, 18, 19, 20, 21, 22, 23, 24, 25, 26, 27, 28, 29, 30, 31, 32, 33, 34, 35, 36, 37, 38, 39, 40, 41, 42, 43] 44 rfl rfl))
        refine steps_cons rfl ?_ ?_
        · cases c122
          · exact X_no (g_tf hc122 rfl) (cvpV rfl (cv_refl _))
          · obtain ⟨hx123, hx128, hy131, hv122⟩ := hs122 rfl
            obtain ⟨lx123, ux123, hx123⟩ := getE_elim hx123
            exact X_rd (rd_fa 19 rfl els_sl rfl (toNat_lt lx123 ux123) fa_42_5) (g_tt hc122 rfl) (cvpV rfl (cv_refl _))
        refine steps_cons rfl ?_ ?_
        · cases c122
          · exact X_no (g_tf hc122 rfl) (cvpV rfl (cv_refl _))
          · obtain ⟨hx123, hx128, hy131, hv122⟩ := hs122 rfl
            obtain ⟨lx123, ux123, hx123⟩ := getE_elim hx123
            exact X_rd (rd_idx 19 rfl els_sl rfl rfl Try.underlying22 size42 lx123 ux123) (g_tt hc122 rfl) (cvpV rfl (cv_refl _))
        refine steps_cons rfl ?_ ?_
        · cases c122
          · exact X_no (g_tf hc122 rfl) (cvpV rfl (cv_refl _))
          · obtain ⟨hx123, hx128, hy131, hv122⟩ := hs122 rfl
            exact X_rd (rd_box1 22 rfl rfl one22 rfl) (g_tt hc122 rfl) (cvpV rfl (cv_refl _))
        refine steps_cons rfl ?_ ?_
        · cases c122
          · exact X_no (g_tf hc122 rfl) (cvpV rfl (cv_refl _))
          · obtain ⟨hx123, hx128, hy131, hv122⟩ := hs122 rfl
            exact X_ev (ev_fa rfl fa_24_1) (g_tt hc122 rfl) (cvpV rfl (cv_refl _))
        refine steps_cons rfl ?_ ?_
        · exact X_ev (ev_move rfl) rfl (cvpV rfl (cv_refl _))
        refine steps_cons rfl ?_ ?_
        · cases c116
          · exact X_ev (ev_pick_f' hc116 rfl rfl) rfl (cvpV (by rw [ho116 rfl]) (cv_refl _))
          · obtain ⟨hx117, hv116⟩ := hs116 rfl
            exact X_ev (ev_pick_t' hc116 rfl rfl) rfl (cvpV (by rw [hv116]) (cv_refl _))
        refine steps_cons rfl ?_ ?_
        · cases c116
          · exact X_no (g_tf hc116 rfl) (cvpV rfl (cv_refl _))
          · obtain ⟨hx117, hv116⟩ := hs116 rfl
            exact X_ev (ev_eq rfl rfl) (g_tt hc116 rfl) (cvpV rfl (cv_refl _))
        refine steps_cons rfl ?_ ?_
        · cases c116
          · exact X_no (g_tf hc116 rfl) (cvpV rfl (cv_refl _))
          · obtain ⟨hx117, hv116⟩ := hs116 rfl
            intro A121 n121 c121
            exact X_rd (rd_len 0 rfl els_sl rfl Try.underlying25) (g_tt hc116 rfl) (cvpV rfl (cv_refl _))
        refine steps_cons rfl ?_ ?_
        · cases c116
          · exact X_no (g_tf hc116 rfl) (cvpV rfl (cv_refl _))
          · obtain ⟨hx117, hv116⟩ := hs116 rfl
            obtain ⟨lx117, ux117, hx117⟩ := getE_elim hx117
            refine X_row 19 rfl hx117 (open_DCell x117) ?_
            rintro _ _ ⟨A118, n118, c118, A119, n119, c119, rfl, rfl⟩
            exact X_rd (rd_row1 0 rfl rfl one25 rfl) (g_tt hc116 rfl) (cvp3 A119 n119 c119 (cv_sel [2, 3, 4, 5, 6, 7, 8, 9, 10, 11, 12, 13, 14, 15, 16, 17, 18, 19, 20, 21, 22, 23, 24, 25, 26, 27, 28, 29, 30, 31, 32, 33, 34, 35, 36, 37, 38, 39, 40, 41, 42, 43] 44 rfl rfl))
        refine steps_cons rfl ?_ ?_
        · cases c116
          · exact X_no (g_tf hc116 rfl) (cvpV rfl (cv_refl _))
          · obtain ⟨hx117, hv116⟩ := hs116 rfl
            obtain ⟨lx117, ux117, hx117⟩ := getE_elim hx117
            exact X_rd (rd_fa 19 rfl els_sl rfl (toNat_lt lx117 ux117) fa_42_5) (g_tt hc116 rfl) (cvpV rfl (cv_refl _))
        refine steps_cons rfl ?_ ?_
        · cases c116
          · exact X_no (g_tf hc116 rfl) (cvpV rfl (cv_refl _))
          · obtain ⟨hx117, hv116⟩ := hs116 rfl
            obtain ⟨lx117, ux117, hx117⟩ := getE_elim hx117
            exact X_rd (rd_idx 19 rfl els_sl rfl rfl Try.underlying22 size42 lx117 ux117) (g_tt hc116 rfl) (cvpV rfl (cv_refl _))
        refine steps_cons rfl ?_ ?_
        · cases c116
          · exact X_no (g_tf hc116 rfl) (cvpV rfl (cv_refl _))
          · obtain ⟨hx117, hv116⟩ := hs116 rfl
            exact X_rd (rd_box1 22 rfl rfl one22 rfl) (g_tt hc116 rfl) (cvpV rfl (cv_refl _))
        refine steps_cons rfl ?_ ?_
        · cases c116
          · exact X_no (g_tf hc116 rfl) (cvpV rfl (cv_refl _))
          · obtain ⟨hx117, hv116⟩ := hs116 rfl
            exact X_ev (ev_fa rfl fa_24_1) (g_tt hc116 rfl) (cvpV rfl (cv_refl _))
        refine steps_cons rfl ?_ ?_
        · exact X_ev (ev_move rfl) rfl (cvpV rfl (cv_refl _))
        refine steps_cons rfl ?_ ?_
        · cases c115
          · exact X_ev (ev_pick_f' hc115 rfl rfl) rfl (cvpV (by rw [ho115 rfl]) (cv_refl _))
          · have hv115 := hs115 rfl
            exact X_ev (ev_pick_t' hc115 rfl rfl) rfl (cvpV (by rw [hv115]) (cv_refl _))
        refine steps_cons rfl ?_ ?_
        · cases c115
          · exact X_no (g_tf hc115 rfl) (cvpV rfl (cv_refl _))
          · have hv115 := hs115 rfl
            exact X_ev (ev_eq rfl rfl) (g_tt hc115 rfl) (cvpV rfl (cv_refl _))
        refine steps_cons rfl ?_ ?_
        · cases c115
          · exact X_no (g_tf hc115 rfl) (cvpV rfl (cv_refl _))
          · have hv115 := hs115 rfl
            exact X_rd (rd_len 18 rfl els_sl rfl Try.underlying22) (g_tt hc115 rfl) (cvpV rfl (cv_refl _))
        refine steps_cons rfl ?_ ?_
        · cases c115
          · exact X_no (g_tf hc115 rfl) (cvpV rfl (cv_refl _))
          · have hv115 := hs115 rfl
            exact X_rd (rd_box1 22 rfl rfl one22 rfl) (g_tt hc115 rfl) (cvpV rfl (cv_refl _))
        refine steps_cons rfl ?_ ?_
        · cases c115
          · exact X_no (g_tf hc115 rfl) (cvpV rfl (cv_refl _))
          · have hv115 := hs115 rfl
            exact X_ev (ev_fa0 rfl fa_24_0) (g_tt hc115 rfl) (cvpV rfl (cv_refl _))
        refine steps_cons rfl ?_ ?_
        · exact X_ev (ev_move rfl) rfl (cvpV rfl (cv_refl _))
        refine steps_cons rfl ?_ ?_
        · cases c114
          · exact X_ev (ev_pick_f' hc114 rfl rfl) rfl (cvpV (by rw [ho114 rfl]) (cv_refl _))
          · have hv114 := hs114 rfl
            exact X_ev (ev_pick_t' hc114 rfl rfl) rfl (cvpV (by rw [hv114]) (cv_refl _))
        refine steps_cons rfl ?_ ?_
        · cases c114
          · exact X_no (g_tf hc114 rfl) (cvpV rfl (cv_refl _))
          · have hv114 := hs114 rfl
            exact X_ev (ev_eq rfl rfl) (g_tt hc114 rfl) (cvpV rfl (cv_refl _))
        refine steps_cons rfl ?_ ?_
        · cases c114
          · exact X_no (g_tf hc114 rfl) (cvpV rfl (cv_refl _))
          · have hv114 := hs114 rfl
            exact X_rd (rd_len 19 rfl els_sl rfl Try.underlying22) (g_tt hc114 rfl) (cvpV rfl (cv_refl _))
        refine steps_cons rfl ?_ ?_
        · cases c114
          · exact X_no (g_tf hc114 rfl) (cvpV rfl (cv_refl _))
          · have hv114 := hs114 rfl
            exact X_rd (rd_box1 22 rfl rfl one22 rfl) (g_tt hc114 rfl) (cvpV rfl (cv_refl _))
        refine steps_cons rfl ?_ ?_
        · cases c114
          · exact X_no (g_tf hc114 rfl) (cvpV rfl (cv_refl _))
          · have hv114 := hs114 rfl
            exact X_ev (ev_fa rfl fa_24_1) (g_tt hc114 rfl) (cvpV rfl (cv_refl _))
        refine steps_cons rfl ?_ ?_
        · exact X_ev (ev_move rfl) rfl (cvpV rfl (cv_refl _))
        refine steps_cons rfl ?_ ?_
        · cases c113
          · exact X_ev (ev_pick_f' hc113 rfl rfl) rfl (cvpV (by rw [ho113 rfl]) (cv_refl _))
          · have hv113 := hs113 rfl
            exact X_ev (ev_pick_t' hc113 rfl rfl) rfl (cvpV (by rw [hv113]) (cv_refl _))
        refine steps_cons rfl ?_ ?_
        · cases c113
          · exact X_no (g_tf hc113 rfl) (cvpV rfl (cv_refl _))
          · have hv113 := hs113 rfl
            exact X_ev (ev_eq rfl rfl) (g_tt hc113 rfl) (cvpV rfl (cv_refl _))
        refine steps_cons rfl ?_ ?_
        · cases c113
          · exact X_no (g_tf hc113 rfl) (cvpV rfl (cv_refl _))
          · have hv113 := hs113 rfl
            exact X_ev (ev_move rfl) (g_tt hc113 rfl) (cvpV rfl (cv_refl _))
        refine steps_cons rfl ?_ ?_
        · exact X_ev (ev_move rfl) rfl (cvpV rfl (cv_refl _))
        refine steps_cons rfl ?_ ?_
        · cases c109
          · exact X_ev (ev_pick_f' hc109 rfl rfl) rfl (cvpV (by rw [ho109 rfl]) (cv_refl _))
          · obtain ⟨hy112, hv109⟩ := hs109 rfl
            exact X_ev (ev_pick_t' hc109 rfl rfl) rfl (cvpV (by rw [hv109]) (cv_refl _))
        refine steps_cons rfl ?_ ?_
        · cases c109
          · exact X_no (g_tf hc109 rfl) (cvpV rfl (cv_refl _))
          · obtain ⟨hy112, hv109⟩ := hs109 rfl
            intro A111 n111 c111
            refine X_op (op_callR (pantomimeref19_Same_ok hy112) call25 rfl (mem_cons (lent_own (i := 25) rfl) (mem_cons (lent_own (i := 0) rfl) mem_nil)) pantomimeref19_Same_free) (g_tt hc109 rfl) ?_
            rintro _ _ ⟨_, ⟨rfl, rfl⟩, rfl⟩
            exact cvpV rfl (cv_refl _)
        refine steps_cons rfl ?_ ?_
        · cases c109
          · exact X_no (g_tf hc109 rfl) (cvpV rfl (cv_refl _))
          · obtain ⟨hy112, hv109⟩ := hs109 rfl
            refine X_op (op_bslice (R := (rInt .i64)) (vss := [[.int .i64 2], [.int .i64 4]]) (xs := [2, 4]) rfl (bsl_31_2 _ _) rfl rfl (fun _ _ hr => .cons rfl (.cons rfl All2.nil))) (g_tt hc109 rfl) ?_
            rintro _ _ ⟨A110, n110, c110, rfl, rfl⟩
            exact cvp3 A110 n110 c110 (cv_refl _)
        refine steps_cons rfl ?_ ?_
        · cases c109
          · exact X_no (g_tf hc109 rfl) (cvpV rfl (cv_refl _))
          · obtain ⟨hy112, hv109⟩ := hs109 rfl
            exact X_ev (ev_move rfl) (g_tt hc109 rfl) (cvpV rfl (cv_refl _))
        refine steps_cons rfl ?_ ?_
        · exact X_ev (ev_move rfl) rfl (cvpV rfl (cv_refl _))
        refine steps_cons rfl ?_ ?_
        · intro A107 n107 c107
          refine X_op (op_callR (pantomimeref19_Same_ok hy108) call25 rfl (mem_cons (lent_own (i := 24) rfl) (mem_cons (lent_own (i := 0) rfl) mem_nil)) pantomimeref19_Same_free) rfl ?_
          rintro _ _ ⟨_, ⟨rfl, rfl⟩, rfl⟩
          exact cvpV rfl (cv_refl _)
        refine steps_cons rfl ?_ ?_
        · refine X_op (op_bslice (R := (rInt .i64)) (vss := [[.int .i64 2], [.int .i64 1]]) (xs := [2, 1]) rfl (bsl_31_2 _ _) rfl rfl (fun _ _ hr => .cons rfl (.cons rfl All2.nil))) rfl ?_
          rintro _ _ ⟨A106, n106, c106, rfl, rfl⟩
          exact cvp3 A106 n106 c106 (cv_refl _)
        refine steps_cons rfl ?_ ?_
        · exact X_ev (ev_move rfl) rfl (cvpV rfl (cv_refl _))
        exact steps_nil
      · refine N_sub (t := [(147, .bool b139), (0, .bool false), (3, .slice A24 n24 c24), (4, .slice A25 n25 c25), (5, .pointer (some ⟨B55, 0, none⟩)), (6, .slice A50 n50 c50), (7, .slice A52 n52 c52), (8, .int .i64 y29.2.2.2), (10, .pointer (some ⟨B105, 0, none⟩)), (12, .slice A102 n102 c102), (13, .int .i64 y78.2.2.2)]) (L' := [slC rDCell (.slice A96 n96 c96) y78.1.Young, slC rDCell (.slice A97 n97 c97) y78.1.Old, slC rDValue (.slice A100 n100 c100) y78.2.1, slC rDValue (.slice A102 n102 c102) y78.2.2.1, boxC B105 24 [.slice A96 n96 c96, .slice A97 n97 c97], boxC B74 24 [.slice none 0 0, .slice A73 n73 c73], slC rDCell (.slice A73 n73 c73) ([(⟨10, 0, 0, 0, ([(⟨1, 0, ⟨#[]⟩⟩ : DValue)] : List DValue), ([y57, y58, y59, (⟨0, 0, ⟨#[]⟩⟩ : DValue), (⟨3, 7, ⟨#[]⟩⟩ : DValue)] : List DValue)⟩ : DCell), y61, y65, y69] : List DCell), slC rDValue (.slice A70 n70 c70) y69.Slots, slC rDValue (.slice A71 n71 c71) y69.More, slC rDValue (.slice none 0 0) ([] : List DValue), slC rDValue (.slice A66 n66 c66) y65.Slots, slC rDValue (.slice A67 n67 c67) y65.More, slC rDValue (.slice none 0 0) ([] : List DValue), slC rDValue (.slice A62 n62 c62) y61.Slots, slC rDValue (.slice A63 n63 c63) y61.More, slC rDValue (.slice none 0 0) ([] : List DValue), slC rDValue (.slice A60 n60 c60) ([y57, y58, y59, (⟨0, 0, ⟨#[]⟩⟩ : DValue), (⟨3, 7, ⟨#[]⟩⟩ : DValue)] : List DValue), slC rDValue (.slice A56 n56 c56) ([(⟨1, 0, ⟨#[]⟩⟩ : DValue)] : List DValue), slC rDCell (.slice A46 n46 c46) y29.1.Young, slC rDCell (.slice A47 n47 c47) y29.1.Old, slC rDValue (.slice A50 n50 c50) y29.2.1, slC rDValue (.slice A52 n52 c52) y29.2.2.1, boxC B55 24 [.slice A46 n46 c46, .slice A47 n47 c47], ownC (rInt .i64) 3 (.slice A24 n24 c24) y23.1, ownC (rInt .i64) 3 (.slice A25 n25 c25) y23.2, ownC rDValue 38 (.slice A22 n22 c22) ([y21] : List DValue), boxC B20 24 [.slice A10 n10 c10, .slice A19 n19 c19], slC rDCell (.slice A19 n19 c19) ([y11, y15] : List DCell), slC rDValue (.slice A16 n16 c16) y15.Slots, slC rDValue (.slice A17 n17 c17) y15.More, slC rDValue (.slice none 0 0) ([] : List DValue), slC rDValue (.slice A12 n12 c12) y11.Slots, slC rDValue (.slice A13 n13 c13) y11.More, slC rDValue (.slice none 0 0) ([] : List DValue), slC rDCell (.slice A10 n10 c10) ([y3, y6] : List DCell), slC rDValue (.slice A7 n7 c7) y6.Slots, slC rDValue (.slice A8 n8 c8) y6.More, slC rDValue (.slice none 0 0) ([] : List DValue), slC rDValue (.slice A4 n4 c4) y3.Slots, slC rDValue (.slice A5 n5 c5) y3.More, slC rDValue (.slice A2 n2 c2) ([y1] : List DValue)]) ?_ subT (cv_refl _)
        refine N_ev 79 rfl (by kernel_rfl) (ev_assign rfl) rfl rfl rfl ?_
        refine N_done (by kernel_rfl) ?_
        refine run ?_
        obtain rfl := Option.some.inj h
        exact endG1 rfl rfl (cv_sel [] 41 rfl rfl) ⟨rfl, rfl⟩
theorem pantomimelaw22_goes_free {r : Bool} : ∀ v post, ((fun (u : Value) (post : List Chunk) => u = .bool r ∧ post = [])) v post → ∀ c ∈ post, Free c := by
  rintro _ _ ⟨rfl, rfl⟩; exact mem_nil
def pantomimelaw22_MajorPlaces_j15 (N : Nat) : Option Bool :=
  (pantomimelaw22_goes_O N).bind fun y41 => some y41
def pantomimelaw22_MajorPlaces_l16 (N : Nat) (y8 : ((List Int) × (List Int))) (y11 : ((List Int))) : Nat → Int → Option Bool
  | 0, _ => none
  | m16 + 1, p17 => bif decide (p17 < (y8.1.length : Int)) then ((getE y8.2 p17).bind fun x19 => req (in64 (2 * p17)) (req (in64 ((2 * p17) + 2)) ((bif !decide (x19 = (2 * p17) + 2) then (some true) else ((getE y8.1 p17).bind fun x23 => (pantomimeref19_In_O N y11 x23).bind fun y24 => some (!y24))).bind fun b22 => bif b22 then (some false) else ((bif decide (0 < p17) then (req (in64 (p17 - 1)) ((getE y8.1 (p17 - 1)).bind fun x28 => (bif decide (x28.tmod 2 = 1) then ((getE y8.1 p17).bind fun x30 => some (decide (x30.tmod 2 = 0))) else (some false)).bind fun b29 => (bif b29 then (some true) else (req (in64 (p17 - 1)) ((getE y8.1 (p17 - 1)).bind fun x33 => (getE y8.1 p17).bind fun x34 => (bif decide (x33.tmod 2 = x34.tmod 2) then (req (in64 (p17 - 1)) ((getE y8.1 (p17 - 1)).bind fun x37 => (getE y8.1 p17).bind fun x38 => some (decide (x38 ≤ x37)))) else (some false)).bind fun b35 => some b35))).bind fun b31 => some b31)) else (some false)).bind fun b26 => bif b26 then (some false) else (req (in64 (p17 + 1)) ((pantomimelaw22_MajorPlaces_l16 N y8 y11 m16) (p17 + 1))))))) else (pantomimelaw22_MajorPlaces_j15 N)
theorem pantomimelaw22_MajorPlaces_l16_s {N m16 : Nat} {y8 : ((List Int) × (List Int))} {y11 : ((List Int))} {p17 : Int} : pantomimelaw22_MajorPlaces_l16 N y8 y11 (m16 + 1) p17 = bif decide (p17 < (y8.1.length : Int)) then ((getE y8.2 p17).bind fun x19 => req (in64 (2 * p17)) (req (in64 ((2 * p17) + 2)) ((bif !decide (x19 = (2 * p17) + 2) then (some true) else ((getE y8.1 p17).bind fun x23 => (pantomimeref19_In_O N y11 x23).bind fun y24 => some (!y24))).bind fun b22 => bif b22 then (some false) else ((bif decide (0 < p17) then (req (in64 (p17 - 1)) ((getE y8.1 (p17 - 1)).bind fun x28 => (bif decide (x28.tmod 2 = 1) then ((getE y8.1 p17).bind fun x30 => some (decide (x30.tmod 2 = 0))) else (some false)).bind fun b29 => (bif b29 then (some true) else (req (in64 (p17 - 1)) ((getE y8.1 (p17 - 1)).bind fun x33 => (getE y8.1 p17).bind fun x34 => (bif decide (x33.tmod 2 = x34.tmod 2) then (req (in64 (p17 - 1)) ((getE y8.1 (p17 - 1)).bind fun x37 => (getE y8.1 p17).bind fun x38 => some (decide (x38 ≤ x37)))) else (some false)).bind fun b35 => some b35))).bind fun b31 => some b31)) else (some false)).bind fun b26 => bif b26 then (some false) else (req (in64 (p17 + 1)) ((pantomimelaw22_MajorPlaces_l16 N y8 y11 m16) (p17 + 1))))))) else (pantomimelaw22_MajorPlaces_j15 N) := rfl
def pantomimelaw22_MajorPlaces_O (N : Nat) (a0 : DMemory) (a1 : (List DValue)) : Option Bool :=
  (pantomimeref19_Few_O N a0 a1).bind fun y5 => bif !y5 then ((pantomimelaw22_goes_O N).bind fun y7 => some y7) else ((major_Places_O N a0 a1).bind fun y8 => (reach_Live_O N a0 a1).bind fun y11 => (bif !decide ((y8.1.length : Int) = (y11.length : Int)) then (some true) else (some (!decide ((y8.2.length : Int) = (y11.length : Int))))).bind fun b13 => bif b13 then (some false) else (pantomimelaw22_MajorPlaces_l16 N y8 y11 N 0))
set_option maxHeartbeats 4000000 in
theorem pantomimelaw22_MajorPlaces_ok {N : Nat} {a0 : DMemory} {a1 : (List DValue)} {r : Bool} (h : pantomimelaw22_MajorPlaces_O N a0 a1 = some r) {A1 : Option Addr} {n1 c1 : Nat} {A2 : Option Addr} {n2 c2 : Nat} {A3 : Option Addr} {n3 c3 : Nat} : Okc Try.prog 6 [.agg #[.slice A1 n1 c1, .slice A2 n2 c2], .slice A3 n3 c3] ([slC rDCell (.slice A1 n1 c1) a0.Young, slC rDCell (.slice A2 n2 c2) a0.Old, slC rDValue (.slice A3 n3 c3) a1]) (fun (u : Value) (post : List Chunk) => u = .bool r ∧ post = []) := by
  refine ok_E Try.func6 rfl rfl ?_
  simp only [envOf]
  refine run ?_
  refine G_opd (op_box rfl rfl) rfl rfl rfl ?_
  rintro _ _ ⟨B4, rfl, rfl⟩
  refine run ?_
  refine G_seq ?_
  refine run ?_
  refine G_rd (rd_boxS (us := [.slice A1 n1 c1, .slice A2 n2 c2]) 0 rfl rfl agg24 rfl) rfl rfl rfl ?_
  refine run ?_
  obtain ⟨y5, hy5, h⟩ := bind_elim h
  refine G_opd (op_callR (pantomimeref19_Few_ok hy5) call14 rfl (mem_cons (lent_ro (i := 1) rfl rfl) (mem_cons (lent_ro (i := 2) rfl rfl) (mem_cons (lent_ro (i := 3) rfl rfl) mem_nil))) pantomimeref19_Few_free) rfl rfl rfl ?_
  rintro _ _ ⟨_, ⟨rfl, rfl⟩, rfl⟩
  refine run ?_
  refine G_cond rfl (fun g6 => ?_) (fun g6 => ?_)
  · replace h := cond_t g6 h
    refine run ?_
    obtain ⟨y7, hy7, h⟩ := bind_elim h
    refine G_opd (op_callR (pantomimelaw22_goes_ok hy7) call27 rfl (mem_nil) pantomimelaw22_goes_free) rfl rfl rfl ?_
    rintro _ _ ⟨_, ⟨rfl, rfl⟩, rfl⟩
    refine run ?_
    obtain rfl := Option.some.inj h
    exact endG1 rfl rfl (cv_sel [] 4 rfl rfl) ⟨rfl, rfl⟩
  · replace h := cond_f g6 h
    refine run ?_
    refine G_rd (rd_boxS (us := [.slice A1 n1 c1, .slice A2 n2 c2]) 0 rfl rfl agg24 rfl) rfl rfl rfl ?_
    refine run ?_
    obtain ⟨y8, hy8, h⟩ := bind_elim h
    refine G_opd (op_callR (major_Places_ok hy8) call28 rfl (mem_cons (lent_ro (i := 1) rfl rfl) (mem_cons (lent_ro (i := 2) rfl rfl) (mem_cons (lent_ro (i := 3) rfl rfl) mem_nil))) major_Places_free) rfl rfl rfl ?_
    rintro _ _ ⟨_, ⟨A9, n9, c9, A10, n10, c10, rfl, rfl⟩, rfl⟩
    refine run ?_
    refine G_rd (rd_boxS (us := [.slice A1 n1 c1, .slice A2 n2 c2]) 2 rfl rfl agg24 rfl) rfl rfl rfl ?_
    refine run ?_
    obtain ⟨y11, hy11, h⟩ := bind_elim h
    refine G_opd (op_callR (reach_Live_ok hy11) call16 rfl (mem_cons (lent_ro (i := 3) rfl rfl) (mem_cons (lent_ro (i := 4) rfl rfl) (mem_cons (lent_ro (i := 5) rfl rfl) mem_nil))) reach_Live_free) rfl rfl rfl ?_
    rintro _ _ ⟨_, ⟨A12, n12, c12, rfl, rfl⟩, rfl⟩
    refine run ?_
    refine G_seq ?_
    refine run ?_
    refine G_rd (rd_len 1 rfl els_own rfl Try.underlying31) rfl rfl rfl ?_
    refine run ?_
    refine G_rd (rd_len 0 rfl els_own rfl Try.underlying31) rfl rfl rfl ?_
    refine run ?_
    obtain ⟨b13, hb13, h⟩ := bind_elim h
    refine G_segb 6 34 b13 ?_ ?_
    · clear h
      refine G_case 28 rfl (fun g13 => ?_) (fun g13 => ?_)
      · have h := cond_t g13 hb13
        refine run ?_
        obtain rfl := Option.some.inj h
        exact G_joined (sub_cons rfl (sub_skip (sub_skip (sub_skip (sub_skip (sub_skip (sub_skip sub_refl rfl) rfl) rfl) rfl) rfl) rfl)) (cv_sel [0, 1, 2, 3, 4, 5, 6] 7 rfl rfl)
      · have h := cond_f g13 hb13
        refine run ?_
        refine G_rd (rd_len 2 rfl els_own rfl Try.underlying31) rfl (g_ff g13 rfl) rfl ?_
        refine run ?_
        refine G_rd (rd_len 0 rfl els_own rfl Try.underlying31) rfl (g_ff g13 rfl) rfl ?_
        refine run ?_
        obtain rfl := Option.some.inj h
        exact G_joined (sub_cons rfl (sub_skip (sub_skip (sub_skip (sub_skip (sub_skip (sub_skip sub_refl rfl) rfl) rfl) rfl) rfl) rfl)) (cv_sel [0, 1, 2, 3, 4, 5, 6] 7 rfl rfl)
    refine run ?_
    refine G_cond rfl (fun g14 => ?_) (fun g14 => ?_)
    · replace h := cond_t g14 h
      refine run ?_
      obtain rfl := Option.some.inj h
      exact endG1 rfl rfl (cv_sel [] 7 rfl rfl) ⟨rfl, rfl⟩
    · replace h := cond_f g14 h
      refine run ?_
      refine G_joinF (fun s L => pantomimelaw22_MajorPlaces_j15 N = some r ∧ s = [(4, .bool false)] ∧ L = []) ?_ ?_
      · refine run ?_
        refine G_rd (rd_len 1 rfl els_own rfl Try.underlying31) rfl rfl rfl ?_
        refine run ?_
        refine G_loopF (fun m s L => ∃ (p17 : Int), pantomimelaw22_MajorPlaces_l16 N y8 y11 m p17 = some r ∧ s = [(4, .bool false), (5, .slice A9 n9 c9), (6, .slice A10 n10 c10), (7, .slice A12 n12 c12), (36, .int .i64 (y8.1.length : Int)), (37, .int .i64 p17)] ∧ L = [ownC (rInt .i64) 3 (.slice A9 n9 c9) y8.1, ownC (rInt .i64) 3 (.slice A10 n10 c10) y8.2, ownC (rInt .i64) 3 (.slice A12 n12 c12) y11]) N _ _ ⟨0, h, rfl, rfl⟩ (sub_cons rfl (sub_cons rfl (sub_cons rfl (sub_cons rfl (sub_cons rfl (sub_cons rfl sub_nil)))))) (cv_sel [1, 2, 0] 7 rfl rfl) ?_
        rintro (_ | m16) _ _ ⟨p17, h, rfl, rfl⟩
        · exact none_some h
        rw [pantomimelaw22_MajorPlaces_l16_s] at h
        refine run ?_
        refine G_seq ?_
        refine G_cond rfl (fun g18 => ?_) (fun g18 => ?_)
        · replace h := cond_t g18 h
          refine run ?_
          refine G_seq ?_
          refine run ?_
          refine G_seq ?_
          refine run ?_
          obtain ⟨x19, hx19, h⟩ := bind_elim h
          obtain ⟨lx19, ux19, hx19⟩ := getE_elim hx19
          refine G_rd (rd_idx 1 rfl els_own rfl rfl Try.underlying31 size3 lx19 ux19) rfl rfl rfl ?_
          refine G_rd (rd_elem1 (u := .int .i64 x19) 1 rfl els_own rfl hx19 one3 (fun _ _ _ h => by rw [show _ = _ from h]; rfl)) rfl rfl rfl ?_
          refine run ?_
          obtain ⟨q20, h⟩ := req_elim h
          refine G_ev (ev_mul rfl rfl q20.1 q20.2) rfl rfl rfl ?_
          obtain ⟨q21, h⟩ := req_elim h
          refine G_ev (ev_add rfl rfl q21.1 q21.2) rfl rfl rfl ?_
          refine run ?_
          obtain ⟨b22, hb22, h⟩ := bind_elim h
          refine G_segb 8 56 b22 ?_ ?_
          · clear h
            refine G_case 48 rfl (fun g22 => ?_) (fun g22 => ?_)
            · have h := cond_t g22 hb22
              refine run ?_
              obtain rfl := Option.some.inj h
              exact G_joined (sub_cons rfl (sub_skip (sub_skip (sub_skip (sub_skip (sub_skip (sub_skip (sub_skip (sub_skip sub_refl rfl) rfl) rfl) rfl) rfl) rfl) rfl) rfl)) (cv_sel [0, 1, 2] 3 rfl rfl)
            · have h := cond_f g22 hb22
              refine run ?_
              obtain ⟨x23, hx23, h⟩ := bind_elim h
              obtain ⟨lx23, ux23, hx23⟩ := getE_elim hx23
              refine G_rd (rd_idx 0 rfl els_own rfl rfl Try.underlying31 size3 lx23 ux23) rfl (g_ff g22 rfl) rfl ?_
              refine G_rd (rd_elem1 (u := .int .i64 x23) 0 rfl els_own rfl hx23 one3 (fun _ _ _ h => by rw [show _ = _ from h]; rfl)) rfl (g_ff g22 rfl) rfl ?_
              obtain ⟨y24, hy24, h⟩ := bind_elim h
              refine G_opd (op_callR (pantomimeref19_In_ok hy24) call18 rfl (mem_cons (lent_own (i := 2) rfl) mem_nil) pantomimeref19_In_free) rfl (g_ff g22 rfl) rfl ?_
              rintro _ _ ⟨_, ⟨rfl, rfl⟩, rfl⟩
              refine run ?_
              obtain rfl := Option.some.inj h
              exact G_joined (sub_cons rfl (sub_skip (sub_skip (sub_skip (sub_skip (sub_skip (sub_skip (sub_skip (sub_skip sub_refl rfl) rfl) rfl) rfl) rfl) rfl) rfl) rfl)) (cv_sel [0, 1, 2] 3 rfl rfl)
          refine run ?_
          refine G_cond rfl (fun g25 => ?_) (fun g25 => ?_)
          · replace h := cond_t g25 h
            refine run ?_
            obtain rfl := Option.some.inj h
            exact endG1 rfl rfl (cv_sel [] 3 rfl rfl) ⟨rfl, rfl⟩
          · replace h := cond_f g25 h
            refine run ?_
            refine G_seq ?_
            refine G_drawn (by kernel_rfl) _ (cv_refl _) ?_
            refine T3_ev 0 rfl (by kernel_rfl) (ev_move rfl) rfl rfl ?_
            refine T3_ev 1 rfl (by kernel_rfl) (ev_gt rfl rfl) rfl rfl ?_
            refine T3_ev 2 rfl (by kernel_rfl) (ev_move rfl) rfl rfl ?_
            obtain ⟨b26, hb26, h⟩ := bind_elim h
            refine T3_joinB (fun l => ((((((((((((((((((((((((((((((((((((((((((l.setIfInBounds 3 true).setIfInBounds 4 true).setIfInBounds 5 true).setIfInBounds 6 true).setIfInBounds 7 true).setIfInBounds 8 true).setIfInBounds 9 true).setIfInBounds 10 true).setIfInBounds 11 true).setIfInBounds 12 true).setIfInBounds 13 true).setIfInBounds 14 true).setIfInBounds 15 true).setIfInBounds 16 true).setIfInBounds 17 true).setIfInBounds 18 true).setIfInBounds 19 true).setIfInBounds 20 true).setIfInBounds 21 true).setIfInBounds 22 true).setIfInBounds 23 true).setIfInBounds 24 true).setIfInBounds 25 true).setIfInBounds 26 true).setIfInBounds 27 true).setIfInBounds 28 true).setIfInBounds 29 true).setIfInBounds 30 true).setIfInBounds 31 true).setIfInBounds 32 true).setIfInBounds 33 true).setIfInBounds 34 true).setIfInBounds 35 true).setIfInBounds 36 true).setIfInBounds 37 true).setIfInBounds 38 true).setIfInBounds 39 true).setIfInBounds 40 true).setIfInBounds 41 true).setIfInBounds 42 true).setIfInBounds 43 true).setIfInBounds 44 true)) 0 101 b26 (fun rest => ?_) ?_
            · clear h
              refine T3_case 59 rfl (fun g26 => ?_) (fun g26 => ?_)
              · have h := cond_t g26 hb26
                refine T3_ev 3 rfl (by kernel_rfl) (ev_move rfl) (g_tt g26 rfl) rfl ?_
                refine T3_ev 4 rfl (by kernel_rfl) (ev_move rfl) (g_tt g26 rfl) rfl ?_
                obtain ⟨q27, h⟩ := req_elim h
                refine T3_ev 5 rfl (by kernel_rfl) (ev_sub rfl rfl q27.1 q27.2) (g_tt g26 rfl) rfl ?_
                obtain ⟨x28, hx28, h⟩ := bind_elim h
                obtain ⟨lx28, ux28, hx28⟩ := getE_elim hx28
                refine T3_rd 6 rfl (by kernel_rfl) (rd_idx 0 rfl els_own rfl rfl Try.underlying31 size3 lx28 ux28) (g_tt g26 rfl) rfl ?_
                refine T3_rd 7 rfl (by kernel_rfl) (rd_elem1 (u := .int .i64 x28) 0 rfl els_own rfl hx28 one3 (fun _ _ _ h => by rw [show _ = _ from h]; rfl)) (g_tt g26 rfl) rfl ?_
                refine T3_ev 8 rfl (by kernel_rfl) (ev_rem rfl rfl (by decide)) (g_tt g26 rfl) rfl ?_
                refine T3_ev 9 rfl (by kernel_rfl) (ev_eq rfl rfl) (g_tt g26 rfl) rfl ?_
                refine T3_ev 10 rfl (by kernel_rfl) (ev_move rfl) (g_tt g26 rfl) rfl ?_
                obtain ⟨b29, hb29, h⟩ := bind_elim h
                refine T3_joinB (fun l => (((((((l.setIfInBounds 11 true).setIfInBounds 12 true).setIfInBounds 13 true).setIfInBounds 14 true).setIfInBounds 15 true).setIfInBounds 16 true).setIfInBounds 17 true)) 27 74 b29 (fun rest => ?_) ?_
                · clear h
                  refine T3_case 67 rfl (fun g29 => ?_) (fun g29 => ?_)
                  · have h := cond_t g29 hb29
                    refine T3_ev 11 rfl (by kernel_rfl) (ev_move rfl) (g_tt g29 rfl) rfl ?_
                    refine T3_ev 12 rfl (by kernel_rfl) (ev_move rfl) (g_tt g29 rfl) rfl ?_
                    obtain ⟨x30, hx30, h⟩ := bind_elim h
                    obtain ⟨lx30, ux30, hx30⟩ := getE_elim hx30
                    refine T3_rd 13 rfl (by kernel_rfl) (rd_idx 0 rfl els_own rfl rfl Try.underlying31 size3 lx30 ux30) (g_tt g29 rfl) rfl ?_
                    refine T3_rd 14 rfl (by kernel_rfl) (rd_elem1 (u := .int .i64 x30) 0 rfl els_own rfl hx30 one3 (fun _ _ _ h => by rw [show _ = _ from h]; rfl)) (g_tt g29 rfl) rfl ?_
                    refine T3_ev 15 rfl (by kernel_rfl) (ev_rem rfl rfl (by decide)) (g_tt g29 rfl) rfl ?_
                    refine T3_ev 16 rfl (by kernel_rfl) (ev_eq rfl rfl) (g_tt g29 rfl) rfl ?_
                    refine T3_ev 17 rfl (by kernel_rfl) (ev_pick_t' g29 rfl rfl) (g_tt g26 rfl) rfl ?_
                    obtain rfl := Option.some.inj h
                    exact T3_sub rest (sub_cons rfl (sub_skip (sub_skip (sub_skip (sub_skip (sub_skip (sub_skip (sub_skip sub_refl rfl) rfl) rfl) rfl) rfl) rfl) rfl)) (cv_refl _) (cv_refl _)
                  · have h := cond_f g29 hb29
                    refine T3_no 11 rfl (by kernel_rfl) (g_tf g29 rfl) rfl ?_
                    refine T3_no 12 rfl (by kernel_rfl) (g_tf g29 rfl) rfl ?_
                    refine T3_no 13 rfl (by kernel_rfl) (g_tf g29 rfl) rfl ?_
                    refine T3_no 14 rfl (by kernel_rfl) (g_tf g29 rfl) rfl ?_
                    refine T3_no 15 rfl (by kernel_rfl) (g_tf g29 rfl) rfl ?_
                    refine T3_no 16 rfl (by kernel_rfl) (g_tf g29 rfl) rfl ?_
                    refine T3_ev 17 rfl (by kernel_rfl) (ev_pick_f' g29 rfl rfl) (g_tt g26 rfl) rfl ?_
                    obtain rfl := Option.some.inj h
                    exact T3_sub rest (sub_cons rfl (sub_skip (sub_skip (sub_skip (sub_skip (sub_skip (sub_skip (sub_skip sub_refl rfl) rfl) rfl) rfl) rfl) rfl) rfl)) (cv_refl _) (cv_refl _)
                refine T3_ev 18 rfl (by kernel_rfl) (ev_move rfl) (g_tt g26 rfl) rfl ?_
                obtain ⟨b31, hb31, h⟩ := bind_elim h
                refine T3_joinB (fun l => (((((((((((((((((((((((((l.setIfInBounds 19 true).setIfInBounds 20 true).setIfInBounds 21 true).setIfInBounds 22 true).setIfInBounds 23 true).setIfInBounds 24 true).setIfInBounds 25 true).setIfInBounds 26 true).setIfInBounds 27 true).setIfInBounds 28 true).setIfInBounds 29 true).setIfInBounds 30 true).setIfInBounds 31 true).setIfInBounds 32 true).setIfInBounds 33 true).setIfInBounds 34 true).setIfInBounds 35 true).setIfInBounds 36 true).setIfInBounds 37 true).setIfInBounds 38 true).setIfInBounds 39 true).setIfInBounds 40 true).setIfInBounds 41 true).setIfInBounds 42 true).setIfInBounds 43 true)) 1 100 b31 (fun rest => ?_) ?_
                · clear h
                  refine T3_case 75 rfl (fun g31 => ?_) (fun g31 => ?_)
                  · have h := cond_t g31 hb31
                    refine T3_no 19 rfl (by kernel_rfl) (g_ft g31 rfl) rfl ?_
                    refine T3_no 20 rfl (by kernel_rfl) (g_ft g31 rfl) rfl ?_
                    refine T3_no 21 rfl (by kernel_rfl) (g_ft g31 rfl) rfl ?_
                    refine T3_no 22 rfl (by kernel_rfl) (g_ft g31 rfl) rfl ?_
                    refine T3_no 23 rfl (by kernel_rfl) (g_ft g31 rfl) rfl ?_
                    refine T3_no 24 rfl (by kernel_rfl) (g_ft g31 rfl) rfl ?_
                    refine T3_no 25 rfl (by kernel_rfl) (g_ft g31 rfl) rfl ?_
                    refine T3_no 26 rfl (by kernel_rfl) (g_ft g31 rfl) rfl ?_
                    refine T3_no 27 rfl (by kernel_rfl) (g_ft g31 rfl) rfl ?_
                    refine T3_no 28 rfl (by kernel_rfl) (g_ft g31 rfl) rfl ?_
                    refine T3_no 29 rfl (by kernel_rfl) (g_ft g31 rfl) rfl ?_
                    refine T3_no 30 rfl (by kernel_rfl) (g_ft g31 rfl) rfl ?_
                    refine T3_no 31 rfl (by kernel_rfl) (g_ft g31 rfl) rfl ?_
                    refine T3_no 32 rfl (by kernel_rfl) rfl rfl ?_
                    refine T3_no 33 rfl (by kernel_rfl) rfl rfl ?_
                    refine T3_no 34 rfl (by kernel_rfl) rfl rfl ?_
                    refine T3_no 35 rfl (by kernel_rfl) rfl rfl ?_
                    refine T3_no 36 rfl (by kernel_rfl) rfl rfl ?_
                    refine T3_no 37 rfl (by kernel_rfl) rfl rfl ?_
                    refine T3_no 38 rfl (by kernel_rfl) rfl rfl ?_
                    refine T3_no 39 rfl (by kernel_rfl) rfl rfl ?_
                    refine T3_no 40 rfl (by kernel_rfl) rfl rfl ?_
                    refine T3_no 41 rfl (by kernel_rfl) rfl rfl ?_
                    refine T3_no 42 rfl (by kernel_rfl) (g_ft g31 rfl) rfl ?_
                    refine T3_ev 43 rfl (by kernel_rfl) (ev_pick_t' g31 rfl rfl) (g_tt g26 rfl) rfl ?_
                    obtain rfl := Option.some.inj h
                    exact T3_sub rest (sub_cons rfl (sub_skip (sub_skip (sub_skip (sub_skip (sub_skip (sub_skip (sub_skip (sub_skip (sub_skip (sub_skip (sub_skip (sub_skip (sub_skip (sub_skip (sub_skip (sub_skip (sub_skip (sub_skip (sub_skip (sub_skip (sub_skip (sub_skip (sub_skip (sub_skip (sub_skip sub_refl rfl) rfl) rfl) rfl) rfl) rfl) rfl) rfl) rfl) rfl) rfl) rfl) rfl) rfl) rfl) rfl) rfl) rfl) rfl) rfl) rfl) rfl) rfl) rfl) rfl)) (cv_refl _) (cv_refl _)
                  · have h := cond_f g31 hb31
                    refine T3_ev 19 rfl (by kernel_rfl) (ev_move rfl) (g_ff g31 rfl) rfl ?_
                    refine T3_ev 20 rfl (by kernel_rfl) (ev_move rfl) (g_ff g31 rfl) rfl ?_
                    obtain ⟨q32, h⟩ := req_elim h
                    refine T3_ev 21 rfl (by kernel_rfl) (ev_sub rfl rfl q32.1 q32.2) (g_ff g31 rfl) rfl ?_
                    obtain ⟨x33, hx33, h⟩ := bind_elim h
                    obtain ⟨lx33, ux33, hx33⟩ := getE_elim hx33
                    refine T3_rd 22 rfl (by kernel_rfl) (rd_idx 0 rfl els_own rfl rfl Try.underlying31 size3 lx33 ux33) (g_ff g31 rfl) rfl ?_
                    refine T3_rd 23 rfl (by kernel_rfl) (rd_elem1 (u := .int .i64 x33) 0 rfl els_own rfl hx33 one3 (fun _ _ _ h => by rw [show _ = _ from h]; rfl)) (g_ff g31 rfl) rfl ?_
                    refine T3_ev 24 rfl (by kernel_rfl) (ev_rem rfl rfl (by decide)) (g_ff g31 rfl) rfl ?_
                    refine T3_ev 25 rfl (by kernel_rfl) (ev_move rfl) (g_ff g31 rfl) rfl ?_
                    refine T3_ev 26 rfl (by kernel_rfl) (ev_move rfl) (g_ff g31 rfl) rfl ?_
                    obtain ⟨x34, hx34, h⟩ := bind_elim h
                    obtain ⟨lx34, ux34, hx34⟩ := getE_elim hx34
                    refine T3_rd 27 rfl (by kernel_rfl) (rd_idx 0 rfl els_own rfl rfl Try.underlying31 size3 lx34 ux34) (g_ff g31 rfl) rfl ?_
                    refine T3_rd 28 rfl (by kernel_rfl) (rd_elem1 (u := .int .i64 x34) 0 rfl els_own rfl hx34 one3 (fun _ _ _ h => by rw [show _ = _ from h]; rfl)) (g_ff g31 rfl) rfl ?_
                    refine T3_ev 29 rfl (by kernel_rfl) (ev_rem rfl rfl (by decide)) (g_ff g31 rfl) rfl ?_
                    refine T3_ev 30 rfl (by kernel_rfl) (ev_eq rfl rfl) (g_ff g31 rfl) rfl ?_
                    refine T3_ev 31 rfl (by kernel_rfl) (ev_move rfl) (g_ff g31 rfl) rfl ?_
                    obtain ⟨b35, hb35, h⟩ := bind_elim h
                    refine T3_joinB (fun l => (((((((((((l.setIfInBounds 32 true).setIfInBounds 33 true).setIfInBounds 34 true).setIfInBounds 35 true).setIfInBounds 36 true).setIfInBounds 37 true).setIfInBounds 38 true).setIfInBounds 39 true).setIfInBounds 40 true).setIfInBounds 41 true).setIfInBounds 42 true)) 2 99 b35 (fun rest => ?_) ?_
                    · clear h
                      refine T3_case 88 rfl (fun g35 => ?_) (fun g35 => ?_)
                      · have h := cond_t g35 hb35
                        refine T3_ev 32 rfl (by kernel_rfl) (ev_move rfl) (g_tt g35 rfl) rfl ?_
                        refine T3_ev 33 rfl (by kernel_rfl) (ev_move rfl) (g_tt g35 rfl) rfl ?_
                        obtain ⟨q36, h⟩ := req_elim h
                        refine T3_ev 34 rfl (by kernel_rfl) (ev_sub rfl rfl q36.1 q36.2) (g_tt g35 rfl) rfl ?_
                        obtain ⟨x37, hx37, h⟩ := bind_elim h
                        obtain ⟨lx37, ux37, hx37⟩ := getE_elim hx37
                        refine T3_rd 35 rfl (by kernel_rfl) (rd_idx 0 rfl els_own rfl rfl Try.underlying31 size3 lx37 ux37) (g_tt g35 rfl) rfl ?_
                        refine T3_rd 36 rfl (by kernel_rfl) (rd_elem1 (u := .int .i64 x37) 0 rfl els_own rfl hx37 one3 (fun _ _ _ h => by rw [show _ = _ from h]; rfl)) (g_tt g35 rfl) rfl ?_
                        refine T3_ev 37 rfl (by kernel_rfl) (ev_move rfl) (g_tt g35 rfl) rfl ?_
                        refine T3_ev 38 rfl (by kernel_rfl) (ev_move rfl) (g_tt g35 rfl) rfl ?_
                        obtain ⟨x38, hx38, h⟩ := bind_elim h
                        obtain ⟨lx38, ux38, hx38⟩ := getE_elim hx38
                        refine T3_rd 39 rfl (by kernel_rfl) (rd_idx 0 rfl els_own rfl rfl Try.underlying31 size3 lx38 ux38) (g_tt g35 rfl) rfl ?_
                        refine T3_rd 40 rfl (by kernel_rfl) (rd_elem1 (u := .int .i64 x38) 0 rfl els_own rfl hx38 one3 (fun _ _ _ h => by rw [show _ = _ from h]; rfl)) (g_tt g35 rfl) rfl ?_
                        refine T3_ev 41 rfl (by kernel_rfl) (ev_ge rfl rfl) (g_tt g35 rfl) rfl ?_
                        refine T3_ev 42 rfl (by kernel_rfl) (ev_pick_t' g35 rfl rfl) (g_ff g31 rfl) rfl ?_
                        obtain rfl := Option.some.inj h
                        exact T3_sub rest (sub_cons rfl (sub_skip (sub_skip (sub_skip (sub_skip (sub_skip (sub_skip (sub_skip (sub_skip (sub_skip (sub_skip (sub_skip sub_refl rfl) rfl) rfl) rfl) rfl) rfl) rfl) rfl) rfl) rfl) rfl)) (cv_refl _) (cv_refl _)
                      · have h := cond_f g35 hb35
                        refine T3_no 32 rfl (by kernel_rfl) (g_tf g35 rfl) rfl ?_
                        refine T3_no 33 rfl (by kernel_rfl) (g_tf g35 rfl) rfl ?_
                        refine T3_no 34 rfl (by kernel_rfl) (g_tf g35 rfl) rfl ?_
                        refine T3_no 35 rfl (by kernel_rfl) (g_tf g35 rfl) rfl ?_
                        refine T3_no 36 rfl (by kernel_rfl) (g_tf g35 rfl) rfl ?_
                        refine T3_no 37 rfl (by kernel_rfl) (g_tf g35 rfl) rfl ?_
                        refine T3_no 38 rfl (by kernel_rfl) (g_tf g35 rfl) rfl ?_
                        refine T3_no 39 rfl (by kernel_rfl) (g_tf g35 rfl) rfl ?_
                        refine T3_no 40 rfl (by kernel_rfl) (g_tf g35 rfl) rfl ?_
                        refine T3_no 41 rfl (by kernel_rfl) (g_tf g35 rfl) rfl ?_
                        refine T3_ev 42 rfl (by kernel_rfl) (ev_pick_f' g35 rfl rfl) (g_ff g31 rfl) rfl ?_
                        obtain rfl := Option.some.inj h
                        exact T3_sub rest (sub_cons rfl (sub_skip (sub_skip (sub_skip (sub_skip (sub_skip (sub_skip (sub_skip (sub_skip (sub_skip (sub_skip (sub_skip sub_refl rfl) rfl) rfl) rfl) rfl) rfl) rfl) rfl) rfl) rfl) rfl)) (cv_refl _) (cv_refl _)
                    refine T3_ev 43 rfl (by kernel_rfl) (ev_pick_f' g31 rfl rfl) (g_tt g26 rfl) rfl ?_
                    obtain rfl := Option.some.inj h
                    exact T3_sub rest (sub_cons rfl (sub_skip (sub_skip (sub_skip (sub_skip (sub_skip (sub_skip (sub_skip (sub_skip (sub_skip (sub_skip (sub_skip (sub_skip (sub_skip (sub_skip (sub_skip sub_refl rfl) rfl) rfl) rfl) rfl) rfl) rfl) rfl) rfl) rfl) rfl) rfl) rfl) rfl) rfl)) (cv_refl _) (cv_refl _)
                refine T3_ev 44 rfl (by kernel_rfl) (ev_pick_t' g26 rfl rfl) rfl rfl ?_
                obtain rfl := Option.some.inj h
                exact T3_sub rest (sub_cons rfl (sub_skip (sub_skip (sub_skip (sub_skip (sub_skip (sub_skip (sub_skip (sub_skip (sub_skip (sub_skip (sub_skip (sub_skip sub_refl rfl) rfl) rfl) rfl) rfl) rfl) rfl) rfl) rfl) rfl) rfl) rfl)) (cv_refl _) (cv_refl _)
              · have h := cond_f g26 hb26
                refine T3_no 3 rfl (by kernel_rfl) (g_tf g26 rfl) rfl ?_
                refine T3_no 4 rfl (by kernel_rfl) (g_tf g26 rfl) rfl ?_
                refine T3_no 5 rfl (by kernel_rfl) (g_tf g26 rfl) rfl ?_
                refine T3_no 6 rfl (by kernel_rfl) (g_tf g26 rfl) rfl ?_
                refine T3_no 7 rfl (by kernel_rfl) (g_tf g26 rfl) rfl ?_
                refine T3_no 8 rfl (by kernel_rfl) (g_tf g26 rfl) rfl ?_
                refine T3_no 9 rfl (by kernel_rfl) (g_tf g26 rfl) rfl ?_
                refine T3_no 10 rfl (by kernel_rfl) (g_tf g26 rfl) rfl ?_
                refine T3_no 11 rfl (by kernel_rfl) rfl rfl ?_
                refine T3_no 12 rfl (by kernel_rfl) rfl rfl ?_
                refine T3_no 13 rfl (by kernel_rfl) rfl rfl ?_
                refine T3_no 14 rfl (by kernel_rfl) rfl rfl ?_
                refine T3_no 15 rfl (by kernel_rfl) rfl rfl ?_
                refine T3_no 16 rfl (by kernel_rfl) rfl rfl ?_
                refine T3_no 17 rfl (by kernel_rfl) (g_tf g26 rfl) rfl ?_
                refine T3_no 18 rfl (by kernel_rfl) (g_tf g26 rfl) rfl ?_
                refine T3_no 19 rfl (by kernel_rfl) rfl rfl ?_
                refine T3_no 20 rfl (by kernel_rfl) rfl rfl ?_
                refine T3_no 21 rfl (by kernel_rfl) rfl rfl ?_
                refine T3_no 22 rfl (by kernel_rfl) rfl rfl ?_
                refine T3_no 23 rfl (by kernel_rfl) rfl rfl ?_
                refine T3_no 24 rfl (by kernel_rfl) rfl rfl ?_
                refine T3_no 25 rfl (by kernel_rfl) rfl rfl ?_
                refine T3_no 26 rfl (by kernel_rfl) rfl rfl ?_
                refine T3_no 27 rfl (by kernel_rfl) rfl rfl ?_
                refine T3_no 28 rfl (by kernel_rfl) rfl rfl ?_
                refine T3_no 29 rfl (by kernel_rfl) rfl rfl ?_
                refine T3_no 30 rfl (by kernel_rfl) rfl rfl ?_
                refine T3_no 31 rfl (by kernel_rfl) rfl rfl ?_
                refine T3_no 32 rfl (by kernel_rfl) rfl rfl ?_
                refine T3_no 33 rfl (by kernel_rfl) rfl rfl ?_
                refine T3_no 34 rfl (by kernel_rfl) rfl rfl ?_
                refine T3_no 35 rfl (by kernel_rfl) rfl rfl ?_
                refine T3_no 36 rfl (by kernel_rfl) rfl rfl ?_
                refine T3_no 37 rfl (by kernel_rfl) rfl rfl ?_
                refine T3_no 38 rfl (by kernel_rfl) rfl rfl ?_
                refine T3_no 39 rfl (by kernel_rfl) rfl rfl ?_
                refine T3_no 40 rfl (by kernel_rfl) rfl rfl ?_
                refine T3_no 41 rfl (by kernel_rfl) rfl rfl ?_
                refine T3_no 42 rfl (by kernel_rfl) rfl rfl ?_
                refine T3_no 43 rfl (by kernel_rfl) (g_tf g26 rfl) rfl ?_
                refine T3_ev 44 rfl (by kernel_rfl) (ev_pick_f' g26 rfl rfl) rfl rfl ?_
                obtain rfl := Option.some.inj h
                exact T3_sub rest (sub_cons rfl (sub_skip (sub_skip (sub_skip (sub_skip (sub_skip (sub_skip (sub_skip (sub_skip (sub_skip (sub_skip (sub_skip (sub_skip (sub_skip (sub_skip (sub_skip (sub_skip (sub_skip (sub_skip (sub_skip (sub_skip (sub_skip (sub_skip (sub_skip (sub_skip (sub_skip (sub_skip (sub_skip (sub_skip (sub_skip (sub_skip (sub_skip (sub_skip (sub_skip (sub_skip (sub_skip (sub_skip (sub_skip (sub_skip (sub_skip (sub_skip (sub_skip (sub_skip sub_refl rfl) rfl) rfl) rfl) rfl) rfl) rfl) rfl) rfl) rfl) rfl) rfl) rfl) rfl) rfl) rfl) rfl) rfl) rfl) rfl) rfl) rfl) rfl) rfl) rfl) rfl) rfl) rfl) rfl) rfl) rfl) rfl) rfl) rfl) rfl) rfl) rfl) rfl) rfl) rfl) rfl) rfl)) (cv_refl _) (cv_refl _)
            refine T3_done (by kernel_rfl) ?_
            refine nx_n ?_
            refine G_cond rfl (fun g39 => ?_) (fun g39 => ?_)
            · replace h := cond_t g39 h
              refine run ?_
              obtain rfl := Option.some.inj h
              exact endG1 rfl rfl (cv_sel [] 3 rfl rfl) ⟨rfl, rfl⟩
            · replace h := cond_f g39 h
              refine run ?_
              obtain ⟨q40, h⟩ := req_elim h
              refine G_ev (ev_add rfl rfl q40.1 q40.2) rfl rfl rfl ?_
              refine run ?_
              exact ⟨m16, _, _, Nat.lt_succ_self _, ⟨p17 + 1, h, rfl, rfl⟩, sub_cons rfl (sub_cons rfl (sub_cons rfl (sub_cons rfl (sub_cons rfl (sub_cons rfl sub_nil))))), cv_sel [0, 1, 2] 3 rfl rfl⟩
        · replace h := cond_f g18 h
          refine run ?_
          exact ⟨_, _, ⟨h, rfl, rfl⟩, sub_cons rfl sub_nil, cv_sel [] 3 rfl rfl⟩
      · rintro _ _ ⟨h, rfl, rfl⟩
        refine run ?_
        obtain ⟨y41, hy41, h⟩ := bind_elim h
        refine G_opd (op_callR (pantomimelaw22_goes_ok hy41) call27 rfl (mem_nil) pantomimelaw22_goes_free) rfl rfl rfl ?_
        rintro _ _ ⟨_, ⟨rfl, rfl⟩, rfl⟩
        refine run ?_
        obtain rfl := Option.some.inj h
        exact endG1 rfl rfl (cv_sel [] 0 rfl rfl) ⟨rfl, rfl⟩
end Go.Proofs.Ytmbaennilhdieaa

/- All printed functions. -/

/- Plain tools for translated functions: results in Option, loops with fuel. Over any program. -/
namespace Go.Proofs.Ytmbaennilhdieaa
open Go.RowKit

/-- m ends, and its value satisfies R -/
def Sat {ρ : Type} (m : Option ρ) (R : ρ → Prop) : Prop := ∃ r, m = some r ∧ R r
theorem sat_some {ρ : Type} {x : ρ} {R : ρ → Prop} (h : R x) : Sat (some x) R := ⟨x, rfl, h⟩
theorem Sat.eq {ρ : Type} {m : Option ρ} {x : ρ} (h : Sat m (· = x)) : m = some x := by obtain ⟨r, h1, rfl⟩ := h; exact h1
theorem Sat.mono {ρ : Type} {m : Option ρ} {R Q : ρ → Prop} (h : Sat m R) (k : ∀ x, R x → Q x) : Sat m Q := by obtain ⟨r, h1, h2⟩ := h; exact ⟨r, h1, k _ h2⟩
theorem Sat.bind {ρ σ : Type} {m : Option σ} {f : σ → Option ρ} {P : σ → Prop} {R : ρ → Prop} (h : Sat m P) (k : ∀ x, P x → Sat (f x) R) : Sat (m.bind f) R := by obtain ⟨x, rfl, h2⟩ := h; exact k x h2
theorem sat_dec {ρ : Type} {p : Prop} [Decidable p] {x y : Option ρ} {R : ρ → Prop} (h1 : p → Sat x R) (h2 : ¬ p → Sat y R) : Sat (bif decide p then x else y) R := by
  by_cases h : p
  · rw [decide_eq_true h]; exact h1 h
  · rw [decide_eq_false h]; exact h2 h
theorem sat_not {ρ : Type} {b : Bool} {x y : Option ρ} {R : ρ → Prop} (h1 : b = false → Sat x R) (h2 : b = true → Sat y R) : Sat (bif !b then x else y) R := by cases b with | true => exact h2 rfl | false => exact h1 rfl
/-! (no rfl-lemmas: simp's implicit proofs by unfolding are too deep for the kernel) -/
theorem bs {ρ σ : Type} {x : σ} {f : σ → Option ρ} : (some x).bind f = f x := Eq.trans rfl rfl
theorem ct {ρ : Type} {x y : ρ} : (bif true then x else y) = x := Eq.trans rfl rfl
theorem cf {ρ : Type} {x y : ρ} : (bif false then x else y) = y := Eq.trans rfl rfl
theorem nt : (!true) = false := Eq.trans rfl rfl
theorem nf : (!false) = true := Eq.trans rfl rfl
theorem lt_t {a b : Int} (h : a < b) : decide (a < b) = true := decide_eq_true h
theorem lt_f {a b : Int} (h : b ≤ a) : decide (a < b) = false := decide_eq_false (by omega)
theorem le_t {a b : Int} (h : a ≤ b) : decide (a ≤ b) = true := decide_eq_true h
theorem le_f {a b : Int} (h : b < a) : decide (a ≤ b) = false := decide_eq_false (by omega)
theorem eq_t {a b : Int} (h : a = b) : decide (a = b) = true := decide_eq_true h
theorem eq_f {a b : Int} (h : a ≠ b) : decide (a = b) = false := decide_eq_false h
theorem req_t {ρ : Type} {b : Prop} [Decidable b] {m : Option ρ} (h : b) : req b m = m := if_pos h
theorem r64 {ρ : Type} {a : Int} {m : Option ρ} (h1 : -9000000000000000000 ≤ a) (h2 : a ≤ 9000000000000000000) : req (in64 a) m = m := if_pos ⟨by omega, by omega⟩
theorem rF {ρ : Type} {n : Nat} {m : Option ρ} (h : n ≤ 1000000) : req (fitsL n) m = m := if_pos (by unfold fitsL; omega)
theorem getE_at {α : Type} {xs : List α} {i : Int} (h0 : 0 ≤ i) (h1 : i.toNat < xs.length) : getE xs i = some xs[i.toNat] := by
  unfold getE
  rw [if_neg (by omega), List.getElem?_eq_getElem h1]
theorem getE_n {α : Type} {xs : List α} {i : Nat} (h1 : i < xs.length) : getE xs (i : Int) = some xs[i] := by
  unfold getE
  rw [if_neg (by omega), Int.toNat_natCast, List.getElem?_eq_getElem h1]

/-- a loop that counts up to n: an invariant, and the rest of the loop as a way to go on -/
theorem loop_inv {σ ρ : Type} (L : Nat → Nat → σ → Option ρ) (n : Nat) (Inv : Nat → σ → Prop) (R : ρ → Prop)
    (round : ∀ m i s, i < n → Inv i s → (∀ s', Inv (i + 1) s' → Sat (L m (i + 1) s') R) → Sat (L (m + 1) i s) R)
    (fin : ∀ m s, Inv n s → Sat (L (m + 1) n s) R) : ∀ m i s, n < m + i → i ≤ n → Inv i s → Sat (L m i s) R
  | 0, i, s, h, h2, _ => by omega
  | m + 1, i, s, h, h2, hi => by
    by_cases e : i = n
    · subst e; exact fin m s hi
    · exact round m i s (by omega) hi fun s' h' => loop_inv L n Inv R round fin m (i + 1) s' (by omega) (by omega) h'
/-- the same without a state -/
theorem loop_inv0 {ρ : Type} (L : Nat → Nat → Option ρ) (n : Nat) (Inv : Nat → Prop) (R : ρ → Prop)
    (round : ∀ m i, i < n → Inv i → (Inv (i + 1) → Sat (L m (i + 1)) R) → Sat (L (m + 1) i) R)
    (fin : ∀ m, Inv n → Sat (L (m + 1) n) R) (m i : Nat) (h : n < m + i) (h2 : i ≤ n) (hi : Inv i) : Sat (L m i) R :=
  loop_inv (fun m i (_ : Unit) => L m i) n (fun i _ => Inv i) R (fun m i _ h1 h2 h3 => round m i h1 h2 (h3 ())) (fun m _ => fin m) m i () h h2 hi
/-- a loop whose number goes down by itself -/
theorem loop_dec {σ ρ : Type} (L : Nat → σ → Option ρ) (v : σ → Nat) (Inv : σ → Prop) (R : ρ → Prop)
    (round : ∀ m s, Inv s → (∀ s', v s' < v s → Inv s' → Sat (L m s') R) → Sat (L (m + 1) s) R) : ∀ m s, v s < m → Inv s → Sat (L m s) R
  | 0, _, h, _ => by omega
  | m + 1, s, h, hi => round m s hi fun s' h1 h2 => loop_dec L v Inv R round m s' (by omega) h2

theorem take_succ_get {α : Type} {l : List α} {i : Nat} (h : i < l.length) : l.take (i + 1) = l.take i ++ [l[i]] := by
  rw [List.take_add_one, List.getElem?_eq_getElem h]; rfl
/-- two ascending lists with the same elements are equal -/
theorem asc_ext : ∀ {a b : List Int}, a.Pairwise (· < ·) → b.Pairwise (· < ·) → (∀ x, x ∈ a ↔ x ∈ b) → a = b
  | [], [], _, _, _ => rfl
  | [], y :: b, _, _, h => by have := (h y).2 (by simp); cases this
  | x :: a, [], _, _, h => by have := (h x).1 (by simp); cases this
  | x :: a, y :: b, ha, hb, h => by
    obtain ⟨ha1, ha2⟩ := List.pairwise_cons.1 ha
    obtain ⟨hb1, hb2⟩ := List.pairwise_cons.1 hb
    have e : x = y := by
      rcases List.mem_cons.1 ((h x).1 (by simp)) with e | h1
      · exact e
      · rcases List.mem_cons.1 ((h y).2 (by simp)) with e | h2
        · exact e.symm
        · have := hb1 x h1; have := ha1 y h2; omega
    subst e
    rw [asc_ext ha2 hb2 fun z => ?_]
    constructor
    · intro hz
      rcases List.mem_cons.1 ((h z).1 (by simp [hz])) with e | h1
      · subst e; exact absurd (ha1 z hz) (by omega)
      · exact h1
    · intro hz
      rcases List.mem_cons.1 ((h z).2 (by simp [hz])) with e | h1
      · subst e; exact absurd (hb1 z hz) (by omega)
      · exact h1
theorem fp_mem {α β : Type} [DecidableEq α] (a : α) (L : List (α × β)) : (∃ i b, fp a L 0 = some (i, b) ∧ L[i]? = some (a, b)) ∨ (fp a L 0 = none ∧ a ∉ L.map (·.1)) := by
  cases h : fp a L 0 with
  | none => exact .inr ⟨rfl, fun h1 => by
      obtain ⟨p, h2, h3⟩ := List.mem_map.1 h1
      exact (fp_none a L).1 h p h2 h3⟩
  | some q => obtain ⟨i, b⟩ := q; exact .inl ⟨i, b, rfl, (fp_at a L 0 i b h).2⟩
theorem upL_keys {α β : Type} [DecidableEq α] (L : List (α × β)) (a : α) (b : β) : (upL L a b).map (·.1) = if a ∈ L.map (·.1) then L.map (·.1) else L.map (·.1) ++ [a] := by
  unfold upL
  rcases fp_mem a L with ⟨i, c, h1, h2⟩ | ⟨h1, h2⟩
  · have hm : a ∈ L.map (·.1) := List.mem_map.2 ⟨_, List.mem_of_getElem? h2, rfl⟩
    rw [h1, if_pos hm]
    show (L.set i (a, b)).map (·.1) = _
    rw [List.map_set]
    apply List.ext_getElem?
    intro j
    by_cases e : i = j
    · subst e
      have hlt := (List.getElem?_eq_some_iff.1 h2).1
      rw [List.getElem?_set_self (by simpa using hlt), List.getElem?_map, h2]; rfl
    · rw [List.getElem?_set_ne e]
  · rw [h1, if_neg h2]
    show (L ++ [(a, b)]).map (·.1) = _
    rw [List.map_append]; rfl
theorem upL_mem {α β : Type} [DecidableEq α] (L : List (α × β)) (a : α) (b : β) (x : α) : x ∈ (upL L a b).map (·.1) ↔ x = a ∨ x ∈ L.map (·.1) := by
  rw [upL_keys]
  split
  · constructor
    · exact .inr
    · rintro (rfl | h) <;> assumption
  · rw [List.mem_append, List.mem_singleton]; exact Or.comm
end Go.Proofs.Ytmbaennilhdieaa

/- The examples of the specification, by computation. -/
namespace Go.Proofs.Ytmbaennilhdieaa
open Go.RowKit

end Go.Proofs.Ytmbaennilhdieaa

/- Plain: references of a cell, on both sides. -/
namespace Go.Proofs.Ytmbaennilhdieaa
open Go.RowKit

theorem getE_nat {α : Type} (xs : List α) (i : Nat) : getE xs (i : Int) = xs[i]? := by
  unfold getE; rw [if_neg (by omega)]; simp
theorem req_pos {ρ : Type} {b : Prop} [Decidable b] {m : Option ρ} (h : b) : req b m = m := if_pos h
def hasB (v : DValue) : Bool := decide (v.Kind = 7) || decide (v.Kind = 9)
def strongB (k : Int) (i : Nat) : Bool := !decide (k = 8) && (!decide (k = 10) || decide ((i : Int).tmod 2 = 0))
def pick (f : Nat → DValue → Bool) : Nat → List DValue → List Int
  | _, [] => []
  | i, v :: l => (bif f i v then [v.N] else []) ++ pick f (i + 1) l
theorem pick_cons (f : Nat → DValue → Bool) (i : Nat) (v : DValue) (l : List DValue) : pick f i (v :: l) = (bif f i v then [v.N] else []) ++ pick f (i + 1) l := rfl
theorem pick_len (f : Nat → DValue → Bool) : ∀ (i : Nat) (l : List DValue), (pick f i l).length ≤ l.length
  | _, [] => Nat.le_refl _
  | i, v :: l => by
    have := pick_len f (i + 1) l
    unfold pick
    cases f i v <;> simp <;> omega
theorem cell_leads_spec (N : Nat) (v : DValue) : cell_leads_O N v = some (hasB v) := by
  unfold cell_leads_O hasB; cases decide (v.Kind = 7) <;> rfl
theorem body_spec (N : Nat) (a b : Bool) (x : DValue) (p : List Int) (h : p.length ≤ 5000) : liftR (fun x st => cell_addresses_b8 N a x st) (b, x) (none, p) = some (true, (none, p ++ (bif (b == a) && hasB x then [x.N] else []))) := by
  unfold liftR cell_addresses_b8
  simp only [cell_leads_spec, Option.bind_some]
  cases b == a
  · simp
  · cases hasB x
    · simp
    · have : fitsL (p.length + [x.N].length) := by unfold fitsL; simp only [List.length_cons, List.length_nil]; omega
      simp only [cond_true, Option.bind_some, Bool.and_self]
      rw [req_pos this]
      rfl
theorem all_l15 (N : Nat) (a : Bool) (c : DCell) (hc : c.More.length ≤ 1000) (K : Nat) (hK : K ≤ 1000) : ∀ (m i : Nat) (p : List Int), c.More.length < m + i → i ≤ c.More.length → p.length ≤ K + i → cell_all_c1_l15 N (liftR (fun x st => cell_addresses_b8 N a x st)) c m (i : Int) (none, p) = some (none, p ++ pick (fun i v => (strongB c.Kind i == a) && hasB v) i (c.More.drop i))
  | 0, i, p, h, h2, _ => by omega
  | m + 1, i, p, h, h2, h3 => by
    rw [cell_all_c1_l15_s]
    by_cases hi : i < c.More.length
    · rw [show (decide ((i : Int) < (c.More.length : Int))) = true from decide_eq_true (by omega), getE_nat, List.getElem?_eq_getElem hi, List.drop_eq_getElem_cons hi]
      simp only [cond_true, Option.bind_some]
      have hs : (bif !decide (c.Kind = 8) then ((bif !decide (c.Kind = 10) then (some true) else (some (decide ((i : Int).tmod 2 = 0)))).bind fun b22 => some b22) else (some false)) = some (strongB c.Kind i) := by
        unfold strongB; cases decide (c.Kind = 8) <;> cases decide (c.Kind = 10) <;> rfl
      rw [hs]
      simp only [Option.bind_some]
      rw [body_spec N a _ _ _ (by omega)]
      rw [Option.bind_some]
      dsimp only
      rw [Bool.not_true, cond_false]
      rw [req_pos (by unfold in64; omega)]
      have hlen : (p ++ (bif (strongB c.Kind i == a) && hasB c.More[i] then [c.More[i].N] else [])).length ≤ K + (i + 1) := by
        cases (strongB c.Kind i == a) && hasB c.More[i] <;> simp <;> omega
      have := all_l15 N a c hc K hK m (i + 1) _ (by omega) hi hlen
      simp only [Int.natCast_add, Int.cast_ofNat_Int] at this
      rw [this]
      rw [pick_cons, List.append_assoc]
    · rw [show (decide ((i : Int) < (c.More.length : Int))) = false from decide_eq_false (by omega), List.drop_eq_nil_of_le (by omega)]
      simp [pick]
theorem all_l6 (N : Nat) (hN : 2000 < N) (a : Bool) (c : DCell) (hS : c.Slots.length ≤ 1000) (hc : c.More.length ≤ 1000) : ∀ (m i : Nat) (p : List Int), c.Slots.length < m + i → i ≤ c.Slots.length → p.length ≤ i → cell_all_c1_l6 N (liftR (fun x st => cell_addresses_b8 N a x st)) c m (i : Int) (none, p) = some (none, (p ++ pick (fun _ v => (true == a) && hasB v) i (c.Slots.drop i)) ++ pick (fun i v => (strongB c.Kind i == a) && hasB v) 0 c.More)
  | 0, i, p, h, h2, _ => by omega
  | m + 1, i, p, h, h2, h3 => by
    rw [cell_all_c1_l6_s]
    by_cases hi : i < c.Slots.length
    · rw [show (decide ((i : Int) < (c.Slots.length : Int))) = true from decide_eq_true (by omega), getE_nat, List.getElem?_eq_getElem hi, List.drop_eq_getElem_cons hi]
      simp only [cond_true, Option.bind_some]
      rw [body_spec N a _ _ _ (by omega)]
      rw [Option.bind_some]
      dsimp only
      rw [Bool.not_true, cond_false]
      rw [req_pos (by unfold in64; omega)]
      have hlen : (p ++ (bif (true == a) && hasB c.Slots[i] then [c.Slots[i].N] else [])).length ≤ (i + 1) := by
        cases (true == a) && hasB c.Slots[i] <;> simp <;> omega
      have := all_l6 N hN a c hS hc m (i + 1) _ (by omega) hi hlen
      simp only [Int.natCast_add, Int.cast_ofNat_Int] at this
      rw [this]
      rw [pick_cons, List.append_assoc p]
    · rw [show (decide ((i : Int) < (c.Slots.length : Int))) = false from decide_eq_false (by omega), List.drop_eq_nil_of_le (by omega)]
      simp only [cond_false, cell_all_c1_j4]
      have := all_l15 N a c hc p.length (by omega) N 0 p (by omega) (by omega) (by omega)
      simp only [Int.natCast_zero, Int.cast_ofNat_Int] at this
      rw [this]
      simp [pick]
theorem addresses_spec (N : Nat) (hN : 2000 < N) (a : Bool) (c : DCell) (hS : c.Slots.length ≤ 1000) (hc : c.More.length ≤ 1000) : cell_addresses_O N c a = some (pick (fun _ v => (true == a) && hasB v) 0 c.Slots ++ pick (fun i v => (strongB c.Kind i == a) && hasB v) 0 c.More) := by
  unfold cell_addresses_O cell_all_O cell_all_c1_O
  have := all_l6 N hN a c hS hc N 0 [] (by omega) (by omega) (by simp)
  simp only [Int.natCast_zero, Int.cast_ofNat_Int] at this
  rw [Option.bind_some, this, Option.bind_some]
  show some _ = some _
  simp
def weakB (k : Int) (i : Nat) : Bool := decide (k = 8) || (decide (k = 10) && (decide (0 < (i : Int)) && decide ((((i : Int) - 1).tmod 4).tmod 2 = 0)))
theorem strong_weak (k : Int) (i : Nat) : strongB k i = !weakB k i := by
  unfold strongB weakB
  by_cases h8 : k = 8
  · subst h8; rfl
  · by_cases h10 : k = 10
    · subst h10
      have e0 : (i : Int).tmod 2 = (i : Int) % 2 := Int.tmod_eq_emod_of_nonneg (by omega)
      by_cases hi : (0 : Int) < i
      · have e1 : ((i : Int) - 1).tmod 4 = ((i : Int) - 1) % 4 := Int.tmod_eq_emod_of_nonneg (by omega)
        have e2 : (((i : Int) - 1) % 4).tmod 2 = (((i : Int) - 1) % 4) % 2 := Int.tmod_eq_emod_of_nonneg (by omega)
        rw [e0, e1, e2]
        by_cases h : (i : Int) % 2 = 0
        · have h2 : ¬ (((i : Int) - 1) % 4) % 2 = 0 := by omega
          rw [decide_eq_true h, decide_eq_false h2, decide_eq_true hi]; rfl
        · have h2 : (((i : Int) - 1) % 4) % 2 = 0 := by omega
          rw [decide_eq_false h, decide_eq_true h2, decide_eq_true hi]; rfl
      · have : i = 0 := by omega
        subst this; rfl
    · simp [h8, h10]
def leadsL (c : DCell) : List Int := pick (fun _ v => hasB v) 0 c.Slots ++ pick (fun i v => !weakB c.Kind i && hasB v) 0 c.More
theorem leads_prog (N : Nat) (hN : 2000 < N) (c : DCell) (hS : c.Slots.length ≤ 1000) (hc : c.More.length ≤ 1000) : cell_Leads_O N c = some (leadsL c) := by
  unfold cell_Leads_O leadsL
  rw [addresses_spec N hN true c hS hc, bs]
  have e1 : (fun (_ : Nat) (v : DValue) => (true == true) && hasB v) = fun _ v => hasB v := by funext i v; rfl
  have e2 : (fun (i : Nat) (v : DValue) => (strongB c.Kind i == true) && hasB v) = fun i v => !weakB c.Kind i && hasB v := by funext i v; rw [strong_weak]; cases weakB c.Kind i <;> rfl
  rw [e1, e2]
theorem leadsL_len (c : DCell) : (leadsL c).length ≤ c.Slots.length + c.More.length := by
  unfold leadsL
  have h1 := pick_len (fun _ v => hasB v) 0 c.Slots
  have h2 := pick_len (fun i v => !weakB c.Kind i && hasB v) 0 c.More
  rw [List.length_append]; omega
theorem pick_mem {f : Nat → DValue → Bool} {x : Int} : ∀ {i : Nat} {l : List DValue}, x ∈ pick f i l → ∃ v ∈ l, v.N = x
  | _, [], h => by cases h
  | i, v :: l, h => by
    rw [pick_cons, List.mem_append] at h
    rcases h with h | h
    · cases hf : f i v
      · rw [hf] at h; cases h
      · rw [hf] at h; exact ⟨v, by simp, (List.mem_singleton.1 h).symm⟩
    · obtain ⟨w, h1, h2⟩ := pick_mem h
      exact ⟨w, by simp [h1], h2⟩
theorem leadsL_mem {c : DCell} {x : Int} (h : x ∈ leadsL c) : ∃ v ∈ c.Slots ++ c.More, v.N = x := by
  unfold leadsL at h
  rcases List.mem_append.1 h with h | h
  · obtain ⟨v, h1, h2⟩ := pick_mem h; exact ⟨v, by simp [h1], h2⟩
  · obtain ⟨v, h1, h2⟩ := pick_mem h; exact ⟨v, by simp [h1], h2⟩
end Go.Proofs.Ytmbaennilhdieaa

/- Plain: cells at addresses, on both sides. -/
namespace Go.Proofs.Ytmbaennilhdieaa
open Go.RowKit

def zeroC : DCell := ⟨0, 0, 0, 0, [], []⟩
def cellAt (m : DMemory) (a : Int) : Option DCell := if a < 1 then none else if a % 2 = 1 then m.Young[((a - 1) / 2).toNat]? else m.Old[((a - 2) / 2).toNat]?
def hasM (m : DMemory) (a : Int) : Bool := (cellAt m a).isSome
def atM (m : DMemory) (a : Int) : DCell := (cellAt m a).getD zeroC
/-- lengths that the examples of the law admit -/
structure Small (m : DMemory) (roots : List DValue) : Prop where
  young : m.Young.length ≤ 600
  old : m.Old.length ≤ 600
  roots : roots.length ≤ 600
  cells : ∀ c ∈ m.Young ++ m.Old, c.Slots.length ≤ 600 ∧ c.More.length ≤ 600
theorem cellAt_mem {m : DMemory} {a : Int} {c : DCell} (h : cellAt m a = some c) : c ∈ m.Young ++ m.Old := by
  unfold cellAt at h
  split at h
  · cases h
  · split at h
    · exact List.mem_append_left _ (List.mem_of_getElem? h)
    · exact List.mem_append_right _ (List.mem_of_getElem? h)
theorem Small.at_ {m : DMemory} {roots : List DValue} (h : Small m roots) (a : Int) : (atM m a).Slots.length ≤ 600 ∧ (atM m a).More.length ≤ 600 := by
  unfold atM
  cases hc : cellAt m a with
  | none => exact ⟨by simp [zeroC], by simp [zeroC]⟩
  | some c => exact h.cells c (cellAt_mem hc)
theorem hasM_pos {m : DMemory} {a : Int} (h : hasM m a = true) : 0 < a := by
  unfold hasM cellAt at h
  split at h
  · cases h
  · omega
theorem hasM_le {m : DMemory} {roots : List DValue} (hs : Small m roots) {a : Int} (h : hasM m a = true) : a ≤ 1200 := by
  have h1 := hs.young; have h2 := hs.old
  unfold hasM cellAt at h
  split at h
  · cases h
  · split at h
    · have := (List.getElem?_eq_some_iff.1 (Option.isSome_iff_exists.1 h).choose_spec).1
      omega
    · have := (List.getElem?_eq_some_iff.1 (Option.isSome_iff_exists.1 h).choose_spec).1
      omega
theorem tdiv2 {a : Int} (h : 0 ≤ a) : a.tdiv 2 = a / 2 := Int.tdiv_eq_ediv_of_nonneg h
theorem tmod2 {a : Int} (h : 0 ≤ a) : a.tmod 2 = a % 2 := Int.tmod_eq_emod_of_nonneg h
theorem isSome_lt {α : Type} (l : List α) (i : Nat) : (l[i]?).isSome = decide ((i : Int) < (l.length : Int)) := by
  by_cases h : i < l.length
  · rw [List.getElem?_eq_getElem h, decide_eq_true (by omega)]; rfl
  · rw [List.getElem?_eq_none (by omega), decide_eq_false (by omega)]; rfl
/-- which row, and which place in it -/
theorem addr_cases (m : DMemory) (a : Int) : (a < 1 ∧ cellAt m a = none) ∨ (∃ k : Nat, a = 2 * (k : Int) + 1 ∧ cellAt m a = m.Young[k]?) ∨ (∃ k : Nat, a = 2 * (k : Int) + 2 ∧ cellAt m a = m.Old[k]?) := by
  by_cases h : a < 1
  · exact .inl ⟨h, by unfold cellAt; rw [if_pos h]⟩
  · by_cases h2 : a % 2 = 1
    · refine .inr (.inl ⟨((a - 1) / 2).toNat, by omega, ?_⟩)
      unfold cellAt; rw [if_neg h, if_pos h2]
    · refine .inr (.inr ⟨((a - 2) / 2).toNat, by omega, ?_⟩)
      unfold cellAt; rw [if_neg h, if_neg h2]
theorem tdiv_in64 {a : Int} (h : in64 a) : -4611686018427387904 ≤ a.tdiv 2 ∧ a.tdiv 2 ≤ 4611686018427387904 := by
  unfold in64 at h
  by_cases h0 : 0 ≤ a
  · rw [tdiv2 h0]; omega
  · have h1 : (-a).tdiv 2 = -(a.tdiv 2) := Int.neg_tdiv a 2
    rw [tdiv2 (by omega)] at h1
    omega
theorem place_spec (N : Nat) (m : DMemory) (a : Int) (h : in64 a) : Sat (reach_place_O N m a) fun r => r.2.2 = hasM m a ∧ (hasM m a = true → getE r.1 r.2.1 = cellAt m a) := by
  have hd := tdiv_in64 h
  unfold reach_place_O
  rw [r64 (by omega) (by omega)]
  unfold reach_place_j5 hasM
  rcases addr_cases m a with ⟨h1, h2⟩ | ⟨k, h1, h2⟩ | ⟨k, h1, h2⟩
  · rw [h2]
    refine sat_dec (fun _ => ?_) fun _ => ?_
    · rw [r64 (by omega) (by omega), r64 (by omega) (by omega), lt_f (a := 0) (b := a) (by omega), cf, bs]
      exact sat_some ⟨rfl, fun h => by cases h⟩
    · rw [lt_f (a := 0) (b := a) (by omega), cf, bs]
      exact sat_some ⟨rfl, fun h => by cases h⟩
  · subst h1
    rw [h2, tmod2 (by omega), tdiv2 (by omega), eq_f (by omega), cf, lt_t (by omega), ct, bs, show (2 * (k : Int) + 1) / 2 = k by omega]
    exact sat_some ⟨(isSome_lt _ _).symm, fun _ => getE_nat _ _⟩
  · subst h1
    rw [h2, tmod2 (by omega), tdiv2 (by omega), eq_t (by omega), ct, lt_t (by omega), ct, bs, show (2 * (k : Int) + 2) / 2 - 1 = k by omega]
    rw [r64 (by omega) (by omega), r64 (by omega) (by omega)]
    exact sat_some ⟨(isSome_lt _ _).symm, fun _ => getE_nat _ _⟩
theorem has_prog (N : Nat) (m : DMemory) (a : Int) (h : in64 a) : reach_Has_O N m a = some (hasM m a) := by
  obtain ⟨r, h1, h2, -⟩ := place_spec N m a h
  unfold reach_Has_O
  rw [h1, bs, h2]
theorem copy_spec (N : Nat) (c : DCell) (h : c.Slots.length ≤ 600 ∧ c.More.length ≤ 600) : cell_Copy_O N c = some c := by
  unfold cell_Copy_O slices_Clone_O
  rw [rF (by simp; omega), bs, rF (by simp; omega), bs]
  rfl
theorem at_prog (N : Nat) {m : DMemory} {roots : List DValue} (hs : Small m roots) (a : Int) (h : in64 a) : reach_At_O N m a = some (atM m a) := by
  obtain ⟨r, h1, h2, h3⟩ := place_spec N m a h
  unfold reach_At_O atM
  rw [h1, bs, h2]
  unfold hasM at *
  cases hc : cellAt m a with
  | none => rfl
  | some c =>
    have h4 := h3 (by rw [hc]; rfl)
    rw [hc] at h4
    have h5 := copy_spec N c (hs.cells c (cellAt_mem hc))
    simp only [Option.isSome_some, nt, cf, h4, bs, h5]
    rfl
end Go.Proofs.Ytmbaennilhdieaa

/- Plain: a valid cell, on both sides. -/
namespace Go.Proofs.Ytmbaennilhdieaa
open Go.RowKit

theorem has_props (N : Nat) (k : Int) : cell_has_O N k = pantomimeref15_Props_O N k := by
  unfold cell_has_O pantomimeref15_Props_O cell_has_j1
  by_cases h1 : k = 1
  · subst h1; rfl
  by_cases h2 : k = 2
  · subst h2; rfl
  by_cases h3 : k = 3
  · subst h3; rfl
  by_cases h6 : k = 6
  · subst h6; rfl
  by_cases h8 : k = 8
  · subst h8; rfl
  by_cases h9 : k = 9
  · subst h9; rfl
  by_cases h10 : k = 10
  · subst h10; rfl
  rw [eq_f h1, eq_f h2, eq_f h3, eq_f h6, eq_f h8, eq_f h9, eq_f h10]; rfl
theorem slots_eq (N : Nat) (c : DCell) : cell_slotsRight_O N c = pantomimeref15_slots_O N c := by
  unfold cell_slotsRight_O pantomimeref15_slots_O
  rw [has_props]; rfl
theorem may_eq (N : Nat) (v : DValue) : cell_may_O N v = pantomimeref15_May_O N v := by
  unfold cell_may_O pantomimeref15_May_O cell_may_j9
  by_cases h5 : v.Kind = 5
  · rw [h5]; rfl
  rw [eq_f h5]
  simp only [cf]
  by_cases hr : v.Kind < 0 ∨ 9 < v.Kind
  · have h2 : v.Kind ≠ 2 := by omega
    have h3 : v.Kind ≠ 3 := by omega
    have h6 : v.Kind ≠ 6 := by omega
    have h7 : v.Kind ≠ 7 := by omega
    have h9 : v.Kind ≠ 9 := by omega
    have e1 : ((bif decide (v.Kind < 0) then (some true) else (some (decide (9 < v.Kind)))) : Option Bool) = some true := by
      rcases hr with h | h
      · rw [lt_t h]; rfl
      · rw [lt_t (a := 9) h]; cases decide (v.Kind < 0) <;> rfl
    rw [e1, bs, ct, eq_f h2, eq_f h3, eq_f h6, eq_f h7, eq_f h9]
    simp only [cf]
    have e2 : (((bif decide (v.N = 0) then (some (decide (0 ≤ v.Kind))) else (some false)).bind fun b14 => (bif b14 then (some (decide (v.Kind ≤ 9))) else (some false)).bind fun b15 => some b15) : Option Bool) = some false := by
      cases decide (v.N = 0)
      · rfl
      · rcases hr with h | h
        · rw [le_f (a := 0) (b := v.Kind) (by omega)]; rfl
        · rw [le_f (a := v.Kind) (b := 9) (by omega)]; cases decide (0 ≤ v.Kind) <;> rfl
    rw [e2]
    cases s : (v.S.toList == (⟨#[]⟩ : ByteArray).toList) <;> rfl
  · have e1 : ((bif decide (v.Kind < 0) then (some true) else (some (decide (9 < v.Kind)))) : Option Bool) = some false := by
      rw [lt_f (a := v.Kind) (b := 0) (by omega), lt_f (a := 9) (b := v.Kind) (by omega)]; rfl
    rw [e1, bs, cf]
    cases hs : (v.S.toList == (⟨#[]⟩ : ByteArray).toList)
    · rfl
    · simp only [nt, cf]
      by_cases h2 : v.Kind = 2
      · rw [h2]; rfl
      rw [eq_f h2]; simp only [cf]
      by_cases h3 : v.Kind = 3
      · rw [h3]; rfl
      rw [eq_f h3]; simp only [cf]
      by_cases h6 : v.Kind = 6
      · rw [h6]; rfl
      rw [eq_f h6]; simp only [cf]
      by_cases h7 : v.Kind = 7
      · rw [h7]; rfl
      rw [eq_f h7]; simp only [cf]
      by_cases h9 : v.Kind = 9
      · rw [h9]; rfl
      rw [eq_f h9, le_t (a := 0) (by omega), le_t (a := v.Kind) (by omega)]
      cases decide (v.N = 0) <;> rfl
theorem may_some (N : Nat) (v : DValue) : ∃ b, pantomimeref15_May_O N v = some b := by
  unfold pantomimeref15_May_O
  cases decide (v.Kind < 0) <;> cases decide (9 < v.Kind) <;> cases decide (v.Kind = 5) <;> cases decide (v.N = 0) <;> cases (v.S.toList == (⟨#[]⟩ : ByteArray).toList) <;> cases decide (v.Kind = 2) <;> cases decide (v.Kind = 3) <;> cases decide ((-9007199254740992) ≤ v.N) <;> cases decide (v.Kind = 6) <;> cases decide (v.Kind = 7) <;> cases decide (v.Kind = 9) <;> exact ⟨_, rfl⟩
/-- entries of a fixed size: by pieces, and by places -/
theorem entries_loop (N : Nat) (k : Nat) (hk : k = 2 ∨ k = 4) (l : List DValue) (hl : l.length ≤ 1000) : ∀ (m i : Nat), l.length < m + i → i ≤ l.length → (l.length - i) % k = 0 → ∃ b, pantomimeref15_entries_l5 N (k : Int) l m (i : Int) = some b ∧
    slices_Chunk_l4 N (liftR (fun x st => cell_entriesRight_b9 N (k : Int) x st)) l (k : Int) m (i : Int) (none, ()) = some (bif b then (none, ()) else (some .ret, ()))
  | 0, i, h, h2, _ => by omega
  | m + 1, i, h, h2, h3 => by
    by_cases hi : i < l.length
    · have hik : i + k ≤ l.length := by
        rcases hk with rfl | rfl <;> omega
      have hmin : (min (k : Int) (((l.drop (i : Int).toNat).take (l.length - (i : Int).toNat)).length : Int)) = k := by
        rw [List.length_take, List.length_drop, Int.toNat_natCast]; omega
      have hto : ((i : Int) + (k : Int)).toNat = i + k := by omega
      have hx : ∀ j, j < k → getE ((l.drop i).take k) (j : Int) = l[i + j]? := fun j hj => by
        rw [getE_nat, List.getElem?_take, if_pos hj, List.getElem?_drop]
      have hk0 := hx 0 (by omega)
      have hk1 := hx 1 (by omega)
      rw [List.getElem?_eq_getElem (by omega)] at hk0 hk1
      have hl0 : getE l (i : Int) = some l[i] := getE_n hi
      have hl1 : getE l ((i : Int) + 1) = some (l[i + 1]'(by omega)) := by
        have := getE_n (xs := l) (i := i + 1) (by omega)
        simpa using this
      obtain ⟨b, hb1, hb2⟩ := entries_loop N k hk l hl m (i + k) (by omega) hik (by rcases hk with rfl | rfl <;> omega)
      simp only [Int.natCast_add] at hb1 hb2
      have fin : ∀ b', (bif b' then some false else req (in64 ((i : Int) + (k : Int))) (pantomimeref15_entries_l5 N (k : Int) l m ((i : Int) + (k : Int)))) = some (bif b' then false else b) := fun b' => by
        cases b'
        · rw [cf, r64 (by omega) (by omega), hb1]; rfl
        · rfl
      have fin2 : ∀ b' : Bool, ((bif b' then (some (some Exit.ret, ())) else (some (none, ())) : Option (Option Exit × Unit)).map fun r => (r.1.isNone, r)) = some (!b', (bif b' then some Exit.ret else none, ())) := fun b' => by cases b' <;> rfl
      have goal : ∀ b', ((some (!b', ((bif b' then some Exit.ret else none : Option Exit), ())) : Option (Bool × (Option Exit × Unit))).bind fun y14 => bif !y14.1 then (some y14.2) else (req (in64 ((i : Int) + (k : Int))) ((slices_Chunk_l4 N (liftR (fun x st => cell_entriesRight_b9 N (k : Int) x st)) l (k : Int) m) ((i : Int) + (k : Int)) y14.2))) = some (bif (bif b' then false else b) then (none, ()) else (some .ret, ())) := fun b' => by
        cases b'
        · rw [bs]
          simp only [nf, nt, cf]
          rw [r64 (by omega) (by omega)]
          exact hb2
        · rfl
      have lift : ∀ (x : List DValue) (b' : Bool), cell_entriesRight_b9 N (k : Int) x () = (bif b' then (some (some Exit.ret, ())) else (some (none, ()))) → liftR (fun x st => cell_entriesRight_b9 N (k : Int) x st) x (none, ()) = some (!b', (bif b' then some Exit.ret else none, ())) := fun x b' hb => by
        unfold liftR
        simp only [hb]
        exact fin2 b'
      have key : ∃ b', ((getE l (i : Int)).bind fun x8 => (bif !decide (x8.Kind = 7) then (some true) else (req (in64 ((i : Int) + 1)) ((getE l ((i : Int) + 1)).bind fun x11 => some (decide (x11.Kind = 8))))).bind fun b9 => bif b9 then (some false) else ((bif decide ((k : Int) = 4) then (req (in64 ((i : Int) + 2)) ((getE l ((i : Int) + 2)).bind fun x15 => (pantomimeref15_none_O N x15 7).bind fun y16 => (bif !y16 then (some true) else (req (in64 ((i : Int) + 3)) ((getE l ((i : Int) + 3)).bind fun x19 => (pantomimeref15_num_O N x19 0 9007199254740992).bind fun y20 => some (!y20)))).bind fun b17 => some b17)) else (some false)).bind fun b13 => bif b13 then (some false) else (req (in64 ((i : Int) + (k : Int))) ((pantomimeref15_entries_l5 N (k : Int) l m) ((i : Int) + (k : Int)))))) = some (bif b' then false else b) ∧ cell_entriesRight_b9 N (k : Int) ((l.drop i).take k) () = (bif b' then (some (some Exit.ret, ())) else (some (none, ()))) := by
        unfold cell_entriesRight_b9
        simp only [Int.cast_ofNat_Int, Int.natCast_zero, Int.natCast_one] at hk0 hk1
        rw [hl0, bs, r64 (a := (i : Int) + 1) (by omega) (by omega), hl1, bs]
        have hk0' : getE ((l.drop i).take k) 0 = some l[i] := hk0
        have hk1' : getE ((l.drop i).take k) 1 = some (l[i + 1]'(by omega)) := hk1
        simp only [hk0', bs, hk1']
        cases h7 : (!decide (l[i].Kind = 7))
        · simp only [cf, bs]
          cases h8 : decide ((l[i + 1]'(by omega)).Kind = 8)
          · simp only [cf]
            rcases hk with rfl | rfl
            · simp only [show decide (((2 : Nat) : Int) = 4) = false from rfl, cf, bs]
              have f := fin false
              rw [cf] at f
              refine ⟨false, ?_, rfl⟩
              exact f
            · have hk2 := hx 2 (by omega)
              have hk3 := hx 3 (by omega)
              rw [List.getElem?_eq_getElem (by omega)] at hk2 hk3
              have hk2' : getE ((l.drop i).take 4) 2 = some (l[i + 2]'(by omega)) := hk2
              have hk3' : getE ((l.drop i).take 4) 3 = some (l[i + 3]'(by omega)) := hk3
              have hl2 : getE l ((i : Int) + 2) = some (l[i + 2]'(by omega)) := by
                have := getE_n (xs := l) (i := i + 2) (by omega)
                simpa using this
              have hl3 : getE l ((i : Int) + 3) = some (l[i + 3]'(by omega)) := by
                have := getE_n (xs := l) (i := i + 3) (by omega)
                simpa using this
              simp only [show decide (((4 : Nat) : Int) = 4) = true from rfl, ct]
              rw [r64 (a := (i : Int) + 2) (by omega) (by omega), hl2, bs, hk2', bs, r64 (a := (i : Int) + 3) (by omega) (by omega), hl3, bs, hk3']
              have en : ∀ v, cell_orNone_O N v 7 = pantomimeref15_none_O N v 7 := fun v => rfl
              have em : ∀ v, cell_number_O N v 0 9007199254740992 = pantomimeref15_num_O N v 0 9007199254740992 := fun v => rfl
              have hn : ∃ b1, pantomimeref15_none_O N (l[i + 2]'(by omega)) 7 = some b1 := by unfold pantomimeref15_none_O; cases decide ((l[i + 2]'(by omega)).Kind = 0) <;> exact ⟨_, rfl⟩
              have hm : ∃ b1, pantomimeref15_num_O N (l[i + 3]'(by omega)) 0 9007199254740992 = some b1 := by unfold pantomimeref15_num_O; cases decide ((l[i + 3]'(by omega)).Kind = 3) <;> cases decide (0 ≤ (l[i + 3]'(by omega)).N) <;> exact ⟨_, rfl⟩
              obtain ⟨b1, hn⟩ := hn
              obtain ⟨b2, hm⟩ := hm
              simp only [bs, en, em, hn, hm]
              cases b1
              · simp only [nf, ct, bs]
                exact ⟨true, rfl, rfl⟩
              · simp only [nt, cf, bs]
                exact ⟨!b2, fin (!b2), by cases b2 <;> rfl⟩
          · exact ⟨true, rfl, rfl⟩
        · exact ⟨true, rfl, rfl⟩
      obtain ⟨b', e1, e2⟩ := key
      refine ⟨bif b' then false else b, ?_, ?_⟩
      · rw [pantomimeref15_entries_l5_s, lt_t (by omega), ct]
        exact e1
      · rw [slices_Chunk_l4_s, lt_t (by omega), ct, hmin, req_t (show (0 : Int) ≤ (i : Int) ∧ (i : Int).toNat ≤ l.length ∧ l.length ≤ l.length from ⟨by omega, by omega, Nat.le_refl _⟩), r64 (a := (i : Int) + (k : Int)) (by omega) (by omega), r64 (a := (i : Int) + (k : Int)) (by omega) (by omega)]
        rw [req_t (show (0 : Int) ≤ (i : Int) ∧ (0 : Int) ≤ (i : Int) + (k : Int) ∧ (i : Int).toNat ≤ ((i : Int) + (k : Int)).toNat ∧ ((i : Int) + (k : Int)).toNat ≤ l.length from ⟨by omega, by omega, by omega, by omega⟩), hto, Int.toNat_natCast, show i + k - i = k by omega, lift _ b' e2]
        exact goal b'
    · rw [pantomimeref15_entries_l5_s, slices_Chunk_l4_s, lt_f (by omega), cf, cf]
      exact ⟨true, rfl, rfl⟩
theorem entries_eq (N : Nat) (hN : 2000 < N) (k : Nat) (hk : k = 2 ∨ k = 4) (l : List DValue) (hl : l.length ≤ 1000) : ∃ b, cell_entriesRight_O N l (k : Int) = some b ∧ pantomimeref15_entries_O N l (k : Int) = some b ∧ (b = true → l.length % k = 0) := by
  unfold cell_entriesRight_O pantomimeref15_entries_O
  have hk0 : (k : Int) ≠ 0 := by rcases hk with rfl | rfl <;> decide
  rw [req_t hk0, req_t hk0]
  have ht : (l.length : Int).tmod (k : Int) = ((l.length % k : Nat) : Int) := by
    rw [Int.tmod_eq_emod_of_nonneg (by omega)]; rfl
  rw [ht]
  by_cases h : l.length % k = 0
  · rw [eq_t (by omega)]
    obtain ⟨b, h1, h2⟩ := entries_loop N k hk l hl N 0 (by omega) (by omega) (by simpa using h)
    have e : slices_Chunk_157_O N l (k : Int) = some () := by
      unfold slices_Chunk_157_O; rw [lt_f (by rcases hk with rfl | rfl <;> omega), cf]
    unfold slices_Chunk_O
    simp only [nt, cf, e, bs]
    have h1' : pantomimeref15_entries_l5 N (k : Int) l N 0 = some b := h1
    have h2' : slices_Chunk_l4 N (liftR (fun x st => cell_entriesRight_b9 N (k : Int) x st)) l (k : Int) N 0 (none, ()) = some (bif b then (none, ()) else (some .ret, ())) := h2
    rw [h1', h2', bs]
    exact ⟨b, by cases b <;> rfl, rfl, fun _ => h⟩
  · rw [eq_f (by omega)]
    exact ⟨false, rfl, rfl, fun h => by cases h⟩
end Go.Proofs.Ytmbaennilhdieaa

/- Plain: valid cells and weak maps, on both sides. -/
namespace Go.Proofs.Ytmbaennilhdieaa
open Go.RowKit

theorem more_eq (N : Nat) (hN : 2000 < N) (c : DCell) (hc : c.More.length ≤ 1000) : cell_moreRight_O N c.Kind c.More = pantomimeref15_more_O N c := by
  obtain ⟨b2, h2, h2', -⟩ := entries_eq N hN 2 (.inl rfl) c.More hc
  obtain ⟨b4, h4, h4', -⟩ := entries_eq N hN 4 (.inr rfl) ((c.More.drop ((1 : Int).toNat)).take (c.More.length - (1 : Int).toNat)) (by rw [List.length_take, List.length_drop]; omega)
  have e2 : cell_entriesRight_O N c.More 2 = pantomimeref15_entries_O N c.More 2 := h2.trans h2'.symm
  have e4 : cell_entriesRight_O N ((c.More.drop ((1 : Int).toNat)).take (c.More.length - (1 : Int).toNat)) 4 = pantomimeref15_entries_O N ((c.More.drop ((1 : Int).toNat)).take (c.More.length - (1 : Int).toNat)) 4 := h4.trans h4'.symm
  unfold cell_moreRight_O pantomimeref15_more_O cell_moreRight_j4 pantomimeref15_more_j6
  rw [e2, e4]
  rfl
theorem may_lift (N : Nat) (c : DCell) (b : Bool) (v : DValue) : ∃ y, pantomimeref15_May_O N v = some y ∧ liftR (fun x st => cell_Right_b14 N c x st) (b, v) (none, ()) = some (y, (bif y then none else some Exit.ret, ())) := by
  obtain ⟨y, hy⟩ := may_some N v
  refine ⟨y, hy, ?_⟩
  unfold liftR cell_Right_b14
  simp only [may_eq, hy, bs]
  cases y <;> rfl
theorem right_more (N : Nat) (c : DCell) (hc : c.More.length ≤ 1000) : ∀ (m i : Nat), c.More.length < m + i → i ≤ c.More.length → ∃ b, pantomimeref15_Right_l20 N c m (i : Int) = (bif b then pantomimeref15_Right_j19 N c else some false) ∧
    cell_all_c1_l15 N (liftR (fun x st => cell_Right_b14 N c x st)) c m (i : Int) (none, ()) = some (bif b then none else some Exit.ret, ())
  | 0, i, h, h2 => by omega
  | m + 1, i, h, h2 => by
    rw [pantomimeref15_Right_l20_s, cell_all_c1_l15_s]
    by_cases hi : i < c.More.length
    · rw [lt_t (by omega), ct, ct, getE_n hi, bs, bs]
      have hs : (bif !decide (c.Kind = 8) then ((bif !decide (c.Kind = 10) then (some true) else (some (decide ((i : Int).tmod 2 = 0)))).bind fun b22 => some b22) else (some false)) = some (strongB c.Kind i) := by
        unfold strongB; cases decide (c.Kind = 8) <;> cases decide (c.Kind = 10) <;> rfl
      obtain ⟨y, h3, h4⟩ := may_lift N c (strongB c.Kind i) c.More[i]
      rw [hs, bs, h3, h4, bs, bs]
      cases y
      · simp only [nf, nt, ct, cf]
        exact ⟨false, cf.symm, by rw [cf]⟩
      · obtain ⟨b, h5, h6⟩ := right_more N c hc m (i + 1) (by omega) hi
        simp only [Int.natCast_add, Int.cast_ofNat_Int] at h5 h6
        simp only [nt, cf, ct]
        rw [r64 (by omega) (by omega), r64 (by omega) (by omega)]
        exact ⟨b, h5, h6⟩
    · rw [lt_f (by omega), cf, cf]
      exact ⟨true, ct.symm, by rw [ct]⟩
theorem right_slots (N : Nat) (hN : 2000 < N) (c : DCell) (hS : c.Slots.length ≤ 1000) (hc : c.More.length ≤ 1000) : ∀ (m i : Nat), c.Slots.length < m + i → i ≤ c.Slots.length → ∃ b, pantomimeref15_Right_l12 N c m (i : Int) = (bif b then pantomimeref15_Right_j19 N c else some false) ∧
    cell_all_c1_l6 N (liftR (fun x st => cell_Right_b14 N c x st)) c m (i : Int) (none, ()) = some (bif b then none else some Exit.ret, ())
  | 0, i, h, h2 => by omega
  | m + 1, i, h, h2 => by
    rw [pantomimeref15_Right_l12_s, cell_all_c1_l6_s]
    by_cases hi : i < c.Slots.length
    · rw [lt_t (by omega), ct, ct, getE_n hi, bs, bs]
      obtain ⟨y, h3, h4⟩ := may_lift N c true c.Slots[i]
      rw [h3, h4, bs, bs]
      cases y
      · simp only [nf, nt, ct, cf]
        exact ⟨false, cf.symm, by rw [cf]⟩
      · obtain ⟨b, h5, h6⟩ := right_slots N hN c hS hc m (i + 1) (by omega) hi
        simp only [Int.natCast_add, Int.cast_ofNat_Int] at h5 h6
        simp only [nt, cf, ct]
        rw [r64 (by omega) (by omega), r64 (by omega) (by omega)]
        exact ⟨b, h5, h6⟩
    · rw [lt_f (by omega), cf, cf]
      exact right_more N c hc N 0 (by omega) (by omega)
theorem right_eq (N : Nat) (hN : 2000 < N) (c : DCell) (hS : c.Slots.length ≤ 1000) (hc : c.More.length ≤ 1000) : cell_Right_O N c = pantomimeref15_Right_O N c := by
  unfold cell_Right_O pantomimeref15_Right_O cell_all_c1_O
  have hAge : ((bif !decide (c.Age = 0) then (some (!decide (c.Age = 1))) else (some false)).bind fun b10 => some b10) = (some (decide (c.Age < 0) || decide (1 < c.Age)) : Option Bool) := by
    by_cases h0 : c.Age = 0
    · rw [h0]; rfl
    · by_cases h1 : c.Age = 1
      · rw [h1]; rfl
      · rw [eq_f h0, eq_f h1]
        by_cases h2 : c.Age < 0
        · rw [lt_t h2]; rfl
        · rw [lt_t (a := 1) (b := c.Age) (by omega), lt_f (a := c.Age) (by omega)]; rfl
  obtain ⟨b, h1, h2⟩ := right_slots N hN c hS hc N 0 (by omega) (by omega)
  have h1' : pantomimeref15_Right_l12 N c N 0 = (bif b then pantomimeref15_Right_j19 N c else some false) := h1
  have h2' : cell_all_c1_l6 N (liftR (fun x st => cell_Right_b14 N c x st)) c N 0 (none, ()) = some (bif b then none else some Exit.ret, ()) := h2
  have e : cell_all_O N c = some () := rfl
  rw [hAge, h1', h2', e]
  have tail : ((some ()).bind fun (y12 : Unit) => (some ((bif b then none else some Exit.ret : Option Exit), ())).bind fun y15 => caseX y15.1 ((cell_slotsRight_O N c).bind fun y19 => (bif y19 then ((cell_moreRight_O N c.Kind c.More).bind fun y21 => some y21) else (some false)).bind fun b20 => some b20) (some false) (fun _ => none)) = (bif b then pantomimeref15_Right_j19 N c else some false) := by
    cases b
    · rfl
    · rw [slots_eq, more_eq N hN c hc]; rfl
  rw [tail]
  cases decide (c.Kind < 1) <;> cases decide (11 < c.Kind) <;> cases decide (c.Shape < 0) <;> cases decide (c.Flags < 0) <;> cases decide (63 < c.Flags) <;> cases decide (c.Age < 0) <;> cases decide (1 < c.Age) <;> rfl
theorem opt_bool {m : Option Bool} {x : Bool} : m = some x → (m.bind fun b => some b) = some x := fun h => by rw [h]; rfl
/-- a valid cell has an answer; a weak map that is valid holds pairs -/
theorem right_some (N : Nat) (hN : 2000 < N) (c : DCell) (hS : c.Slots.length ≤ 1000) (hc : c.More.length ≤ 1000) (h8 : c.Kind = 8) : ∃ b, pantomimeref15_Right_O N c = some b ∧ (b = true → c.More.length % 2 = 0) := by
  obtain ⟨b1, g1, -⟩ := right_slots N hN c hS hc N 0 (by omega) (by omega)
  have g1' : pantomimeref15_Right_l12 N c N 0 = (bif b1 then pantomimeref15_Right_j19 N c else some false) := g1
  obtain ⟨b2, -, h2, h3⟩ := entries_eq N hN 2 (.inl rfl) c.More hc
  have hm : pantomimeref15_more_O N c = some b2 := by
    unfold pantomimeref15_more_O pantomimeref15_more_j6
    rw [h8, lt_f (by omega)]
    show ((pantomimeref15_entries_O N c.More 2).bind fun y37 => some y37) = _
    exact opt_bool h2
  have hs : ∃ b3, pantomimeref15_slots_O N c = some b3 := by
    unfold pantomimeref15_slots_O
    rw [h8]
    have : pantomimeref15_Props_O N 8 = some true := rfl
    rw [this, bs, ct, bs, ct]
    by_cases hl : 1 ≤ (c.Slots.length : Int)
    · rw [le_t hl, ct, bs, getE_at (xs := c.Slots) (i := 0) (by omega) (by omega), bs]
      cases decide ((c.Slots.length : Int) ≤ 1025)
      · exact ⟨_, rfl⟩
      · cases decide (c.Slots[(0 : Int).toNat].Kind = 1) <;> exact ⟨_, rfl⟩
    · rw [le_f (by omega)]; exact ⟨_, rfl⟩
  obtain ⟨b3, hs⟩ := hs
  have hj : pantomimeref15_Right_j19 N c = some (b3 && b2) := by
    unfold pantomimeref15_Right_j19
    rw [hs, hm]
    cases b3 <;> rfl
  unfold pantomimeref15_Right_O
  rw [g1', hj]
  have fin : ∃ b, ((bif b1 then some (b3 && b2) else some false) : Option Bool) = some b ∧ (b = true → c.More.length % 2 = 0) := by
    cases b1
    · exact ⟨false, rfl, fun h => by cases h⟩
    · exact ⟨b3 && b2, rfl, fun h => h3 (by cases b3 <;> cases b2 <;> first | rfl | cases h)⟩
  obtain ⟨b, e1, e2⟩ := fin
  rw [e1]
  have ff : ∃ b', (some false : Option Bool) = some b' ∧ (b' = true → c.More.length % 2 = 0) := ⟨false, rfl, fun h => by cases h⟩
  cases decide (c.Kind < 1) <;> cases decide (11 < c.Kind) <;> cases decide (c.Shape < 0) <;> cases decide (c.Flags < 0) <;> cases decide (63 < c.Flags) <;> cases decide (c.Age < 0) <;> cases decide (1 < c.Age) <;> first | exact ff | exact ⟨b, rfl, e2⟩
/-- whether a cell is a valid weak map -/
def isWM (N : Nat) (c : DCell) : Bool := decide (c.Kind = 8) && (pantomimeref15_Right_O N c).getD false
theorem is_ref (N : Nat) (hN : 2000 < N) (c : DCell) (hS : c.Slots.length ≤ 1000) (hc : c.More.length ≤ 1000) : pantomimeref17_Is_O N c = some (isWM N c) ∧ weak_is_O N c = some (isWM N c) ∧ (isWM N c = true → c.More.length % 2 = 0) := by
  unfold pantomimeref17_Is_O weak_is_O isWM
  rw [right_eq N hN c hS hc]
  by_cases h8 : c.Kind = 8
  · obtain ⟨b, h1, h2⟩ := right_some N hN c hS hc h8
    rw [h1, h8]
    exact ⟨rfl, rfl, h2⟩
  · rw [eq_f h8]
    exact ⟨rfl, rfl, fun h => by cases h⟩
end Go.Proofs.Ytmbaennilhdieaa

/- Plain: what a weak map opens, on both sides. -/
namespace Go.Proofs.Ytmbaennilhdieaa
open Go.RowKit

theorem index_spec (N : Nat) (x : Int) (l : List Int) (hl : l.length ≤ 5000) : ∀ (m i : Nat), l.length < m + i → i ≤ l.length → Sat (slices_Index_l3 N x l m (i : Int)) fun r => decide (0 ≤ r) = decide (x ∈ l.drop i)
  | 0, i, h, h2 => by omega
  | m + 1, i, h, h2 => by
    rw [slices_Index_l3_s]
    by_cases hi : i < l.length
    · rw [lt_t (by omega), ct, getE_n hi, bs, List.drop_eq_getElem_cons hi]
      refine sat_dec (fun e => ?_) fun e => ?_
      · exact sat_some (by rw [decide_eq_true (by omega), decide_eq_true]; rw [e]; exact List.mem_cons_self ..)
      · rw [r64 (by omega) (by omega)]
        have := index_spec N x l hl m (i + 1) (by omega) hi
        simp only [Int.natCast_add, Int.cast_ofNat_Int] at this
        refine this.mono fun r hr => ?_
        rw [hr]
        have : (x ∈ l[i] :: l.drop (i + 1)) ↔ x ∈ l.drop (i + 1) := ⟨fun h => (List.mem_cons.1 h).resolve_left (fun e2 => e e2), List.mem_cons_of_mem _⟩
        rw [decide_eq_decide]; exact this.symm
    · rw [lt_f (by omega), cf, List.drop_eq_nil_of_le (by omega)]
      exact sat_some (by simp)
theorem contains_prog (N : Nat) (hN : 5000 < N) (l : List Int) (hl : l.length ≤ 5000) (x : Int) : slices_Contains_O N l x = some (decide (x ∈ l)) := by
  obtain ⟨r, h1, h2⟩ := index_spec N x l hl N 0 (by omega) (by omega)
  unfold slices_Contains_O slices_Index_O
  rw [show slices_Index_l3 N x l N 0 = some r from h1, bs, h2]
  rfl
theorem in19 (N : Nat) (hN : 5000 < N) (l : List Int) (hl : l.length ≤ 5000) (x : Int) : pantomimeref19_In_O N l x = some (decide (x ∈ l)) := by
  apply Sat.eq
  unfold pantomimeref19_In_O
  have key : ∀ (m i : Nat), l.length < m + i → i ≤ l.length → Sat (pantomimeref19_In_l3 N x l m (i : Int)) (· = decide (x ∈ l.drop i)) := by
    intro m
    induction m with
    | zero => intro i h h2; omega
    | succ m ih =>
      intro i h h2
      rw [pantomimeref19_In_l3_s]
      by_cases hi : i < l.length
      · rw [lt_t (by omega), ct, getE_n hi, bs, List.drop_eq_getElem_cons hi]
        refine sat_dec (fun e => ?_) fun e => ?_
        · exact sat_some (by rw [decide_eq_true]; rw [e]; exact List.mem_cons_self ..)
        · rw [r64 (by omega) (by omega)]
          have := ih (i + 1) (by omega) hi
          simp only [Int.natCast_add, Int.cast_ofNat_Int] at this
          refine this.mono fun r hr => ?_
          rw [hr]
          have : (x ∈ l[i] :: l.drop (i + 1)) ↔ x ∈ l.drop (i + 1) := ⟨fun h => (List.mem_cons.1 h).resolve_left (fun e2 => e e2.symm), List.mem_cons_of_mem _⟩
          rw [decide_eq_decide]; exact this.symm
      · rw [lt_f (by omega), cf, List.drop_eq_nil_of_le (by omega)]
        exact sat_some (by simp)
  exact key N 0 (by omega) (by omega)
def opens (p : Int → Bool) : List DValue → List Int
  | k :: v :: l => (bif hasB v && p k.N then [v.N] else []) ++ opens p l
  | _ => []
theorem opens_cons (p : Int → Bool) (k v : DValue) (l : List DValue) : opens p (k :: v :: l) = (bif hasB v && p k.N then [v.N] else []) ++ opens p l := rfl
theorem opens_len (p : Int → Bool) : ∀ l : List DValue, (opens p l).length ≤ l.length
  | [] => Nat.le_refl _
  | [_] => Nat.zero_le _
  | k :: v :: l => by
    have := opens_len p l
    rw [opens_cons, List.length_append]
    cases hasB v && p k.N <;> simp <;> omega
theorem opens_mem {p : Int → Bool} {x : Int} : ∀ {l : List DValue}, x ∈ opens p l → ∃ v ∈ l, v.N = x
  | [], h => by cases h
  | [_], h => by cases h
  | k :: v :: l, h => by
    rw [opens_cons, List.mem_append] at h
    rcases h with h | h
    · cases hb : hasB v && p k.N
      · rw [hb] at h; cases h
      · rw [hb] at h; exact ⟨v, by simp, (List.mem_singleton.1 h).symm⟩
    · obtain ⟨w, h1, h2⟩ := opens_mem h
      exact ⟨w, by simp [h1], h2⟩
theorem kind_has (v : DValue) : ((bif decide (v.Kind = 7) then (some true) else (some (decide (v.Kind = 9)))) : Option Bool) = some (hasB v) := by unfold hasB; cases decide (v.Kind = 7) <;> rfl
def opensL (N : Nat) (c : DCell) (l : List Int) : List Int := bif isWM N c then opens (fun x => decide (x ∈ l)) c.More else []
theorem opensL_len (N : Nat) (c : DCell) (l : List Int) : (opensL N c l).length ≤ c.More.length := by
  unfold opensL
  cases isWM N c
  · exact Nat.zero_le _
  · exact opens_len _ _
theorem opensL_mem {N : Nat} {c : DCell} {l : List Int} {x : Int} (h : x ∈ opensL N c l) : ∃ v ∈ c.Slots ++ c.More, v.N = x := by
  unfold opensL at h
  cases hw : isWM N c
  · rw [hw] at h; cases h
  · rw [hw] at h
    obtain ⟨v, h1, h2⟩ := opens_mem h
    exact ⟨v, by simp [h1], h2⟩
theorem opens_body (N : Nat) (hN : 5000 < N) (l : List Int) (hl : l.length ≤ 5000) (k v : DValue) (s : List Int) (hs : s.length ≤ 5000) : liftR (fun x st => weak_Opens_b12 N l x st) (k, v) (none, s) = some (true, (none, s ++ (bif hasB v && decide (k.N ∈ l) then [v.N] else []))) := by
  unfold liftR weak_Opens_b12
  simp only [kind_has, bs, contains_prog N hN l hl]
  cases hasB v
  · simp only [cf, bs, Bool.false_and, List.append_nil]; rfl
  · simp only [ct, bs, Bool.true_and]
    cases decide (k.N ∈ l)
    · simp only [cf, List.append_nil]; rfl
    · simp only [ct]
      rw [rF (by simp; omega)]
      rfl
theorem entries_prog (N : Nat) (hN : 5000 < N) (l : List Int) (hl : l.length ≤ 5000) (c : DCell) (hc : c.More.length ≤ 1000) (he : c.More.length % 2 = 0) : ∀ (m i : Nat) (s : List Int), c.More.length < m + i → i ≤ c.More.length → i % 2 = 0 → s.length ≤ i → weak_entries_c1_l4 N (liftR (fun x st => weak_Opens_b12 N l x st)) c m (i : Int) (none, s) = some (none, s ++ opens (fun x => decide (x ∈ l)) (c.More.drop i))
  | 0, i, s, h, h2, _, _ => by omega
  | m + 1, i, s, h, h2, h3, h4 => by
    rw [weak_entries_c1_l4_s, r64 (a := (i : Int) + 1) (by omega) (by omega)]
    by_cases hi : i < c.More.length
    · have hi1 : i + 1 < c.More.length := by omega
      have hl1 : getE c.More ((i : Int) + 1) = some c.More[i + 1] := by
        have := getE_n hi1
        simpa using this
      rw [lt_t (by omega), ct, getE_n hi, bs, r64 (a := (i : Int) + 1) (by omega) (by omega), hl1, bs, opens_body N hN l hl _ _ s (by omega), bs]
      simp only [nt, cf]
      rw [r64 (by omega) (by omega)]
      have hlen : (s ++ (bif hasB c.More[i + 1] && decide (c.More[i].N ∈ l) then [c.More[i + 1].N] else [])).length ≤ i + 2 := by
        cases hasB c.More[i + 1] && decide (c.More[i].N ∈ l) <;> simp <;> omega
      have := entries_prog N hN l hl c hc he m (i + 2) _ (by omega) (by omega) (by omega) hlen
      simp only [Int.natCast_add, Int.cast_ofNat_Int] at this
      rw [this, List.drop_eq_getElem_cons hi, List.drop_eq_getElem_cons hi1, opens_cons, List.append_assoc]
    · rw [lt_f (by omega), cf, List.drop_eq_nil_of_le (by omega)]
      simp [opens]
theorem opens_prog (N : Nat) (hN : 5000 < N) (l : List Int) (hl : l.length ≤ 5000) (c : DCell) (hS : c.Slots.length ≤ 1000) (hc : c.More.length ≤ 1000) : weak_Opens_O N c l = some (opensL N c l) := by
  obtain ⟨-, h1, h2⟩ := is_ref N (by omega) c hS hc
  unfold weak_Opens_O opensL weak_entries_c1_O
  rw [h1, bs]
  cases hw : isWM N c
  · rfl
  · have e : weak_entries_O N c = some () := rfl
    have := entries_prog N hN l hl c hc (h2 hw) N 0 [] (by omega) (by omega) rfl (by simp)
    simp only [nt, cf, ct, e, bs]
    have h3 : weak_entries_c1_l4 N (liftR (fun x st => weak_Opens_b12 N l x st)) c N 0 (none, []) = some (none, [] ++ opens (fun x => decide (x ∈ l)) (c.More.drop 0)) := this
    rw [h3, bs]
    rfl
end Go.Proofs.Ytmbaennilhdieaa

/- Plain: the traversal. -/
namespace Go.Proofs.Ytmbaennilhdieaa
open Go.RowKit

theorem nodup_le : ∀ (b : Nat) {l : List Int}, l.Nodup → (∀ x ∈ l, 1 ≤ x ∧ x ≤ (b : Int)) → l.length ≤ b
  | 0, l, _, h => by
    cases l with
    | nil => exact Nat.le_refl _
    | cons x l => have := h x (by simp); omega
  | b + 1, l, hn, h => by
    have h1 := nodup_le b (hn.erase ((b : Int) + 1)) fun x hx => by
      obtain ⟨h2, h3⟩ := hn.mem_erase_iff.1 hx
      have := h x h3
      omega
    have h2 := List.length_erase (a := (b : Int) + 1) (l := l)
    split at h2 <;> omega
theorem lk_mem (kv : List (Int × Unit)) (a : Int) : (lk kv a).isSome = decide (a ∈ kv.map (·.1)) := by
  unfold lk
  rw [Bool.eq_iff_iff]
  simp [List.find?_isSome, List.mem_map]
/-- the numbers of all values fit into an int -/
def W64 (m : DMemory) : Prop := ∀ c ∈ m.Young ++ m.Old, ∀ v ∈ c.Slots ++ c.More, in64 v.N
theorem W64.at_ {m : DMemory} (h : W64 m) (a : Int) : ∀ v ∈ (atM m a).Slots ++ (atM m a).More, in64 v.N := by
  unfold atM
  cases hc : cellAt m a with
  | none => intro v hv; simp [zeroC] at hv
  | some c => exact h c (cellAt_mem hc)
/-- what was discovered so far -/
structure Tr (m : DMemory) (all : List Int) (met : List (Int × Unit)) : Prop where
  nd : all.Nodup
  mem : ∀ x, x ∈ met.map (·.1) ↔ x ∈ all
  has : ∀ x ∈ all, hasM m x = true
theorem Tr.len {m : DMemory} {roots : List DValue} (hs : Small m roots) {all : List Int} {met : List (Int × Unit)} (h : Tr m all met) : all.length ≤ 1200 := nodup_le 1200 h.nd fun x hx => ⟨by have := hasM_pos (h.has x hx); omega, by have := hasM_le hs (h.has x hx); omega⟩
theorem Tr.in64 {m : DMemory} {roots : List DValue} (hs : Small m roots) {all : List Int} {met : List (Int × Unit)} (h : Tr m all met) {x : Int} (hx : x ∈ all) : in64 x := by
  have h1 := hasM_pos (h.has x hx)
  have h2 := hasM_le hs (h.has x hx)
  unfold Go.Proofs.Ytmbaennilhdieaa.in64; omega
theorem Tr.add {m : DMemory} {all : List Int} {met : List (Int × Unit)} (h : Tr m all met) {x : Int} (hx : x ∉ all) (hh : hasM m x = true) : Tr m (all ++ [x]) (upL met x ()) := ⟨List.nodup_append.2 ⟨h.nd, by simp, fun a ha b hb e => by rw [List.mem_singleton] at hb; subst hb; subst e; exact hx ha⟩, fun y => by
  rw [upL_mem, List.mem_append, List.mem_singleton, h.mem y]; exact Or.comm, fun y hy => by
  rcases List.mem_append.1 hy with hy | hy
  · exact h.has y hy
  · rw [List.mem_singleton] at hy; subst hy; exact hh⟩
/-- the first k discovered cells were visited -/
def Clo (m : DMemory) (all : List Int) (k : Nat) : Prop := ∀ (i : Nat) (a x : Int), i < k → all[i]? = some a → x ∈ leadsL (atM m a) → hasM m x = true → x ∈ all
theorem leads_ok {m : DMemory} {roots : List DValue} (hs : Small m roots) (hw : W64 m) (a : Int) : (leadsL (atM m a)).length ≤ 2000 ∧ ∀ x ∈ leadsL (atM m a), in64 x := by
  have h1 := hs.at_ a
  have h2 := leadsL_len (atM m a)
  refine ⟨by omega, fun x hx => ?_⟩
  obtain ⟨v, h3, rfl⟩ := leadsL_mem hx
  exact hw.at_ a v h3
end Go.Proofs.Ytmbaennilhdieaa

/- Plain: traversals of a graph with weak maps, as relations. No program in sight. -/
namespace Go.Proofs.Ytmbaennilhdieaa
open Go.RowKit

structure Gr where
  has : Int → Bool
  leads : Int → List Int
  opens : List Int → Int → List Int
def layL (has : Int → Bool) : List Int → List Int → List Int
  | row, [] => row
  | row, x :: l => layL has (bif has x && !decide (x ∈ row) then row ++ [x] else row) l
inductive Thr (g : Gr) : List Int → Nat → List Int → Prop
  | done {row : List Int} {k : Nat} : row.length ≤ k → Thr g row k row
  | step {row : List Int} {k : Nat} {a : Int} {r : List Int} : row[k]? = some a → Thr g (layL g.has row (g.leads a)) (k + 1) r → Thr g row k r
def passL (g : Gr) : List Int → List Int → List Int
  | row, [] => row
  | row, a :: avs => passL g (layL g.has row (g.opens row a)) avs
inductive Ord (g : Gr) : List Int → List Int → Prop
  | done {row : List Int} : passL g row row = row → Ord g row row
  | step {row r1 r : List Int} : passL g row row ≠ row → Thr g (passL g row row) row.length r1 → Ord g r1 r → Ord g row r
/-- l is the order of discovery from the addresses roots; b is what is discovered without weak maps -/
structure IsOrder (g : Gr) (roots : List Int) (b l : List Int) : Prop where
  strong : Thr g (layL g.has [] roots) 0 b
  all : Ord g b l

theorem layL_app (has : Int → Bool) : ∀ (row l : List Int), ∃ t, layL has row l = row ++ t ∧ (∀ x ∈ t, has x = true ∧ x ∈ l)
  | row, [] => ⟨[], by simp [layL], by simp⟩
  | row, x :: l => by
    unfold layL
    cases h : has x && !decide (x ∈ row) with
    | false =>
      obtain ⟨t, h1, h2⟩ := layL_app has row l
      exact ⟨t, h1, fun y hy => ⟨(h2 y hy).1, by simp [(h2 y hy).2]⟩⟩
    | true =>
      obtain ⟨t, h1, h2⟩ := layL_app has (row ++ [x]) l
      refine ⟨x :: t, by rw [cond_true, h1]; simp, fun y hy => ?_⟩
      rw [Bool.and_eq_true] at h
      rcases List.mem_cons.1 hy with e | hy
      · subst e; exact ⟨h.1, by simp⟩
      · exact ⟨(h2 y hy).1, by simp [(h2 y hy).2]⟩
theorem layL_two (has : Int → Bool) : ∀ (row l l' : List Int), layL has row (l ++ l') = layL has (layL has row l) l'
  | _, [], _ => rfl
  | row, x :: l, l' => by
    show layL has _ (l ++ l') = _
    rw [layL_two has _ l l']; rfl
theorem layL_nodup {has : Int → Bool} : ∀ {row : List Int} (l : List Int), row.Nodup → (layL has row l).Nodup
  | _, [], h => h
  | row, x :: l, h => by
    unfold layL
    cases h2 : has x && !decide (x ∈ row) with
    | false => exact layL_nodup l h
    | true =>
      rw [Bool.and_eq_true] at h2
      have hx : x ∉ row := by simpa using h2.2
      exact layL_nodup l (List.nodup_append.2 ⟨h, by simp, fun a ha b hb e => by rw [List.mem_singleton] at hb; subst hb; subst e; exact hx ha⟩)
theorem layL_new {has : Int → Bool} {row l : List Int} {x : Int} (h : x ∈ layL has row l) : x ∈ row ∨ (has x = true ∧ x ∈ l) := by
  obtain ⟨t, h1, h2⟩ := layL_app has row l
  rw [h1] at h
  rcases List.mem_append.1 h with h | h
  · exact .inl h
  · exact .inr (h2 x h)
theorem passL_app (g : Gr) : ∀ (row avs : List Int), ∃ t, passL g row avs = row ++ t
  | row, [] => ⟨[], by simp [passL]⟩
  | row, a :: avs => by
    obtain ⟨t, h1, -⟩ := layL_app g.has row (g.opens row a)
    obtain ⟨t2, h2⟩ := passL_app g (layL g.has row (g.opens row a)) avs
    exact ⟨t ++ t2, by unfold passL; rw [h2, h1, List.append_assoc]⟩
theorem passL_two (g : Gr) : ∀ (row avs bs : List Int), passL g row (avs ++ bs) = passL g (passL g row avs) bs
  | _, [], _ => rfl
  | row, a :: avs, bs => by
    show passL g _ (avs ++ bs) = _
    rw [passL_two g _ avs bs]; rfl
theorem passL_nodup {g : Gr} : ∀ {row : List Int} (avs : List Int), row.Nodup → (passL g row avs).Nodup
  | _, [], h => h
  | _, _ :: avs, h => passL_nodup avs (layL_nodup _ h)
theorem passL_has {g : Gr} : ∀ {row : List Int} (avs : List Int), (∀ x ∈ row, g.has x = true) → ∀ x ∈ passL g row avs, g.has x = true
  | _, [], h => h
  | _, _ :: avs, h => passL_has avs fun x hx => (layL_new hx).elim (h x) (·.1)
theorem Thr.app {g : Gr} {row r : List Int} {k : Nat} (h : Thr g row k r) : ∃ t, r = row ++ t := by
  induction h with
  | done _ => exact ⟨[], by simp⟩
  | step _ _ ih =>
    rename_i row _ a _ _ _
    obtain ⟨t, rfl⟩ := ih
    obtain ⟨t2, h1, -⟩ := layL_app g.has row (g.leads a)
    exact ⟨t2 ++ t, by rw [h1, List.append_assoc]⟩
theorem Thr.nodup {g : Gr} {row r : List Int} {k : Nat} (h : Thr g row k r) (hn : row.Nodup) : r.Nodup := by
  induction h with
  | done _ => exact hn
  | step _ _ ih => exact ih (layL_nodup _ hn)
theorem Thr.has {g : Gr} {row r : List Int} {k : Nat} (h : Thr g row k r) (hn : ∀ x ∈ row, g.has x = true) : ∀ x ∈ r, g.has x = true := by
  induction h with
  | done _ => exact hn
  | step _ _ ih => exact ih fun x hx => (layL_new hx).elim (hn x) (·.1)
theorem Ord.nodup {g : Gr} {row r : List Int} (h : Ord g row r) (hn : row.Nodup) : r.Nodup := by
  induction h with
  | done _ => exact hn
  | step _ h1 _ ih => exact ih (h1.nodup (passL_nodup _ hn))
theorem Ord.has {g : Gr} {row r : List Int} (h : Ord g row r) (hn : ∀ x ∈ row, g.has x = true) : ∀ x ∈ r, g.has x = true := by
  induction h with
  | done _ => exact hn
  | step _ h1 _ ih => exact ih (h1.has (passL_has _ hn))
theorem IsOrder.nodup {g : Gr} {roots b l : List Int} (h : IsOrder g roots b l) : b.Nodup ∧ l.Nodup :=
  have hb := h.strong.nodup (layL_nodup _ List.nodup_nil)
  ⟨hb, h.all.nodup hb⟩
theorem IsOrder.has {g : Gr} {roots b l : List Int} (h : IsOrder g roots b l) : (∀ x ∈ b, g.has x = true) ∧ ∀ x ∈ l, g.has x = true :=
  have hb := h.strong.has fun x hx => (layL_new hx).elim (fun h => by cases h) (·.1)
  ⟨hb, h.all.has hb⟩
/-- the first k were visited -/
def CloG (g : Gr) (row : List Int) (k : Nat) : Prop := ∀ (i : Nat) (a x : Int), i < k → row[i]? = some a → x ∈ g.leads a → g.has x = true → x ∈ row
/-- what is closed holds what is discovered -/
structure ClosedS (g : Gr) (S : Int → Prop) : Prop where
  leads : ∀ a, S a → ∀ x ∈ g.leads a, g.has x = true → S x
  opens : ∀ row : List Int, (∀ x ∈ row, S x) → ∀ a, S a → ∀ x ∈ g.opens row a, g.has x = true → S x
end Go.Proofs.Ytmbaennilhdieaa

/- Plain: the program's traversal is the one of the relation. -/
namespace Go.Proofs.Ytmbaennilhdieaa
open Go.RowKit

def grM (N : Nat) (m : DMemory) : Gr := ⟨hasM m, fun a => leadsL (atM m a), fun row a => opensL N (atM m a) row⟩
def addrL (l : List DValue) : List Int := (l.filter hasB).map (·.N)
theorem addrL_app (l l' : List DValue) : addrL (l ++ l') = addrL l ++ addrL l' := by unfold addrL; simp
theorem lay_fun (N : Nat) {m : DMemory} {roots : List DValue} (hN : 5000 < N) (hs : Small m roots) (d : Int) (l : List Int) (hl : l.length ≤ 2000) (h64 : ∀ x ∈ l, in64 x) {all : List Int} {met : List (Int × Unit)} (ht : Tr m all met) :
    Sat (reach_row_lay_O N ⟨m, all, met, d⟩ l) fun r => r.m_ = m ∧ r.done_ = d ∧ Tr m r.all_ r.met_ ∧ r.all_ = layL (hasM m) all l := by
  unfold reach_row_lay_O
  refine loop_inv (fun k i (s : List Int × List (Int × Unit)) => reach_row_lay_l7 N l ⟨m, all, met, d⟩ k (i : Int) s.1 s.2) l.length (fun i s => Tr m s.1 s.2 ∧ s.1 = layL (hasM m) all (l.take i)) _ ?_ ?_ N 0 (all, met) (by omega) (by omega) ⟨ht, rfl⟩
  · rintro k i ⟨al, mt⟩ hi ⟨h1, h2⟩ go
    show Sat (reach_row_lay_l7 N l ⟨m, all, met, d⟩ (k + 1) i al mt) _
    simp only at h1 h2
    have hx64 := h64 l[i] (List.getElem_mem _)
    have hnext : layL (hasM m) all (l.take (i + 1)) = (bif hasM m l[i] && !decide (l[i] ∈ al) then al ++ [l[i]] else al) := by
      rw [take_succ_get hi, layL_two, ← h2]; rfl
    rw [reach_row_lay_l7_s, lt_t (by omega), ct, getE_n hi, bs, lk_mem]
    unfold reach_row_lay_j12
    rw [r64 (a := (i : Int) + 1) (by omega) (by omega), r64 (a := (i : Int) + 1) (by omega) (by omega)]
    by_cases hm : l[i] ∈ al
    · rw [decide_eq_true ((h1.mem _).2 hm)]
      simp only [nt, cf, bs]
      exact go (al, mt) ⟨h1, by rw [hnext, decide_eq_true hm]; simp⟩
    · rw [decide_eq_false (fun h => hm ((h1.mem _).1 h))]
      simp only [nf, ct, bs, has_prog N m _ hx64]
      cases hh : hasM m l[i]
      · simp only [cf]
        exact go (al, mt) ⟨h1, by rw [hnext, hh]; rfl⟩
      · simp only [ct]
        have hlen := h1.len hs
        rw [rF (by simp; omega)]
        exact go (al ++ [l[i]], upL mt l[i] ()) ⟨h1.add hm hh, by rw [hnext, hh, decide_eq_false hm]; rfl⟩
  · rintro k ⟨al, mt⟩ ⟨h1, h2⟩
    show Sat (reach_row_lay_l7 N l ⟨m, all, met, d⟩ (k + 1) _ al mt) _
    rw [reach_row_lay_l7_s, lt_f (by omega), cf]
    exact sat_some ⟨rfl, rfl, h1, by simpa using h2⟩
theorem through_fun (N : Nat) (hN : 5000 < N) {m : DMemory} {roots : List DValue} (hs : Small m roots) (hw : W64 m) {all : List Int} {met : List (Int × Unit)} (ht : Tr m all met) (k : Nat) (hk : k ≤ all.length) :
    Sat (reach_row_through_O N ⟨m, all, met, (k : Int)⟩) fun r => r.m_ = m ∧ r.done_ = (r.all_.length : Int) ∧ Tr m r.all_ r.met_ ∧ Thr (grM N m) all k r.all_ := by
  unfold reach_row_through_O
  refine loop_dec (fun f (s : List Int × List (Int × Unit) × Nat) => reach_row_through_l6 N f m.Young m.Old s.1 s.2.1 (s.2.2 : Int)) (fun s => 1300 - s.2.2) (fun s => Tr m s.1 s.2.1 ∧ s.2.2 ≤ s.1.length ∧ ∀ r, Thr (grM N m) s.1 s.2.2 r → Thr (grM N m) all k r) _ ?_ N (all, met, k) (by show 1300 - k < N; omega) ⟨ht, hk, fun _ h => h⟩
  rintro f ⟨al, mt, j⟩ ⟨h1, h3, h4⟩ go
  show Sat (reach_row_through_l6 N (f + 1) m.Young m.Old al mt (j : Int)) _
  simp only at h1 h3 h4
  have hlen := h1.len hs
  rw [reach_row_through_l6_s]
  by_cases hj : j < al.length
  · have hx := List.getElem_mem hj
    have hat := at_prog N hs al[j] (h1.in64 hs hx)
    have hsm := hs.at_ al[j]
    obtain ⟨hl1, hl2⟩ := leads_ok hs hw al[j]
    rw [lt_t (by omega), ct, getE_n hj, bs]
    have hat' : reach_At_O N ⟨m.Young, m.Old⟩ al[j] = some (atM m al[j]) := hat
    rw [hat', bs, leads_prog N (by omega) _ (by omega) (by omega), bs]
    refine Sat.bind (lay_fun N hN hs (j : Int) _ hl1 hl2 h1) ?_
    rintro ⟨m', al', mt', d'⟩ ⟨e1, e2, h5, h6⟩
    simp only at e1 e2 h5 h6
    subst e1 e2
    have hlen' := h5.len hs
    dsimp only
    rw [r64 (by omega) (by omega)]
    have hge : al.length ≤ al'.length := by
      obtain ⟨t, e, -⟩ := layL_app (hasM m') al (leadsL (atM m' al[j]))
      rw [h6, e, List.length_append]; omega
    have hgo := go (al', mt', j + 1) (by show 1300 - (j + 1) < 1300 - j; omega) ⟨h5, by show j + 1 ≤ al'.length; omega, fun r hr => h4 r (.step (List.getElem?_eq_getElem hj) (by rw [h6] at hr; exact hr))⟩
    simpa using hgo
  · have : j = al.length := by omega
    subst this
    rw [lt_f (by omega), cf]
    exact sat_some ⟨rfl, rfl, h1, h4 _ (.done (Nat.le_refl _))⟩
theorem begin_fun (N : Nat) (hN : 5000 < N) {m : DMemory} {roots : List DValue} (hs : Small m roots) (hw : W64 m) (hr : ∀ v ∈ roots, in64 v.N) :
    Sat (reach_begin_O N m roots) fun r => r.m_ = m ∧ r.done_ = (r.all_.length : Int) ∧ Tr m r.all_ r.met_ ∧ Thr (grM N m) (layL (hasM m) [] (addrL roots)) 0 r.all_ := by
  have hrl := hs.roots
  unfold reach_begin_O
  refine loop_inv (fun k i (s : List Int × List (Int × Unit)) => reach_begin_l14 N roots k (i : Int) m.Young m.Old s.1 s.2 0) roots.length (fun i s => Tr m s.1 s.2 ∧ s.1 = layL (hasM m) [] (addrL (roots.take i))) _ ?_ ?_ N 0 ([], []) (by omega) (by omega) ⟨⟨by simp, by simp, by simp⟩, rfl⟩
  · rintro k i ⟨al, mt⟩ hi ⟨h1, h2⟩ go
    show Sat (reach_begin_l14 N roots (k + 1) (i : Int) m.Young m.Old al mt 0) _
    simp only at h1 h2
    have hx64 := hr roots[i] (List.getElem_mem _)
    have ha : reach_address_O N roots[i] = some (roots[i].N, hasB roots[i]) := by
      unfold reach_address_O; rw [kind_has, bs]
    have hnext : layL (hasM m) [] (addrL (roots.take (i + 1))) = layL (hasM m) al (addrL [roots[i]]) := by
      rw [take_succ_get hi, addrL_app, layL_two, ← h2]
    rw [reach_begin_l14_s, lt_t (by omega), ct, getE_n hi, bs]
    unfold reach_begin_c1_O
    rw [ha, bs]
    cases hb : hasB roots[i]
    · simp only [cf, bs]
      rw [r64 (by omega) (by omega)]
      refine go (al, mt) ⟨h1, ?_⟩
      rw [hnext]; simp [addrL, hb, layL]
    · simp only [ct]
      obtain ⟨⟨m', al', mt', d'⟩, e0, e1, e2, h5, h6⟩ := lay_fun N hN hs 0 [roots[i].N] (by simp) (by intro x hx; rw [List.mem_singleton] at hx; subst hx; exact hx64) h1
      simp only at e1 e2 h5 h6
      subst e1 e2
      have e0' : reach_row_lay_O N ⟨⟨m'.Young, m'.Old⟩, al, mt, 0⟩ [roots[i].N] = some ⟨m', al', mt', 0⟩ := e0
      rw [e0', bs, bs]
      dsimp only
      rw [r64 (by omega) (by omega)]
      refine go (al', mt') ⟨h5, ?_⟩
      show al' = _
      rw [hnext, h6]; simp [addrL, hb]
  · rintro k ⟨al, mt⟩ ⟨h1, h2⟩
    show Sat (reach_begin_l14 N roots (k + 1) _ m.Young m.Old al mt 0) _
    rw [reach_begin_l14_s, lt_f (by omega), cf]
    unfold reach_begin_j8
    refine Sat.bind (through_fun N hN hs hw h1 0 (Nat.zero_le _)) ?_
    rintro r ⟨e1, e2, h5, h6⟩
    simp only [List.take_length] at h2
    exact sat_some ⟨e1, e2, h5, by rw [← h2]; exact h6⟩
theorem opens_ok (N : Nat) {m : DMemory} {roots : List DValue} (hs : Small m roots) (hw : W64 m) (a : Int) (l : List Int) : (opensL N (atM m a) l).length ≤ 2000 ∧ ∀ x ∈ opensL N (atM m a) l, in64 x := by
  have h1 := hs.at_ a
  have h2 := opensL_len N (atM m a) l
  refine ⟨by omega, fun x hx => ?_⟩
  obtain ⟨v, h3, rfl⟩ := opensL_mem hx
  exact hw.at_ a v h3
theorem pass_fun (N : Nat) (hN : 5000 < N) {m : DMemory} {roots : List DValue} (hs : Small m roots) (hw : W64 m) {all : List Int} {met : List (Int × Unit)} (ht : Tr m all met) (d : Int) :
    Sat (reach_row_pass_O N ⟨m, all, met, d⟩) fun r => r.2.m_ = m ∧ r.2.done_ = d ∧ Tr m r.2.all_ r.2.met_ ∧ r.1 = decide ((all.length : Int) < (r.2.all_.length : Int)) ∧ r.2.all_ = passL (grM N m) all all := by
  have hlen := ht.len hs
  unfold reach_row_pass_O
  refine loop_inv (fun k i (s : List Int × List (Int × Unit)) => reach_row_pass_l13 N ⟨m, all, met, d⟩ k (i : Int) m.Young m.Old s.1 s.2 d) all.length (fun i s => Tr m s.1 s.2 ∧ (∃ t, s.1 = all ++ t) ∧ s.1 = passL (grM N m) all (all.take i)) _ ?_ ?_ N 0 (all, met) (by omega) (by omega) ⟨ht, ⟨[], by simp⟩, rfl⟩
  · rintro k i ⟨al, mt⟩ hi ⟨h1, ⟨t, h2⟩, h3⟩ go
    show Sat (reach_row_pass_l13 N ⟨m, all, met, d⟩ (k + 1) (i : Int) m.Young m.Old al mt d) _
    simp only at h1 h2 h3
    have hlen1 := h1.len hs
    have htk : List.take all.length al = all := by rw [h2, List.take_left']; rfl
    have hx := List.getElem_mem hi
    have hsm := hs.at_ all[i]
    have hat : reach_At_O N ⟨m.Young, m.Old⟩ all[i] = some (atM m all[i]) := at_prog N hs all[i] (ht.in64 hs hx)
    have hnext : passL (grM N m) all (all.take (i + 1)) = layL (hasM m) al (opensL N (atM m all[i]) al) := by
      rw [take_succ_get hi, passL_two, ← h3]; rfl
    rw [reach_row_pass_l13_s]
    simp only [List.take_length]
    rw [lt_t (by omega), ct, htk, getE_n hi, bs, hat, bs]
    unfold reach_row_pass_j21
    by_cases h8 : (atM m all[i]).Kind = 8
    · rw [eq_t h8, ct, opens_prog N hN al (by omega) _ (by omega) (by omega), bs]
      obtain ⟨hl1, hl2⟩ := opens_ok N hs hw all[i] al
      obtain ⟨⟨m', al', mt', d'⟩, e0, e1, e2, h5, h6⟩ := lay_fun N hN hs d _ hl1 hl2 h1
      simp only at e1 e2 h5 h6
      subst e1 e2
      have e0' : reach_row_lay_O N ⟨⟨m'.Young, m'.Old⟩, al, mt, d'⟩ (opensL N (atM m' all[i]) al) = some ⟨m', al', mt', d'⟩ := e0
      rw [e0', bs]
      dsimp only
      rw [r64 (by omega) (by omega)]
      obtain ⟨t', e', -⟩ := layL_app (hasM m') al (opensL N (atM m' all[i]) al)
      exact go (al', mt') ⟨h5, ⟨t ++ t', by show al' = _; rw [h6, e', h2, List.append_assoc]⟩, by show al' = _; rw [hnext, h6]⟩
    · rw [eq_f h8, cf, r64 (by omega) (by omega)]
      refine go (al, mt) ⟨h1, ⟨t, h2⟩, ?_⟩
      have h0 : opensL N (atM m all[i]) al = [] := by
        unfold opensL isWM
        rw [eq_f h8]; rfl
      show al = _
      rw [hnext, h0]; rfl
  · rintro k ⟨al, mt⟩ ⟨h1, ⟨t, h2⟩, h3⟩
    show Sat (reach_row_pass_l13 N ⟨m, all, met, d⟩ (k + 1) _ m.Young m.Old al mt d) _
    rw [reach_row_pass_l13_s]
    simp only [List.take_length] at h3 ⊢
    rw [lt_f (by omega), cf]
    exact sat_some ⟨rfl, rfl, h1, rfl, h3⟩
/-- Order, Live and Strong, as the relation has them -/
theorem order_fun (N : Nat) (hN : 5000 < N) {m : DMemory} {roots : List DValue} (hs : Small m roots) (hw : W64 m) (hr : ∀ v ∈ roots, in64 v.N) :
    ∃ b all, IsOrder (grM N m) (addrL roots) b.all_ all ∧ all.length ≤ 1200 ∧ b.all_.length ≤ 1200 ∧ reach_begin_O N m roots = some b ∧ reach_Order_O N m roots = some all := by
  obtain ⟨⟨m', al0, mt0, d0⟩, e0, e1, e2, h1, h2⟩ := begin_fun N hN hs hw hr
  simp only at e1 e2 h1 h2
  subst e1 e2
  have hlen0 := h1.len hs
  have key : Sat (reach_Order_O N m' roots) fun all => Ord (grM N m') al0 all ∧ all.length ≤ 1200 := by
    unfold reach_Order_O
    rw [e0, bs]
    refine loop_dec (fun f (s : List Int × List (Int × Unit)) => reach_Order_l17 N f m'.Young m'.Old s.1 s.2 (s.1.length : Int)) (fun s => 1300 - s.1.length) (fun s => Tr m' s.1 s.2 ∧ ∀ r, Ord (grM N m') s.1 r → Ord (grM N m') al0 r) _ ?_ N (al0, mt0) (by show 1300 - al0.length < N; omega) ⟨h1, fun _ h => h⟩
    rintro f ⟨al, mt⟩ ⟨h4, h5⟩ go
    show Sat (reach_Order_l17 N (f + 1) m'.Young m'.Old al mt (al.length : Int)) _
    simp only at h4 h5
    have hlen := h4.len hs
    rw [reach_Order_l17_s]
    obtain ⟨⟨b, m2, al2, mt2, d2⟩, g0, g1, g2, g3, g5, g6⟩ := pass_fun N hN hs hw h4 (al.length : Int)
    simp only at g1 g2 g3 g5 g6
    subst g1 g2
    have hlen2 := g3.len hs
    have g0' : reach_row_pass_O N ⟨⟨m2.Young, m2.Old⟩, al, mt, (al.length : Int)⟩ = some (b, ⟨m2, al2, mt2, (al.length : Int)⟩) := g0
    obtain ⟨t2, ht2⟩ := passL_app (grM N m2) al al
    rw [g0', bs]
    dsimp only
    rw [g5]
    refine sat_dec (fun hlt => ?_) fun hge => ?_
    · refine Sat.bind (through_fun N hN hs hw g3 al.length (by omega)) ?_
      rintro ⟨m3, al3, mt3, d3⟩ ⟨k1, k2, k3, k4⟩
      simp only at k1 k2 k3 k4
      subst k1 k2
      have hlen3 := k3.len hs
      refine go (al3, mt3) ?_ ⟨k3, fun r h => h5 r (.step ?_ (by rw [← g6]; exact k4) h)⟩
      · show 1300 - al3.length < 1300 - al.length
        obtain ⟨t3, e3⟩ := k4.app
        have : al2.length ≤ al3.length := by rw [e3, List.length_append]; omega
        omega
      · rw [← g6]; intro e; rw [e] at hlt; omega
    · have e : al2 = al := by
        rw [ht2] at g6
        have h0 : t2 = [] := List.eq_nil_of_length_eq_zero (by rw [g6, List.length_append] at hge; omega)
        rw [g6, h0, List.append_nil]
      subst e
      unfold reach_Order_j11
      exact sat_some ⟨h5 _ (.done g6.symm), by omega⟩
  obtain ⟨all, k1, k2, k3⟩ := key
  exact ⟨⟨m', al0, mt0, (al0.length : Int)⟩, all, ⟨h2, k2⟩, k3, hlen0, e0, k1⟩
end Go.Proofs.Ytmbaennilhdieaa

/- Plain: every cell has an answer whether it is valid; what a valid registry holds. -/
namespace Go.Proofs.Ytmbaennilhdieaa
open Go.RowKit

abbrev Tot {ρ : Type} (m : Option ρ) : Prop := Sat m fun _ => True
/-- what is known of More where it is valid -/
def MoreOk (c : DCell) : Prop := (c.Kind = 8 → c.More.length % 2 = 0) ∧ (c.Kind = 10 → 1 ≤ c.More.length ∧ (c.More.length - 1) % 4 = 0)
end Go.Proofs.Ytmbaennilhdieaa

/- Plain: cleaned weak maps, bare registries, equal values. -/
namespace Go.Proofs.Ytmbaennilhdieaa
open Go.RowKit

/-- the entries whose keys are kept -/
def cleanL (p : Int → Bool) : List DValue → List DValue
  | k :: v :: r => (bif p k.N then [k, v] else []) ++ cleanL p r
  | _ => []
def cleanW (N : Nat) (l : List Int) (c : DCell) : DCell := bif isWM N c then ⟨c.Kind, c.Shape, c.Flags, c.Age, c.Slots, cleanL (fun x => decide (x ∈ l)) c.More⟩ else c
/-- valid registries -/
def isFR (N : Nat) (c : DCell) : Bool := decide (c.Kind = 10) && (pantomimeref15_Right_O N c).getD false
def bareC (N : Nat) (c : DCell) : DCell := bif isFR N c then ⟨c.Kind, c.Shape, c.Flags, c.Age, c.Slots, c.More.take 1⟩ else c
def bareM (N : Nat) (m : DMemory) : DMemory := ⟨m.Young.map (bareC N), m.Old.map (bareC N)⟩
end Go.Proofs.Ytmbaennilhdieaa

/- Plain: the new order of a major collection. -/
namespace Go.Proofs.Ytmbaennilhdieaa
open Go.RowKit

def evenB (a : Int) : Bool := decide (a.tmod 2 = 0)
def oddB (a : Int) : Bool := decide (a.tmod 2 = 1)
/-- old cells first -/
def newOrd (live : List Int) : List Int := live.filter evenB ++ live.filter oddB
theorem filter_at {p : Int → Bool} : ∀ {l : List Int} {i : Nat} (hi : i < l.length), p l[i] = true → (l.filter p)[((l.take i).filter p).length]? = some l[i]
  | x :: l, 0, hi, h => by
    simp only [List.getElem_cons_zero] at h
    simp [h]
  | x :: l, i + 1, hi, h => by
    simp only [List.getElem_cons_succ] at h
    have ih := filter_at (l := l) (i := i) (by simpa using hi) h
    rw [List.take_succ_cons]
    cases hx : p x with
    | true => simp only [List.filter_cons, hx, if_true, List.length_cons, List.getElem?_cons_succ, List.getElem_cons_succ]; exact ih
    | false => simp only [List.filter_cons, hx, Bool.false_eq_true, if_false, List.getElem_cons_succ]; exact ih
theorem filter_next {p : Int → Bool} {l : List Int} {i : Nat} (hi : i < l.length) : ((l.take (i + 1)).filter p).length = ((l.take i).filter p).length + (bif p l[i] then 1 else 0) := by
  rw [take_succ_get hi, List.filter_append, List.length_append]
  cases h : p l[i] <;> simp [h]
/-- one of the two passes -/
theorem order_pass (N : Nat) {σ : Type} (φ : Int × Int → σ → Option (Option Exit × σ)) (live : List Int) (hl : live.length ≤ 2000) (hN : 5000 < N) (kb : Int → Int → Option Exit × σ → Option (Option Exit × σ)) (b : Int) (p : Int → Bool) (hp : ∀ a, p a = decide (a.tmod 2 = b)) (p6 : Int) (h6 : 0 ≤ p6 ∧ p6 ≤ 2) (n0 : Nat) (hn0 : n0 ≤ 2000)
    (Inv : Nat → σ → Prop) (R : Option Exit × σ → Prop)
    (hstep : ∀ i (hi : i < live.length) s, p live[i] = true → Inv (n0 + ((live.take i).filter p).length) s → Sat (φ (((n0 + ((live.take i).filter p).length : Nat) : Int), live[i]) s) fun r => r.1 = none ∧ Inv (n0 + ((live.take i).filter p).length + 1) r.2)
    (hk : ∀ s, Inv (n0 + (live.filter p).length) s → Sat (kb ((n0 + (live.filter p).length : Nat) : Int) (p6 + 1) (none, s)) R) (s : σ) (hs : Inv n0 s) : Sat (major_order_c1_l13 N kb (liftR φ) b p6 live N (n0 : Int) 0 (none, s)) R := by
  have hfl : ∀ i, ((live.take i).filter p).length ≤ 2000 := fun i => Nat.le_trans (List.length_filter_le _ _) (by rw [List.length_take]; omega)
  refine loop_inv (fun k i (st : Nat × σ) => major_order_c1_l13 N kb (liftR φ) b p6 live k (st.1 : Int) (i : Int) (none, st.2)) live.length (fun i st => st.1 = n0 + ((live.take i).filter p).length ∧ Inv st.1 st.2) _ ?_ ?_ N 0 (n0, s) (by omega) (by omega) ⟨by simp, hs⟩
  · rintro k i ⟨n, st⟩ hi ⟨h1, h2⟩ go
    simp only at h1 h2
    have hb := hfl i
    show Sat (major_order_c1_l13 N kb (liftR φ) b p6 live (k + 1) (n : Int) (i : Int) (none, st)) _
    have hnx := filter_next (p := p) hi
    rw [major_order_c1_l13_s, lt_t (by omega), ct, getE_n hi, bs, ← hp]
    unfold major_order_c1_j18
    rw [r64 (a := (i : Int) + 1) (by omega) (by omega)]
    cases hq : p live[i]
    · simp only [nf, ct]
      rw [hq] at hnx
      have hg := go (n, st) ⟨by show n = _; rw [hnx]; exact h1, h2⟩
      first | rw [r64 (a := (i : Int) + 1) (by omega) (by omega)] | skip
      exact hg
    · simp only [nt, cf]
      rw [hq] at hnx
      obtain ⟨⟨e, s'⟩, g1, g2, g3⟩ := hstep i hi st hq (by rw [← h1]; exact h2)
      simp only at g2 g3
      subst g2
      have hf : liftR φ ((n : Int), live[i]) (none, st) = some (true, (none, s')) := by
        unfold liftR
        simp only
        rw [h1, g1]; rfl
      rw [hf, bs]
      simp only [nt, cf]
      rw [r64 (a := (n : Int) + 1) (by omega) (by omega)]
      have hg := go (n + 1, s') ⟨by show n + 1 = _; rw [hnx]; show n + 1 = _ + (_ + 1); omega, by show Inv (n + 1) s'; rw [h1]; exact g3⟩
      first | rw [r64 (a := (i : Int) + 1) (by omega) (by omega)] | skip
      exact hg
  · rintro k ⟨n, st⟩ ⟨h1, h2⟩
    simp only [List.take_length] at h1 h2
    show Sat (major_order_c1_l13 N kb (liftR φ) b p6 live (k + 1) (n : Int) _ (none, st)) _
    rw [major_order_c1_l13_s, lt_f (by omega), cf]
    unfold major_order_c1_j9
    rw [r64 (by omega) (by omega), h1]
    exact hk st (by rw [← h1]; exact h2)
/-- a loop over the new order, with what holds behind the first n cells -/
theorem order_loop (N : Nat) {σ : Type} (φ : Int × Int → σ → Option (Option Exit × σ)) (live : List Int) (hl : live.length ≤ 2000) (hN : 5000 < N)
    (Inv : Nat → σ → Prop) (hstep : ∀ n a s, (newOrd live)[n]? = some a → Inv n s → Sat (φ ((n : Int), a) s) fun r => r.1 = none ∧ Inv (n + 1) r.2) (s : σ) (hs : Inv 0 s) : Sat (major_order_c1_O N live (liftR φ) (none, s)) fun r => r.1 = none ∧ Inv (newOrd live).length r.2 := by
  obtain ⟨k, rfl⟩ : ∃ k, N = k + 3 := ⟨N - 3, by omega⟩
  have hev : (live.filter evenB).length ≤ 2000 := Nat.le_trans (List.length_filter_le _ _) hl
  unfold major_order_c1_O
  rw [major_order_c1_l4_s, show ((([0, 1] : List Int).length : Int)) = 2 from rfl, lt_t (by omega), ct, show getE ([0, 1] : List Int) 0 = some 0 from rfl, bs]
  refine order_pass (k + 3) φ live hl (by omega) _ 0 evenB (fun _ => rfl) 0 (by omega) 0 (by omega) Inv _ (fun i hi st hp hi2 => ?_) (fun st hst => ?_) s hs
  · refine hstep _ _ _ ?_ hi2
    unfold newOrd
    rw [List.getElem?_append_left]
    · rw [Nat.zero_add]; exact filter_at hi hp
    · have := (List.getElem?_eq_some_iff.1 (filter_at hi hp)).1; omega
  · rw [major_order_c1_l4_s, show ((([0, 1] : List Int).length : Int)) = 2 from rfl, lt_t (by omega), ct, show getE ([0, 1] : List Int) (0 + 1) = some 1 from rfl, bs]
    refine order_pass (k + 3) φ live hl (by omega) _ 1 oddB (fun _ => rfl) (0 + 1) (by omega) (0 + (live.filter evenB).length) (by omega) Inv _ (fun i hi st hp hi2 => ?_) (fun st hst => ?_) st hst
    · refine hstep _ _ _ ?_ hi2
      unfold newOrd
      rw [List.getElem?_append_right (by omega), show 0 + (live.filter evenB).length + ((live.take i).filter oddB).length - (live.filter evenB).length = ((live.take i).filter oddB).length by omega]
      exact filter_at hi hp
    · rw [major_order_c1_l4_s, show ((([0, 1] : List Int).length : Int)) = 2 from rfl, lt_f (by omega), cf]
      refine sat_some ⟨rfl, ?_⟩
      unfold newOrd
      rw [List.length_append]
      have e : 0 + (live.filter evenB).length + (live.filter oddB).length = (live.filter evenB).length + (live.filter oddB).length := by omega
      rw [← e]; exact hst
theorem places_spec (N : Nat) (hN : 5000 < N) {m : DMemory} {roots : List DValue} {live : List Int} (hlive : reach_Live_O N m roots = some live) (hl : live.length ≤ 2000) :
    Sat (major_Places_O N m roots) fun r => r.1 = newOrd live ∧ r.2.length = (newOrd live).length ∧ ∀ n, n < (newOrd live).length → r.2[n]? = some (2 * (n : Int) + 2) := by
  have hno : (newOrd live).length ≤ 4000 := by
    unfold newOrd
    rw [List.length_append]
    have h1 := List.length_filter_le evenB live
    have h2 := List.length_filter_le oddB live
    omega
  unfold major_Places_O major_order_O
  rw [hlive, bs, bs]
  refine Sat.bind (order_loop N (fun x st => major_Places_b11 N x st) live hl hN (fun n s => s.1 = (newOrd live).take n ∧ s.2.length = n ∧ ∀ j, j < n → s.2[j]? = some (2 * (j : Int) + 2)) ?_ ([], []) ⟨by simp, rfl, fun j hj => absurd hj (by omega)⟩) ?_
  · rintro n a ⟨f, t⟩ ha ⟨h1, h2, h3⟩
    simp only at h1 h2 h3
    have hn := (List.getElem?_eq_some_iff.1 ha).1
    unfold major_Places_b11
    simp only
    have hfl : f.length ≤ 4000 := by rw [h1, List.length_take]; omega
    rw [rF (by simp; omega), r64 (by omega) (by omega), r64 (by omega) (by omega), rF (by simp; omega)]
    refine sat_some ⟨rfl, ?_, by simp [h2], fun j hj => ?_⟩
    · show f ++ [a] = _
      rw [take_succ_get hn, ← h1]
      rw [List.getElem?_eq_getElem hn, Option.some.injEq] at ha
      rw [ha]
    · show (t ++ [2 * (n : Int) + 2])[j]? = _
      by_cases e : j < n
      · rw [List.getElem?_append_left (by omega)]; exact h3 j e
      · have : j = n := by omega
        subst this
        rw [List.getElem?_append_right (by omega), h2]; simp
  · rintro ⟨e, f, t⟩ ⟨h0, h1, h2, h3⟩
    simp only at h0 h1 h2 h3
    subst h0
    exact sat_some ⟨by rw [h1, List.take_length], h2, h3⟩
end Go.Proofs.Ytmbaennilhdieaa

/- Plain: sorted addresses, the examples, small memories. -/
namespace Go.Proofs.Ytmbaennilhdieaa
open Go.RowKit

theorem sortL_mem (l : List Int) (x : Int) : x ∈ sortL l ↔ x ∈ l := by unfold sortL; exact List.mem_mergeSort
theorem sortL_asc {l : List Int} (h : l.Nodup) : (sortL l).Pairwise (· < ·) := by
  have h1 : (sortL l).Pairwise fun a b => decide (a ≤ b) = true := List.pairwise_mergeSort (by intro a b c h1 h2; simp at *; omega) (by intro a b; simp; omega) l
  have h2 : (sortL l).Nodup := (List.mergeSort_perm l _).nodup_iff.2 h
  rw [List.nodup_iff_pairwise_ne] at h2
  exact h1.imp₂ (fun a b h3 h4 => by simp at h3; omega) h2
theorem sortL_eq {l s : List Int} (h : l.Nodup) (hs : s.Pairwise (· < ·)) (he : ∀ x, x ∈ l ↔ x ∈ s) : sortL l = s := asc_ext (sortL_asc h) hs fun x => (sortL_mem l x).trans (he x)
theorem sort_spec (N : Nat) (l : List Int) (h : l.length ≤ 5000) : slices_Sort_O N l = some (sortL l) := by
  unfold slices_Sort_O; rw [rF (by omega)]
def obj (n : Int) : DValue := ⟨7, n, ⟨#[]⟩⟩
def boxC' (l : List DValue) : DCell := ⟨11, 0, 0, 0, [], l⟩
def exM : DMemory := ⟨[⟨11, 0, 0, 0, [], [⟨7, 3, ⟨#[]⟩⟩, ⟨7, 2, ⟨#[]⟩⟩]⟩, ⟨11, 0, 0, 0, [], []⟩], [⟨11, 0, 0, 0, [], []⟩]⟩
def exW : DMemory := ⟨[⟨8, 0, 0, 0, [⟨1, 0, ⟨#[]⟩⟩], [⟨7, 3, ⟨#[]⟩⟩, ⟨7, 5, ⟨#[]⟩⟩]⟩, ⟨11, 0, 0, 0, [], []⟩, ⟨11, 0, 0, 0, [], []⟩], []⟩
theorem live_of {N : Nat} {m : DMemory} {roots : List DValue} {l s : List Int} (h : reach_Order_O N m roots = some l) (hl : l.length ≤ 5000) (hs : sortL l = s) : reach_Live_O N m roots = some s := by
  unfold reach_Live_O
  rw [h, bs, sort_spec N l hl, bs, hs]
end Go.Proofs.Ytmbaennilhdieaa

/- Plain: memories of a bounded size. -/
namespace Go.Proofs.Ytmbaennilhdieaa
open Go.RowKit

/-- lengths of what is read -/
structure Bnd (B : Nat) (m : DMemory) (roots : List DValue) : Prop where
  young : m.Young.length ≤ B
  old : m.Old.length ≤ B
  roots : roots.length ≤ B
  cells : ∀ c ∈ m.Young ++ m.Old, c.Slots.length ≤ B ∧ c.More.length ≤ B
theorem few_spec (N : Nat) (hN : 5000 < N) {m : DMemory} {roots : List DValue} (hb : Bnd 140737488355328 m roots) : Sat (pantomimeref19_Few_O N m roots) fun b => b = true → Small m roots := by
  have hy := hb.young; have ho := hb.old; have hr := hb.roots
  have old : ∀ p : Nat, p ≤ 300000000000000 → (p ≤ 600 → roots.length ≤ p ∧ m.Young.length ≤ p ∧ ∀ c ∈ m.Young, c.Slots.length ≤ p ∧ c.More.length ≤ p) → Sat (pantomimeref19_Few_j5 N m (p : Int)) fun b => b = true → Small m roots := by
    intro p hp hY
    unfold pantomimeref19_Few_j5
    refine loop_dec (fun f (s : Nat × Nat) => pantomimeref19_Few_l26 N m f (s.1 : Int) (s.2 : Int)) (fun s => 700 - s.1) (fun s => s.1 ≤ 300000000000000 ∧ s.2 ≤ m.Old.length ∧ (s.1 ≤ 600 → (roots.length ≤ s.1 ∧ m.Young.length ≤ s.1 ∧ ∀ c ∈ m.Young, c.Slots.length ≤ s.1 ∧ c.More.length ≤ s.1) ∧ s.2 ≤ s.1 ∧ ∀ c ∈ m.Old.take s.2, c.Slots.length ≤ s.1 ∧ c.More.length ≤ s.1)) _ ?_ N (p, 0) (by show 700 - p < N; omega) ⟨hp, Nat.zero_le _, fun h => ⟨hY h, Nat.zero_le _, by simp⟩⟩
    rintro f ⟨p, i⟩ ⟨h1, h2, h3⟩ go
    show Sat (pantomimeref19_Few_l26 N m (f + 1) (p : Int) (i : Int)) _
    simp only at h1 h2 h3
    rw [pantomimeref19_Few_l26_s]
    have fin : (i = m.Old.length ∨ 600 < p) → Sat (pantomimeref19_Few_j24 N (p : Int)) fun b => b = true → Small m roots := fun hh => sat_some fun hb2 => by
      have hp6 : (p : Int) ≤ 600 := of_decide_eq_true hb2
      obtain ⟨⟨k1, k2, k3⟩, k4, k5⟩ := h3 (by omega)
      have hi : i = m.Old.length := by omega
      subst hi
      rw [List.take_length] at k5
      exact ⟨by omega, by omega, by omega, fun c hc => by
        rcases List.mem_append.1 hc with hc | hc
        · have := k3 c hc; omega
        · have := k5 c hc; omega⟩
    by_cases hi : i < m.Old.length
    · rw [lt_t (by omega), ct, bs]
      refine sat_dec (fun h6 => ?_) fun h6 => fin (.inr (by omega))
      have hc := hb.cells m.Old[i] (by simp)
      rw [r64 (a := (p : Int) + 1) (by omega) (by omega), getE_n hi, bs, r64 (a := (p : Int) + 1 + (m.Old[i].Slots.length : Int)) (by omega) (by omega), bs, r64 (a := (p : Int) + 1 + (m.Old[i].Slots.length : Int) + (m.Old[i].More.length : Int)) (by omega) (by omega), r64 (a := (i : Int) + 1) (by omega) (by omega)]
      have hg := go (p + 1 + m.Old[i].Slots.length + m.Old[i].More.length, i + 1) (by show 700 - (p + 1 + m.Old[i].Slots.length + m.Old[i].More.length) < 700 - p; omega) ⟨by show p + 1 + m.Old[i].Slots.length + m.Old[i].More.length ≤ 300000000000000; omega, hi, fun h7 => by
        simp only at h7
        obtain ⟨⟨k1, k2, k3⟩, k4, k5⟩ := h3 (by omega)
        refine ⟨⟨by show _ ≤ _ + _; omega, by show _ ≤ _ + _; omega, fun c hc2 => by have := k3 c hc2; constructor <;> (show _ ≤ _ + _; omega)⟩, by show i + 1 ≤ _; omega, fun c hc2 => ?_⟩
        simp only at hc2
        rw [take_succ_get hi, List.mem_append, List.mem_singleton] at hc2
        rcases hc2 with hc2 | rfl
        · have := k5 c hc2; constructor <;> (show _ ≤ _ + _; omega)
        · constructor <;> (show _ ≤ _ + _; omega)⟩
      simpa using hg
    · rw [lt_f (by omega), cf, bs, cf]
      exact fin (.inl (by omega))
  unfold pantomimeref19_Few_O
  refine loop_dec (fun f (s : Nat × Nat) => pantomimeref19_Few_l7 N m f (s.1 : Int) (s.2 : Int)) (fun s => 700 - s.1) (fun s => s.1 ≤ 300000000000000 ∧ s.2 ≤ m.Young.length ∧ (s.1 ≤ 600 → roots.length ≤ s.1 ∧ s.2 ≤ s.1 ∧ ∀ c ∈ m.Young.take s.2, c.Slots.length ≤ s.1 ∧ c.More.length ≤ s.1)) _ ?_ N (roots.length, 0) (by show 700 - roots.length < N; omega) ⟨by show roots.length ≤ 300000000000000; omega, Nat.zero_le _, fun h => ⟨Nat.le_refl _, Nat.zero_le _, by simp⟩⟩
  rintro f ⟨p, i⟩ ⟨h1, h2, h3⟩ go
  show Sat (pantomimeref19_Few_l7 N m (f + 1) (p : Int) (i : Int)) _
  simp only at h1 h2 h3
  rw [pantomimeref19_Few_l7_s]
  by_cases hi : i < m.Young.length
  · rw [lt_t (by omega), ct, bs]
    refine sat_dec (fun h6 => ?_) fun h6 => old p h1 fun h7 => absurd h7 (by omega)
    have hc := hb.cells m.Young[i] (by simp)
    rw [r64 (a := (p : Int) + 1) (by omega) (by omega), getE_n hi, bs, r64 (a := (p : Int) + 1 + (m.Young[i].Slots.length : Int)) (by omega) (by omega), bs, r64 (a := (p : Int) + 1 + (m.Young[i].Slots.length : Int) + (m.Young[i].More.length : Int)) (by omega) (by omega), r64 (a := (i : Int) + 1) (by omega) (by omega)]
    have hg := go (p + 1 + m.Young[i].Slots.length + m.Young[i].More.length, i + 1) (by show 700 - (p + 1 + m.Young[i].Slots.length + m.Young[i].More.length) < 700 - p; omega) ⟨by show p + 1 + m.Young[i].Slots.length + m.Young[i].More.length ≤ 300000000000000; omega, hi, fun h7 => by
      simp only at h7
      obtain ⟨k1, k4, k5⟩ := h3 (by omega)
      refine ⟨by show _ ≤ _ + _; omega, by show i + 1 ≤ _; omega, fun c hc2 => ?_⟩
      simp only at hc2
      rw [take_succ_get hi, List.mem_append, List.mem_singleton] at hc2
      rcases hc2 with hc2 | rfl
      · have := k5 c hc2; constructor <;> (show _ ≤ _ + _; omega)
      · constructor <;> (show _ ≤ _ + _; omega)⟩
    simpa using hg
  · rw [lt_f (by omega), cf, bs, cf]
    have hie : i = m.Young.length := by omega
    subst hie
    refine old p h1 fun h7 => ?_
    obtain ⟨k1, k4, k5⟩ := h3 h7
    rw [List.take_length] at k5
    exact ⟨k1, k4, k5⟩
end Go.Proofs.Ytmbaennilhdieaa

/- Plain: the forwarding addresses of a major collection. -/
namespace Go.Proofs.Ytmbaennilhdieaa
open Go.RowKit

def exP : DMemory := ⟨[⟨11, 0, 0, 0, [], [⟨7, 2, ⟨#[]⟩⟩]⟩, ⟨11, 0, 0, 0, [], []⟩], [⟨11, 0, 0, 0, [], []⟩, ⟨11, 0, 0, 0, [], []⟩]⟩
def exF : DMemory := ⟨[], [⟨10, 0, 0, 0, [⟨1, 0, ⟨#[]⟩⟩], [⟨7, 4, ⟨#[]⟩⟩, ⟨7, 6, ⟨#[]⟩⟩, ⟨7, 8, ⟨#[]⟩⟩, ⟨0, 0, ⟨#[]⟩⟩, ⟨3, 7, ⟨#[]⟩⟩]⟩, ⟨11, 0, 0, 0, [], []⟩, ⟨11, 0, 0, 0, [], []⟩, ⟨11, 0, 0, 0, [], []⟩]⟩
theorem oP : reach_Order_O 6000 exP [⟨7, 1, ⟨#[]⟩⟩] = some [1, 2] := by kernel_rfl
theorem oF : reach_Order_O 6000 exF [⟨7, 2, ⟨#[]⟩⟩] = some [2, 4, 8] := by kernel_rfl
theorem lP : reach_Live_O 6000 exP [⟨7, 1, ⟨#[]⟩⟩] = some [1, 2] := live_of oP (by decide) (sortL_eq (by decide) (by decide) (by intro x; simp))
theorem lF : reach_Live_O 6000 exF [⟨7, 2, ⟨#[]⟩⟩] = some [2, 4, 8] := live_of oF (by decide) (sortL_eq (by decide) (by decide) (by intro x; simp))
theorem pP : major_Places_O 6000 exP [⟨7, 1, ⟨#[]⟩⟩] = some ([2, 1], [2, 4]) := by
  unfold major_Places_O
  rw [lP, bs]
  kernel_rfl
theorem tmod_pos {a : Int} (h : 0 < a) : a.tmod 2 = 0 ∨ a.tmod 2 = 1 := by
  rw [tmod2 (by omega)]; omega
theorem newOrd_mem {live : List Int} (hp : ∀ a ∈ live, 0 < a) (a : Int) : a ∈ newOrd live ↔ a ∈ live := by
  unfold newOrd evenB oddB
  rw [List.mem_append, List.mem_filter, List.mem_filter, decide_eq_true_eq, decide_eq_true_eq]
  constructor
  · rintro (h | h) <;> exact h.1
  · intro h
    rcases tmod_pos (hp a h) with h2 | h2
    · exact .inl ⟨h, h2⟩
    · exact .inr ⟨h, h2⟩
theorem newOrd_len : ∀ {live : List Int}, (∀ a ∈ live, 0 < a) → (newOrd live).length = live.length
  | [], _ => rfl
  | a :: l, hp => by
    have ih := newOrd_len (live := l) fun b hb => hp b (by simp [hb])
    unfold newOrd at ih ⊢
    rw [List.length_append] at ih ⊢
    rcases tmod_pos (hp a (by simp)) with h | h
    · have e1 : evenB a = true := decide_eq_true h
      have e2 : oddB a = false := decide_eq_false (by omega)
      simp only [List.filter_cons, e1, e2, if_true, Bool.false_eq_true, if_false, List.length_cons]; omega
    · have e1 : evenB a = false := decide_eq_false (by omega)
      have e2 : oddB a = true := decide_eq_true h
      simp only [List.filter_cons, e1, e2, if_true, Bool.false_eq_true, if_false, List.length_cons]; omega
theorem newOrd_pw {live : List Int} (h : live.Pairwise (· < ·)) : (newOrd live).Pairwise fun a b => ¬ (a.tmod 2 = 1 ∧ b.tmod 2 = 0) ∧ (a.tmod 2 = b.tmod 2 → a < b) := by
  have hev : ∀ a ∈ live.filter evenB, a.tmod 2 = 0 := fun a ha => of_decide_eq_true (List.mem_filter.1 ha).2
  have hod : ∀ a ∈ live.filter oddB, a.tmod 2 = 1 := fun a ha => of_decide_eq_true (List.mem_filter.1 ha).2
  unfold newOrd
  refine List.pairwise_append.2 ⟨(h.filter _).imp_of_mem fun {a b} ha hb hlt => ⟨fun hh => ?_, fun _ => hlt⟩, (h.filter _).imp_of_mem fun {a b} ha hb hlt => ⟨fun hh => ?_, fun _ => hlt⟩, fun a ha b hb => ⟨fun hh => ?_, fun hh => ?_⟩⟩
  · have := hev a ha; omega
  · have := hod b hb; omega
  · have := hev a ha; omega
  · have := hev a ha; have := hod b hb; omega
theorem cP : major_Collect_O 6000 exP [⟨7, 1, ⟨#[]⟩⟩] = some (⟨[], [⟨11, 0, 0, 0, [], []⟩, ⟨11, 0, 0, 0, [], [⟨7, 2, ⟨#[]⟩⟩]⟩]⟩, [⟨7, 4, ⟨#[]⟩⟩], [], 0) := by
  unfold major_Collect_O
  rw [lP]
  kernel_rfl
theorem cF : major_Collect_O 6000 exF [⟨7, 2, ⟨#[]⟩⟩] = some (⟨[], [⟨10, 0, 0, 0, [⟨1, 0, ⟨#[]⟩⟩], [⟨7, 4, ⟨#[]⟩⟩]⟩, ⟨11, 0, 0, 0, [], []⟩, ⟨11, 0, 0, 0, [], []⟩]⟩, [⟨7, 2, ⟨#[]⟩⟩], [⟨7, 4, ⟨#[]⟩⟩, ⟨7, 6, ⟨#[]⟩⟩, ⟨3, 7, ⟨#[]⟩⟩], 0) := by
  unfold major_Collect_O
  rw [lF]
  kernel_rfl
theorem goes22_true : pantomimelaw22_goes_O 6000 = some true := by
  have h1 : major_Places_O 6000 (⟨([⟨11, 0, 0, 0, [], [⟨7, 2, ⟨#[]⟩⟩]⟩, ⟨11, 0, 0, 0, [], []⟩] : List DCell), ([⟨11, 0, 0, 0, [], []⟩, ⟨11, 0, 0, 0, [], []⟩] : List DCell)⟩ : DMemory) ([⟨7, 1, ⟨#[]⟩⟩] : List DValue) = some ([2, 1], [2, 4]) := pP
  have h2 : major_Collect_O 6000 (⟨([⟨11, 0, 0, 0, [], [⟨7, 2, ⟨#[]⟩⟩]⟩, ⟨11, 0, 0, 0, [], []⟩] : List DCell), ([⟨11, 0, 0, 0, [], []⟩, ⟨11, 0, 0, 0, [], []⟩] : List DCell)⟩ : DMemory) ([⟨7, 1, ⟨#[]⟩⟩] : List DValue) = _ := cP
  have h3 : major_Collect_O 6000 (⟨[], ([⟨10, 0, 0, 0, ([(⟨1, 0, ⟨#[]⟩⟩ : DValue)] : List DValue), ([⟨7, 4, ⟨#[]⟩⟩, ⟨7, 6, ⟨#[]⟩⟩, ⟨7, 8, ⟨#[]⟩⟩, (⟨0, 0, ⟨#[]⟩⟩ : DValue), (⟨3, 7, ⟨#[]⟩⟩ : DValue)] : List DValue)⟩, ⟨11, 0, 0, 0, [], []⟩, ⟨11, 0, 0, 0, [], []⟩, ⟨11, 0, 0, 0, [], []⟩] : List DCell)⟩ : DMemory) ([⟨7, 2, ⟨#[]⟩⟩] : List DValue) = _ := cF
  unfold pantomimelaw22_goes_O pantomimelaw22_object_O pantomimelaw22_goes_c1_O
  simp only [bs]
  rw [h1, bs, h2, bs, h3, bs]
  clear h1 h2 h3
  refine Eq.trans ?_ (Eq.refl (some true))
  kernel_rfl
theorem places_law {m : DMemory} {roots : List DValue} (hb : Bnd 140737488355328 m roots) (hw : W64 m) (hr : ∀ v ∈ roots, in64 v.N) : pantomimelaw22_MajorPlaces_O 6000 m roots = some true := by
  apply Sat.eq
  unfold pantomimelaw22_MajorPlaces_O
  refine Sat.bind (few_spec 6000 (by decide) hb) fun b hfew => ?_
  refine sat_not (fun _ => ?_) fun hb1 => ?_
  · rw [goes22_true]; exact sat_some rfl
  have hs := hfew hb1
  obtain ⟨bg, all, ho, hlen, -, -, o0⟩ := order_fun 6000 (by decide) hs hw hr
  have hlive : reach_Live_O 6000 m roots = some (sortL all) := live_of o0 (by omega) rfl
  have hll : (sortL all).length = all.length := sortL_len all
  have hmem := sortL_mem all
  have hasc := sortL_asc ho.nodup.2
  generalize hL : sortL all = live at *
  have hpos : ∀ a ∈ live, 0 < a := fun a ha => hasM_pos (ho.has.2 a ((hmem a).1 ha))
  obtain ⟨⟨f, t⟩, e0, e1, e2, e3⟩ := places_spec 6000 (by decide) hlive (by omega)
  simp only at e1 e2 e3
  have hln := newOrd_len hpos
  have hpw := newOrd_pw hasc
  have hnm := newOrd_mem hpos
  rw [e0, bs, hlive, bs]
  simp only
  subst e1
  rw [decide_eq_true (p := (((newOrd live).length : Int) = (live.length : Int))) (by omega), decide_eq_true (p := ((t.length : Int) = (live.length : Int))) (by omega)]
  simp only [nt, cf, bs]
  generalize newOrd live = f at *
  refine loop_inv0 (fun k i => pantomimelaw22_MajorPlaces_l16 6000 (f, t) live k (i : Int)) f.length (fun _ => True) _ ?_ ?_ 6000 0 (by omega) (by omega) trivial
  · intro k i hi _ go
    show Sat (pantomimelaw22_MajorPlaces_l16 6000 (f, t) live (k + 1) (i : Int)) _
    have hin : f[i] ∈ live := (hnm _).1 (List.getElem_mem _)
    rw [pantomimelaw22_MajorPlaces_l16_s]
    simp only
    rw [lt_t (by omega), ct, getE_nat, e3 i hi, bs, r64 (a := 2 * (i : Int)) (by omega) (by omega), r64 (a := 2 * (i : Int) + 2) (by omega) (by omega), eq_t rfl]
    simp only [nt, cf]
    rw [getE_n hi, bs, in19 6000 (by decide) live (by omega), bs, decide_eq_true hin]
    simp only [nt, cf, bs]
    by_cases h0 : 0 < i
    · have hpre : getE f ((i : Int) - 1) = some (f[i - 1]'(by omega)) := by
        have := getE_n (xs := f) (i := i - 1) (by omega)
        rw [show (((i - 1 : Nat)) : Int) = (i : Int) - 1 by omega] at this
        exact this
      obtain ⟨q1, q2⟩ := List.pairwise_iff_getElem.1 hpw (i - 1) i (by omega) hi (by omega)
      rw [lt_t (by omega), ct, r64 (a := (i : Int) - 1) (by omega) (by omega), hpre, bs]
      have z1 : ((bif decide ((f[i - 1]'(by omega)).tmod 2 = 1) then some (decide (f[i].tmod 2 = 0)) else some false) : Option Bool) = some false := by
        by_cases c1 : (f[i - 1]'(by omega)).tmod 2 = 1
        · rw [eq_t c1, ct, eq_f (fun c2 => q1 ⟨c1, c2⟩)]
        · rw [eq_f c1, cf]
      rw [z1, bs, cf, r64 (a := (i : Int) - 1) (by omega) (by omega), bs]
      have z2 : ((bif decide ((f[i - 1]'(by omega)).tmod 2 = f[i].tmod 2) then req (in64 ((i : Int) - 1)) ((some (f[i - 1]'(by omega))).bind fun x37 => some (decide (f[i] ≤ x37))) else some false) : Option Bool) = some false := by
        by_cases c1 : (f[i - 1]'(by omega)).tmod 2 = f[i].tmod 2
        · have := q2 c1
          rw [eq_t c1, ct, r64 (by omega) (by omega), bs, le_f this]
        · rw [eq_f c1, cf]
      rw [z2, bs, bs, bs, cf, r64 (by omega) (by omega)]
      exact go trivial
    · rw [lt_f (by omega), cf, bs, cf, r64 (by omega) (by omega)]
      exact go trivial
  · intro k _
    show Sat (pantomimelaw22_MajorPlaces_l16 6000 (f, t) live (k + 1) _) _
    rw [pantomimelaw22_MajorPlaces_l16_s]
    simp only
    rw [lt_f (by omega), cf]
    unfold pantomimelaw22_MajorPlaces_j15
    rw [goes22_true]; exact sat_some rfl
end Go.Proofs.Ytmbaennilhdieaa

/- Plain: MajorPlaces for what can be read. -/
namespace Go.Proofs.Ytmbaennilhdieaa
open Go.RowKit

theorem reach_le : reachBytes ≤ 140737488355328 := by decide
theorem read_mem (m : DMemory) (roots : List DValue) (hm : wfwDMemory m) (hr : WfL (fun z => wfwDValue z) roots) : Bnd 140737488355328 m roots ∧ W64 m ∧ ∀ v ∈ roots, in64 v.N := by
  have hb := reach_le
  obtain ⟨⟨y1, y2⟩, o1, o2⟩ := hm
  have hc : ∀ c ∈ m.Young ++ m.Old, wfwDCell c := fun c hc => (List.mem_append.1 hc).elim (y2 c) (o2 c)
  refine ⟨⟨Nat.le_trans y1 hb, Nat.le_trans o1 hb, Nat.le_trans hr.1 hb, fun c h => ?_⟩, fun c h v hv => ?_, fun v hv => (hr.2 v hv).2.1⟩
  · obtain ⟨-, -, -, -, s, t⟩ := hc c h
    exact ⟨Nat.le_trans s.1 hb, Nat.le_trans t.1 hb⟩
  · obtain ⟨-, -, -, -, s, t⟩ := hc c h
    rcases List.mem_append.1 hv with hv | hv
    · exact (s.2 v hv).2.1
    · exact (t.2 v hv).2.1
theorem places_top (m : DMemory) (roots : List DValue) (hm : wfwDMemory m) (hr : WfL (fun z => wfwDValue z) roots) : pantomimelaw22_MajorPlaces_O 6000 m roots = some true := by
  obtain ⟨h1, h2, h3⟩ := read_mem m roots hm hr
  exact places_law h1 h2 h3
end Go.Proofs.Ytmbaennilhdieaa
