/- Merged texts: part 7. No conditions of their own. -/
import Derived.Test.YtmbaennilhdieaaGreatG6
import Derived.Test.YtmbaennilhdieaaGreatG1
import Derived.ProofKit
/- Pure functions and contracts of Go functions (printed by all3.py). -/
namespace Go.Proofs.YtmbaennilhdieaaGreat
open Go.RowKit Asn
set_option maxRecDepth 20000
def w22_goes_O (N : Nat) : Option Bool :=
 (w22_object_O N 2).bind fun y1 => (w22_goes_c1_O N ([y1] : List DValue)).bind fun y3 => (w22_goes_c1_O N []).bind fun y6 => (w22_goes_c1_O N []).bind fun y11 => (w22_goes_c1_O N []).bind fun y15 => (w22_object_O N 1).bind fun y21 => (major_Places_O N (⟨([y3, y6] : List DCell), ([y11, y15] : List DCell)⟩ : DMemory) ([y21] : List DValue)).bind fun y23 => (w22_object_O N 1).bind fun y26 => (major_Collect_O N (⟨([y3, y6] : List DCell), ([y11, y15] : List DCell)⟩ : DMemory) ([y26] : List DValue)).bind fun y29 => (w22_object_O N 4).bind fun y57 => (w22_object_O N 6).bind fun y58 => (w22_object_O N 8).bind fun y59 => (w22_goes_c1_O N []).bind fun y61 => (w22_goes_c1_O N []).bind fun y65 => (w22_goes_c1_O N []).bind fun y69 => (w22_object_O N 2).bind fun y75 => (major_Collect_O N (⟨[], ([(⟨10, 0, 0, 0, ([(⟨1, 0, ⟨#[]⟩⟩ : DValue)] : List DValue), ([y57, y58, y59, (⟨0, 0, ⟨#[]⟩⟩ : DValue), (⟨3, 7, ⟨#[]⟩⟩ : DValue)] : List DValue)⟩ : DCell), y61, y65, y69] : List DCell)⟩ : DMemory) ([y75] : List DValue)).bind fun y78 => (r19_Same_O N y23.1 ([2, 1] : List Int)).bind fun y108 => (bif y108 then ((r19_Same_O N y23.2 ([2, 4] : List Int)).bind fun y112 => some y112) else (some false)).bind fun b109 => ((bif b109 then (some (decide (y29.2.2.2 = 0))) else (some false)).bind fun b113 => ((bif b113 then (some (decide ((y29.1.Old.length : Int) = 2))) else (some false)).bind fun b114 => ((bif b114 then (some (decide ((y29.1.Young.length : Int) = 0))) else (some false)).bind fun b115 => ((bif b115 then ((getE y29.1.Old 1).bind fun x117 => some (decide ((x117.More.length : Int) = 1))) else (some false)).bind fun b116 => ((bif b116 then ((getE y29.1.Old 1).bind fun x123 => (getE x123.More 0).bind fun x128 => (w22_object_O N 2).bind fun y131 => some (decide (x128 = y131))) else (some false)).bind fun b122 => ((bif b122 then (some (decide ((y29.2.1.length : Int) = 1))) else (some false)).bind fun b132 => ((bif b132 then ((getE y29.2.1 0).bind fun x134 => (w22_object_O N 4).bind fun y135 => some (decide (x134 = y135))) else (some false)).bind fun b133 => ((bif b133 then (some (decide ((y29.2.2.1.length : Int) = 0))) else (some false)).bind fun b136 => ((bif b136 then (some (decide (y78.2.2.2 = 0))) else (some false)).bind fun b137 => ((bif b137 then (some (decide ((y78.1.Old.length : Int) = 3))) else (some false)).bind fun b138 => ((bif b138 then ((w22_object_O N 4).bind fun y140 => (w22_object_O N 6).bind fun y141 => (r15_SameValues_O N y78.2.2.1 ([y140, y141, (⟨3, 7, ⟨#[]⟩⟩ : DValue)] : List DValue)).bind fun y144 => some y144) else (some false)).bind fun b139 => (some b139))))))))))))
set_option maxHeartbeats 4000000 in
theorem w22_goes_ok {N : Nat} {r : Bool} (h : w22_goes_O N = some r) : Okc Tryz.prog 30 [] ([]) (fun (u : Value) (post : List Chunk) => u = .bool r ∧ post = []) := by
 refine ok_E Tryz.func30 rfl rfl ?_
 simp only [envOf]
 refine run ?_
 obtain ⟨y1, hy1, h⟩ := bind_elim h
 refine gD (op_callR (w22_object_ok hy1) call77 rfl (mem_nil) w22_object_free) ?_
 rintro _ _ ⟨_, ⟨rfl, rfl⟩, rfl⟩
 refine gD (op_bslice (R := rDValue) (vss := [[iV y1.Kind, iV y1.N, .string y1.S]]) (xs := [y1]) rfl (bsl_25_1 _ _ _) rfl rfl (fun _ _ hr => .cons rfl All2.nil)) ?_
 rintro _ _ ⟨A2, n2, c2, rfl, rfl⟩
 obtain ⟨y3, hy3, h⟩ := bind_elim h
 refine G_cv (cv_frz 0 rfl) ?_
 refine G_norm ([kS0 A2 n2 c2 ([y1] : List DValue)]) rfl ?_
 refine gD (op_callc (w22_goes_c1_ok hy3) call76 rfl rfl rfl (cv_take [0] [] [0] 1 rfl)) ?_
 rintro _ _ ⟨_, ⟨A4, n4, c4, A5, n5, c5, rfl, rfl⟩, rfl⟩
 refine G_norm ([kS0 A4 n4 c4 y3.Slots, kS0 A5 n5 c5 y3.More, kS0 A2 n2 c2 ([y1] : List DValue)]) rfl ?_
 refine run ?_
 obtain ⟨y6, hy6, h⟩ := bind_elim h
 refine G_cv (cv_nilS rDValue _) ?_
 refine gD (op_callc (w22_goes_c1_ok hy6) call76 rfl rfl rfl (cv_take [0] [] [0, 1, 2, 3] 4 rfl)) ?_
 rintro _ _ ⟨_, ⟨A7, n7, c7, A8, n8, c8, rfl, rfl⟩, rfl⟩
 refine G_norm ([kS0 A7 n7 c7 y6.Slots, kS0 A8 n8 c8 y6.More, slC rDValue (.slice none 0 0) ([] : List DValue), kS0 A4 n4 c4 y3.Slots, kS0 A5 n5 c5 y3.More, kS0 A2 n2 c2 ([y1] : List DValue)]) rfl ?_
 refine gD (op_bslice (R := rDCell) (vss := [[iV y3.Kind, iV y3.Shape, iV y3.Flags, iV y3.Age, .slice A4 n4 c4, .slice A5 n5 c5], [iV y6.Kind, iV y6.Shape, iV y6.Flags, iV y6.Age, .slice A7 n7 c7, .slice A8 n8 c8]]) (xs := [y3, y6]) rfl (bsl_22_2 _ _ _ _ _ _ _ _ _ _ _ _ _ _ _ _ _ _ _ _) rfl rfl (fun _ _ hr => .cons (⟨_, _, _, _, _, _, rfl, hr 3 _ rfl rfl, hr 4 _ rfl rfl⟩) (.cons (⟨_, _, _, _, _, _, rfl, hr 0 _ rfl rfl, hr 1 _ rfl rfl⟩) All2.nil))) ?_
 rintro _ _ ⟨A10, n10, c10, rfl, rfl⟩
 refine run ?_
 obtain ⟨y11, hy11, h⟩ := bind_elim h
 refine G_cv (cv_nilS rDValue _) ?_
 refine gD (op_callc (w22_goes_c1_ok hy11) call76 rfl rfl rfl (cv_take [0] [] [0, 1, 2, 3, 4, 5, 6, 7] 8 rfl)) ?_
 rintro _ _ ⟨_, ⟨A12, n12, c12, A13, n13, c13, rfl, rfl⟩, rfl⟩
 refine G_norm ([kS0 A12 n12 c12 y11.Slots, kS0 A13 n13 c13 y11.More, slC rDValue (.slice none 0 0) ([] : List DValue), kO4 A10 n10 c10 ([y3, y6] : List DCell), kS0 A7 n7 c7 y6.Slots, kS0 A8 n8 c8 y6.More, slC rDValue (.slice none 0 0) ([] : List DValue), kS0 A4 n4 c4 y3.Slots, kS0 A5 n5 c5 y3.More, kS0 A2 n2 c2 ([y1] : List DValue)]) rfl ?_
 refine run ?_
 obtain ⟨y15, hy15, h⟩ := bind_elim h
 refine G_cv (cv_nilS rDValue _) ?_
 refine gD (op_callc (w22_goes_c1_ok hy15) call76 rfl rfl rfl (cv_take [0] [] [0, 1, 2, 3, 4, 5, 6, 7, 8, 9, 10] 11 rfl)) ?_
 rintro _ _ ⟨_, ⟨A16, n16, c16, A17, n17, c17, rfl, rfl⟩, rfl⟩
 refine G_norm ([kS0 A16 n16 c16 y15.Slots, kS0 A17 n17 c17 y15.More, slC rDValue (.slice none 0 0) ([] : List DValue), kS0 A12 n12 c12 y11.Slots, kS0 A13 n13 c13 y11.More, slC rDValue (.slice none 0 0) ([] : List DValue), kO4 A10 n10 c10 ([y3, y6] : List DCell), kS0 A7 n7 c7 y6.Slots, kS0 A8 n8 c8 y6.More, slC rDValue (.slice none 0 0) ([] : List DValue), kS0 A4 n4 c4 y3.Slots, kS0 A5 n5 c5 y3.More, kS0 A2 n2 c2 ([y1] : List DValue)]) rfl ?_
 refine gD (op_bslice (R := rDCell) (vss := [[iV y11.Kind, iV y11.Shape, iV y11.Flags, iV y11.Age, .slice A12 n12 c12, .slice A13 n13 c13], [iV y15.Kind, iV y15.Shape, iV y15.Flags, iV y15.Age, .slice A16 n16 c16, .slice A17 n17 c17]]) (xs := [y11, y15]) rfl (bsl_22_2 _ _ _ _ _ _ _ _ _ _ _ _ _ _ _ _ _ _ _ _) rfl rfl (fun _ _ hr => .cons (⟨_, _, _, _, _, _, rfl, hr 3 _ rfl rfl, hr 4 _ rfl rfl⟩) (.cons (⟨_, _, _, _, _, _, rfl, hr 0 _ rfl rfl, hr 1 _ rfl rfl⟩) All2.nil))) ?_
 rintro _ _ ⟨A19, n19, c19, rfl, rfl⟩
 refine gE (ev_build rfl (bld_24_0_1 _ _ _ _ _ _)) ?_
 refine gD (op_alloc zero24 rfl) ?_
 rintro _ _ ⟨B20, rfl, rfl⟩
 refine gO (op_store (us := [.slice A10 n10 c10, .slice A19 n19 c19]) (cs' := [.slice A10 n10 c10, .slice A19 n19 c19]) 0 rfl rfl rfl rfl size24 rfl rfl rfl) ?_
 rintro _ _ rfl
 refine G_norm ([boxC B20 24 [.slice A10 n10 c10, .slice A19 n19 c19], kO4 A19 n19 c19 ([y11, y15] : List DCell), kS0 A16 n16 c16 y15.Slots, kS0 A17 n17 c17 y15.More, slC rDValue (.slice none 0 0) ([] : List DValue), kS0 A12 n12 c12 y11.Slots, kS0 A13 n13 c13 y11.More, slC rDValue (.slice none 0 0) ([] : List DValue), kO4 A10 n10 c10 ([y3, y6] : List DCell), kS0 A7 n7 c7 y6.Slots, kS0 A8 n8 c8 y6.More, slC rDValue (.slice none 0 0) ([] : List DValue), kS0 A4 n4 c4 y3.Slots, kS0 A5 n5 c5 y3.More, kS0 A2 n2 c2 ([y1] : List DValue)]) rfl ?_
 refine run ?_
 refine G_seq ?_
 refine G_drawn (by kernel_rfl) _ (cv_refl _) ?_
 refine T3_rd 0 rfl (by kernel_rfl) (rd_boxS (us := [.slice A10 n10 c10, .slice A19 n19 c19]) 0 rfl rfl agg24 rfl) rfl rfl ?_
 obtain ⟨y21, hy21, h⟩ := bind_elim h
 refine T3_opd 1 rfl (by kernel_rfl) (op_callR (w22_object_ok hy21) call77 rfl (mem_nil) w22_object_free) rfl rfl rfl ?_
 rintro _ _ ⟨_, ⟨rfl, rfl⟩, rfl⟩
 refine ⟨_, cv_refl _, cv_refl _, ?_⟩
 refine T3_opd 2 rfl (by kernel_rfl) (op_bslice (R := rDValue) (vss := [[iV y21.Kind, iV y21.N, .string y21.S]]) (xs := [y21]) rfl (bsl_25_1 _ _ _) rfl rfl (fun _ _ hr => .cons rfl All2.nil)) rfl rfl rfl ?_
 rintro _ _ ⟨A22, n22, c22, rfl, rfl⟩
 refine ⟨[boxC B20 24 [.slice A10 n10 c10, .slice A19 n19 c19], kO4 A19 n19 c19 ([y11, y15] : List DCell), kS0 A16 n16 c16 y15.Slots, kS0 A17 n17 c17 y15.More, slC rDValue (.slice none 0 0) ([] : List DValue), kS0 A12 n12 c12 y11.Slots, kS0 A13 n13 c13 y11.More, slC rDValue (.slice none 0 0) ([] : List DValue), kO4 A10 n10 c10 ([y3, y6] : List DCell), kS0 A7 n7 c7 y6.Slots, kS0 A8 n8 c8 y6.More, slC rDValue (.slice none 0 0) ([] : List DValue), kS0 A4 n4 c4 y3.Slots, kS0 A5 n5 c5 y3.More, kS0 A2 n2 c2 ([y1] : List DValue)], cv_sel [1, 2, 3, 4, 5, 6, 7, 8, 9, 10, 11, 12, 13, 14, 15] 16 rfl rfl, cv_refl _, ?_⟩
 obtain ⟨y23, hy23, h⟩ := bind_elim h
 refine T3_opd 3 rfl (by kernel_rfl) (op_callR (major_Places_ok hy23) call33 rfl (mem_cons (lent_own (i := 9) rfl) (mem_cons (lent_own (i := 2) rfl) (mem_cons (lent_own (i := 0) rfl) mem_nil))) major_Places_free) rfl rfl rfl ?_
 rintro _ _ ⟨_, ⟨A24, n24, c24, A25, n25, c25, rfl, rfl⟩, rfl⟩
 refine ⟨[boxC B20 24 [.slice A10 n10 c10, .slice A19 n19 c19], kO4 A19 n19 c19 ([y11, y15] : List DCell), kS0 A16 n16 c16 y15.Slots, kS0 A17 n17 c17 y15.More, slC rDValue (.slice none 0 0) ([] : List DValue), kS0 A12 n12 c12 y11.Slots, kS0 A13 n13 c13 y11.More, slC rDValue (.slice none 0 0) ([] : List DValue), kO4 A10 n10 c10 ([y3, y6] : List DCell), kS0 A7 n7 c7 y6.Slots, kS0 A8 n8 c8 y6.More, slC rDValue (.slice none 0 0) ([] : List DValue), kS0 A4 n4 c4 y3.Slots, kS0 A5 n5 c5 y3.More, kS0 A2 n2 c2 ([y1] : List DValue)], cv_sel [3, 4, 5, 6, 7, 8, 9, 10, 11, 12, 13, 14, 15, 16, 17] 18 rfl rfl, cv_refl _, ?_⟩
 refine T3_ev 4 rfl (by kernel_rfl) (ev_move rfl) rfl rfl ?_
 refine T3_ev 5 rfl (by kernel_rfl) (ev_extract rfl rfl) rfl rfl ?_
 refine T3_ev 6 rfl (by kernel_rfl) (ev_extract rfl rfl) rfl rfl ?_
 refine T3_ev 7 rfl (by kernel_rfl) (ev_assign rfl) rfl rfl ?_
 refine T3_ev 8 rfl (by kernel_rfl) (ev_assign rfl) rfl rfl ?_
 refine T3_done (by kernel_rfl) ?_
 refine nx_n ?_
 refine G_seq ?_
 refine G_sub ?_ sub_refl (cv_frz 4 rfl)
 refine Wq_norm ([kO2 A24 n24 c24 y23.1, kO2 A25 n25 c25 y23.2, kO3 A22 n22 c22 ([y21] : List DValue), boxC B20 24 [.slice A10 n10 c10, .slice A19 n19 c19], kS1 A19 n19 c19 ([y11, y15] : List DCell), kS0 A16 n16 c16 y15.Slots, kS0 A17 n17 c17 y15.More, slC rDValue (.slice none 0 0) ([] : List DValue), kS0 A12 n12 c12 y11.Slots, kS0 A13 n13 c13 y11.More, slC rDValue (.slice none 0 0) ([] : List DValue), kO4 A10 n10 c10 ([y3, y6] : List DCell), kS0 A7 n7 c7 y6.Slots, kS0 A8 n8 c8 y6.More, slC rDValue (.slice none 0 0) ([] : List DValue), kS0 A4 n4 c4 y3.Slots, kS0 A5 n5 c5 y3.More, kS0 A2 n2 c2 ([y1] : List DValue)]) rfl ?_
 refine G_sub ?_ sub_refl (cv_frz 11 rfl)
 refine Wq_norm ([kO2 A24 n24 c24 y23.1, kO2 A25 n25 c25 y23.2, kO3 A22 n22 c22 ([y21] : List DValue), boxC B20 24 [.slice A10 n10 c10, .slice A19 n19 c19], kS1 A19 n19 c19 ([y11, y15] : List DCell), kS0 A16 n16 c16 y15.Slots, kS0 A17 n17 c17 y15.More, slC rDValue (.slice none 0 0) ([] : List DValue), kS0 A12 n12 c12 y11.Slots, kS0 A13 n13 c13 y11.More, slC rDValue (.slice none 0 0) ([] : List DValue), kS1 A10 n10 c10 ([y3, y6] : List DCell), kS0 A7 n7 c7 y6.Slots, kS0 A8 n8 c8 y6.More, slC rDValue (.slice none 0 0) ([] : List DValue), kS0 A4 n4 c4 y3.Slots, kS0 A5 n5 c5 y3.More, kS0 A2 n2 c2 ([y1] : List DValue)]) rfl ?_
 obtain ⟨y26, hy26, h⟩ := bind_elim h
 obtain ⟨y29, hy29, h⟩ := bind_elim h
 refine G_sub (t := [(0, .bool false), (1, .func (.func 76) #[] #[]), (2, pV B20 0), (3, .slice A24 n24 c24), (4, .slice A25 n25 c25)]) ?_ subT (cv_refl _)
 refine G_monoX (by kernel_rfl) 10 [6, 7, 8] [5, 6, 7, 8, 9] [35, 36, 37, 38, 34, 39, 40, 41, 42, 5] [[], [], [1], [0, 2], [3], [4], [4], [4], [4], []] [aV (.agg #[.slice A10 n10 c10, .slice A19 n19 c19]),
 aV (.agg #[iV y26.Kind, iV y26.N, .string y26.S]),
 aX3 (fun (A28 : Option Addr) (n28 c28 : Nat) => .slice A28 n28 c28) (fun A28 n28 c28 => [kS0 A28 n28 c28 ([y26] : List DValue)]),
 aX12 (fun (A34 : Option Addr) (n34 c34 : Nat) (A35 : Option Addr) (n35 c35 : Nat) (A36 : Option Addr) (n36 c36 : Nat) (A37 : Option Addr) (n37 c37 : Nat) => .tuple #[.agg #[.slice A34 n34 c34, .slice A35 n35 c35], .slice A36 n36 c36, .slice A37 n37 c37, iV y29.2.2.2]) (fun A34 n34 c34 A35 n35 c35 A36 n36 c36 A37 n37 c37 => [kS1 A34 n34 c34 y29.1.Young, kS1 A35 n35 c35 y29.1.Old, kS0 A36 n36 c36 y29.2.1, kS0 A37 n37 c37 y29.2.2.1]),
 aX12 (fun (A38 : Option Addr) (n38 c38 : Nat) (A39 : Option Addr) (n39 c39 : Nat) (A40 : Option Addr) (n40 c40 : Nat) (A41 : Option Addr) (n41 c41 : Nat) => .tuple #[.agg #[.slice A38 n38 c38, .slice A39 n39 c39], .slice A40 n40 c40, .slice A41 n41 c41, iV y29.2.2.2]) (fun A38 n38 c38 A39 n39 c39 A40 n40 c40 A41 n41 c41 => [kS1 A38 n38 c38 y29.1.Young, kS1 A39 n39 c39 y29.1.Old, kS0 A40 n40 c40 y29.2.1, kS0 A41 n41 c41 y29.2.2.1]),
 aX6 (fun (A46 : Option Addr) (n46 c46 : Nat) (A47 : Option Addr) (n47 c47 : Nat) => .agg #[.slice A46 n46 c46, .slice A47 n47 c47]) (fun A46 n46 c46 A47 n47 c47 => [kS1 A46 n46 c46 y29.1.Young, kS1 A47 n47 c47 y29.1.Old]),
 aX3 (fun (A50 : Option Addr) (n50 c50 : Nat) => .slice A50 n50 c50) (fun A50 n50 c50 => [kS0 A50 n50 c50 y29.2.1]),
 aX3 (fun (A52 : Option Addr) (n52 c52 : Nat) => .slice A52 n52 c52) (fun A52 n52 c52 => [kS0 A52 n52 c52 y29.2.2.1]),
 aV (iV y29.2.2.2),
 aX1 (fun (B55 : Nat) => pV B55 0) (fun B55 => [boxC B55 24 [.slice none 0 0, .slice none 0 0]])] [] (cv_refl _) (qB_cons rfl (qB_cons rfl (qB_cons rfl qB_nil))) (by kernel_rfl) rfl rfl ?_ ?_ ?_
 ·refine qs_cons rfl ?_ ?_
  ·intro A38 n38 c38 A39 n39 c39 A40 n40 c40 A41 n41 c41
   exact QS_ev (ev_extract rfl rfl) rfl (cvp3 A40 n40 c40 ((cv_dup 2 rfl rfl).trans (cv_refl _)))
  refine qs_cons rfl ?_ ?_
  ·intro A38 n38 c38 A39 n39 c39 A40 n40 c40 A41 n41 c41
   exact QS_ev (ev_extract rfl rfl) rfl (cvp3 A41 n41 c41 ((cv_dup 3 rfl rfl).trans (cv_refl _)))
  refine qs_cons rfl ?_ ?_
  ·intro A38 n38 c38 A39 n39 c39 A40 n40 c40 A41 n41 c41
   exact QS_ev (ev_extract rfl rfl) rfl (cvpV rfl (cv_refl _))
  exact qs_nil
 ·refine steps_cons rfl ?_ ?_
  ·refine X_op (op_alloc zero24 rfl) rfl ?_
   rintro _ _ ⟨B54, rfl, rfl⟩
   exact cvp1 B54 (cv_refl _)
  refine steps_cons rfl ?_ ?_
  ·intro A38 n38 c38 A39 n39 c39 A40 n40 c40 A41 n41 c41
   exact X_ev (ev_extract rfl rfl) rfl (cvpV rfl (cv_refl _))
  refine steps_cons rfl ?_ ?_
  ·intro A38 n38 c38 A39 n39 c39 A40 n40 c40 A41 n41 c41
   exact X_ev (ev_extract rfl rfl) rfl (cvp3 A41 n41 c41 ((cv_dup 3 rfl rfl).trans (cv_refl _)))
  refine steps_cons rfl ?_ ?_
  ·intro A38 n38 c38 A39 n39 c39 A40 n40 c40 A41 n41 c41
   exact X_ev (ev_extract rfl rfl) rfl (cvp3 A40 n40 c40 ((cv_dup 2 rfl rfl).trans (cv_refl _)))
  refine steps_cons rfl ?_ ?_
  ·intro A38 n38 c38 A39 n39 c39 A40 n40 c40 A41 n41 c41
   exact X_ev (ev_extract rfl rfl) rfl (cvp6 A38 n38 c38 A39 n39 c39 ((cv_dup 0 rfl rfl).trans ((cv_dup 2 rfl rfl).trans (cv_sel [1, 0, 2, 3, 4, 5, 6, 7, 8, 9, 10, 11, 12, 13, 14, 15, 16, 17, 18, 19, 20, 21, 22, 23] 24 rfl rfl))))
  refine steps_cons rfl ?_ ?_
  ·intro A34 n34 c34 A35 n35 c35 A36 n36 c36 A37 n37 c37
   exact X_ev (ev_move rfl) rfl (cvp12 A34 n34 c34 A35 n35 c35 A36 n36 c36 A37 n37 c37 ((cv_dup 0 rfl rfl).trans ((cv_dup 2 rfl rfl).trans ((cv_dup 4 rfl rfl).trans ((cv_dup 6 rfl rfl).trans (cv_sel [3, 2, 1, 0, 4, 5, 6, 7, 8, 9, 10, 11, 12, 13, 14, 15, 16, 17, 18, 19, 20, 21, 22, 23, 24, 25] 26 rfl rfl))))))
  refine steps_cons rfl ?_ ?_
  ·intro A28 n28 c28
   refine X_op (op_call (major_Collect_ok hy29) call31 rfl (cv_take [12, 5, 0] [] [0, 1, 2, 3, 4, 5, 6, 7, 8, 9, 10, 11, 12, 13, 14, 15, 16, 17, 18] 19 rfl)) rfl ?_
   rintro _ _ ⟨_, ⟨A30, n30, c30, A31, n31, c31, A32, n32, c32, A33, n33, c33, rfl, rfl⟩, rfl⟩
   exact cvp12 A30 n30 c30 A31 n31 c31 A32 n32 c32 A33 n33 c33 ((cv_frz 0 rfl).trans ((cv_frz 1 rfl).trans ((cv_frz 2 rfl).trans ((cv_frz 3 rfl).trans (cv_refl _)))))
  refine steps_cons rfl ?_ ?_
  ·refine X_op (op_bslice (R := rDValue) (vss := [[iV y26.Kind, iV y26.N, .string y26.S]]) (xs := [y26]) rfl (bsl_25_1 _ _ _) rfl rfl (fun _ _ hr => .cons rfl All2.nil)) rfl ?_
   rintro _ _ ⟨A27, n27, c27, rfl, rfl⟩
   exact cvp3 A27 n27 c27 ((cv_frz 0 rfl).trans (cv_refl _))
  refine steps_cons rfl ?_ ?_
  ·refine X_op (op_callR (w22_object_ok hy26) call77 rfl (mem_nil) w22_object_free) rfl ?_
   rintro _ _ ⟨_, ⟨rfl, rfl⟩, rfl⟩
   exact cvpV rfl (cv_refl _)
  refine steps_cons rfl ?_ ?_
  ·exact X_rd (rd_boxS (us := [.slice A10 n10 c10, .slice A19 n19 c19]) 3 rfl rfl agg24 rfl) rfl (cvpV rfl (cv_refl _))
  exact steps_nil
 ·intro A46 n46 c46 A47 n47 c47 A50 n50 c50 A52 n52 c52 B55
  refine N_sub (t := [(39, .agg #[.slice A46 n46 c46, .slice A47 n47 c47]), (40, .slice A50 n50 c50), (41, .slice A52 n52 c52), (42, iV y29.2.2.2), (5, pV B55 0), (0, .bool false), (1, .func (.func 76) #[] #[]), (2, pV B20 0), (3, .slice A24 n24 c24), (4, .slice A25 n25 c25)]) (L' := [kS1 A46 n46 c46 y29.1.Young, kS1 A47 n47 c47 y29.1.Old, kS0 A50 n50 c50 y29.2.1, kS0 A52 n52 c52 y29.2.2.1, boxC B55 24 [.slice none 0 0, .slice none 0 0], kO2 A24 n24 c24 y23.1, kO2 A25 n25 c25 y23.2, kO3 A22 n22 c22 ([y21] : List DValue), boxC B20 24 [.slice A10 n10 c10, .slice A19 n19 c19], kS1 A19 n19 c19 ([y11, y15] : List DCell), kS0 A16 n16 c16 y15.Slots, kS0 A17 n17 c17 y15.More, slC rDValue (.slice none 0 0) ([] : List DValue), kS0 A12 n12 c12 y11.Slots, kS0 A13 n13 c13 y11.More, slC rDValue (.slice none 0 0) ([] : List DValue), kS1 A10 n10 c10 ([y3, y6] : List DCell), kS0 A7 n7 c7 y6.Slots, kS0 A8 n8 c8 y6.More, slC rDValue (.slice none 0 0) ([] : List DValue), kS0 A4 n4 c4 y3.Slots, kS0 A5 n5 c5 y3.More, kS0 A2 n2 c2 ([y1] : List DValue)]) ?_ subT (cv_refl _)
  refine N_opn 10 rfl (by kernel_rfl) (op_store (us := [.slice A46 n46 c46, .slice A47 n47 c47]) (cs' := [.slice A46 n46 c46, .slice A47 n47 c47]) 4 rfl rfl rfl rfl size24 rfl rfl rfl) rfl rfl ?_
  rintro _ _ rfl
  refine N_norm ([kS1 A46 n46 c46 y29.1.Young, kS1 A47 n47 c47 y29.1.Old, kS0 A50 n50 c50 y29.2.1, kS0 A52 n52 c52 y29.2.2.1, boxC B55 24 [.slice A46 n46 c46, .slice A47 n47 c47], kO2 A24 n24 c24 y23.1, kO2 A25 n25 c25 y23.2, kO3 A22 n22 c22 ([y21] : List DValue), boxC B20 24 [.slice A10 n10 c10, .slice A19 n19 c19], kS1 A19 n19 c19 ([y11, y15] : List DCell), kS0 A16 n16 c16 y15.Slots, kS0 A17 n17 c17 y15.More, slC rDValue (.slice none 0 0) ([] : List DValue), kS0 A12 n12 c12 y11.Slots, kS0 A13 n13 c13 y11.More, slC rDValue (.slice none 0 0) ([] : List DValue), kS1 A10 n10 c10 ([y3, y6] : List DCell), kS0 A7 n7 c7 y6.Slots, kS0 A8 n8 c8 y6.More, slC rDValue (.slice none 0 0) ([] : List DValue), kS0 A4 n4 c4 y3.Slots, kS0 A5 n5 c5 y3.More, kS0 A2 n2 c2 ([y1] : List DValue)]) rfl ?_
  refine N_ev 11 rfl (by kernel_rfl) (ev_assign rfl) rfl rfl rfl ?_
  refine N_ev 12 rfl (by kernel_rfl) (ev_assign rfl) rfl rfl rfl ?_
  refine N_ev 13 rfl (by kernel_rfl) (ev_assign rfl) rfl rfl rfl ?_
  refine N_done (by kernel_rfl) ?_
  refine run ?_
  refine gE (ev_build rfl (bld_38_0 _)) ?_
  refine gD (op_bslice (R := rDValue) (vss := [[iV 1, iV 0, .string (⟨#[]⟩)]]) (xs := [(⟨1, 0, ⟨#[]⟩⟩ : DValue)]) rfl (bsl_25_1 _ _ _) rfl rfl (fun _ _ hr => .cons rfl All2.nil)) ?_
  rintro _ _ ⟨A56, n56, c56, rfl, rfl⟩
  obtain ⟨y57, hy57, h⟩ := bind_elim h
  refine gD (op_callR (w22_object_ok hy57) call77 rfl (mem_nil) w22_object_free) ?_
  rintro _ _ ⟨_, ⟨rfl, rfl⟩, rfl⟩
  obtain ⟨y58, hy58, h⟩ := bind_elim h
  refine gD (op_callR (w22_object_ok hy58) call77 rfl (mem_nil) w22_object_free) ?_
  rintro _ _ ⟨_, ⟨rfl, rfl⟩, rfl⟩
  obtain ⟨y59, hy59, h⟩ := bind_elim h
  refine gD (op_callR (w22_object_ok hy59) call77 rfl (mem_nil) w22_object_free) ?_
  rintro _ _ ⟨_, ⟨rfl, rfl⟩, rfl⟩
  refine gE (ev_build rfl (bld_38_)) ?_
  refine gE (ev_build rfl (bld_38_0_1 _ _)) ?_
  refine gD (op_bslice (R := rDValue) (vss := [[iV y57.Kind, iV y57.N, .string y57.S], [iV y58.Kind, iV y58.N, .string y58.S], [iV y59.Kind, iV y59.N, .string y59.S], [iV 0, iV 0, .string (⟨#[]⟩)], [iV 3, iV 7, .string (⟨#[]⟩)]]) (xs := [y57, y58, y59, (⟨0, 0, ⟨#[]⟩⟩ : DValue), (⟨3, 7, ⟨#[]⟩⟩ : DValue)]) rfl (bsl_25_5 _ _ _ _ _ _ _ _ _ _ _ _ _ _ _) rfl rfl (fun _ _ hr => .cons rfl (.cons rfl (.cons rfl (.cons rfl (.cons rfl All2.nil)))))) ?_
  rintro _ _ ⟨A60, n60, c60, rfl, rfl⟩
  refine gE (ev_build rfl (bld_32_0_4_5 _ _ _ _ _ _ _)) ?_
  refine run ?_
  obtain ⟨y61, hy61, h⟩ := bind_elim h
  refine G_cv (cv_nilS rDValue _) ?_
  refine gD (op_callc (w22_goes_c1_ok hy61) call76 rfl rfl rfl (cv_take [0] [] [0, 1, 2, 3, 4, 5, 6, 7, 8, 9, 10, 11, 12, 13, 14, 15, 16, 17, 18, 19, 20, 21, 22, 23, 24, 25] 26 rfl)) ?_
  rintro _ _ ⟨_, ⟨A62, n62, c62, A63, n63, c63, rfl, rfl⟩, rfl⟩
  refine G_norm ([kS0 A62 n62 c62 y61.Slots, kS0 A63 n63 c63 y61.More, slC rDValue (.slice none 0 0) ([] : List DValue), kO3 A60 n60 c60 ([y57, y58, y59, (⟨0, 0, ⟨#[]⟩⟩ : DValue), (⟨3, 7, ⟨#[]⟩⟩ : DValue)] : List DValue), kO3 A56 n56 c56 ([(⟨1, 0, ⟨#[]⟩⟩ : DValue)] : List DValue), kS1 A46 n46 c46 y29.1.Young, kS1 A47 n47 c47 y29.1.Old, kS0 A50 n50 c50 y29.2.1, kS0 A52 n52 c52 y29.2.2.1, boxC B55 24 [.slice A46 n46 c46, .slice A47 n47 c47], kO2 A24 n24 c24 y23.1, kO2 A25 n25 c25 y23.2, kO3 A22 n22 c22 ([y21] : List DValue), boxC B20 24 [.slice A10 n10 c10, .slice A19 n19 c19], kS1 A19 n19 c19 ([y11, y15] : List DCell), kS0 A16 n16 c16 y15.Slots, kS0 A17 n17 c17 y15.More, slC rDValue (.slice none 0 0) ([] : List DValue), kS0 A12 n12 c12 y11.Slots, kS0 A13 n13 c13 y11.More, slC rDValue (.slice none 0 0) ([] : List DValue), kS1 A10 n10 c10 ([y3, y6] : List DCell), kS0 A7 n7 c7 y6.Slots, kS0 A8 n8 c8 y6.More, slC rDValue (.slice none 0 0) ([] : List DValue), kS0 A4 n4 c4 y3.Slots, kS0 A5 n5 c5 y3.More, kS0 A2 n2 c2 ([y1] : List DValue)]) rfl ?_
  refine run ?_
  obtain ⟨y65, hy65, h⟩ := bind_elim h
  refine G_cv (cv_nilS rDValue _) ?_
  refine gD (op_callc (w22_goes_c1_ok hy65) call76 rfl rfl rfl (cv_take [0] [] [0, 1, 2, 3, 4, 5, 6, 7, 8, 9, 10, 11, 12, 13, 14, 15, 16, 17, 18, 19, 20, 21, 22, 23, 24, 25, 26, 27, 28] 29 rfl)) ?_
  rintro _ _ ⟨_, ⟨A66, n66, c66, A67, n67, c67, rfl, rfl⟩, rfl⟩
  refine G_norm ([kS0 A66 n66 c66 y65.Slots, kS0 A67 n67 c67 y65.More, slC rDValue (.slice none 0 0) ([] : List DValue), kS0 A62 n62 c62 y61.Slots, kS0 A63 n63 c63 y61.More, slC rDValue (.slice none 0 0) ([] : List DValue), kO3 A60 n60 c60 ([y57, y58, y59, (⟨0, 0, ⟨#[]⟩⟩ : DValue), (⟨3, 7, ⟨#[]⟩⟩ : DValue)] : List DValue), kO3 A56 n56 c56 ([(⟨1, 0, ⟨#[]⟩⟩ : DValue)] : List DValue), kS1 A46 n46 c46 y29.1.Young, kS1 A47 n47 c47 y29.1.Old, kS0 A50 n50 c50 y29.2.1, kS0 A52 n52 c52 y29.2.2.1, boxC B55 24 [.slice A46 n46 c46, .slice A47 n47 c47], kO2 A24 n24 c24 y23.1, kO2 A25 n25 c25 y23.2, kO3 A22 n22 c22 ([y21] : List DValue), boxC B20 24 [.slice A10 n10 c10, .slice A19 n19 c19], kS1 A19 n19 c19 ([y11, y15] : List DCell), kS0 A16 n16 c16 y15.Slots, kS0 A17 n17 c17 y15.More, slC rDValue (.slice none 0 0) ([] : List DValue), kS0 A12 n12 c12 y11.Slots, kS0 A13 n13 c13 y11.More, slC rDValue (.slice none 0 0) ([] : List DValue), kS1 A10 n10 c10 ([y3, y6] : List DCell), kS0 A7 n7 c7 y6.Slots, kS0 A8 n8 c8 y6.More, slC rDValue (.slice none 0 0) ([] : List DValue), kS0 A4 n4 c4 y3.Slots, kS0 A5 n5 c5 y3.More, kS0 A2 n2 c2 ([y1] : List DValue)]) rfl ?_
  refine run ?_
  obtain ⟨y69, hy69, h⟩ := bind_elim h
  refine G_cv (cv_nilS rDValue _) ?_
  refine gD (op_callc (w22_goes_c1_ok hy69) call76 rfl rfl rfl (cv_take [0] [] [0, 1, 2, 3, 4, 5, 6, 7, 8, 9, 10, 11, 12, 13, 14, 15, 16, 17, 18, 19, 20, 21, 22, 23, 24, 25, 26, 27, 28, 29, 30, 31] 32 rfl)) ?_
  rintro _ _ ⟨_, ⟨A70, n70, c70, A71, n71, c71, rfl, rfl⟩, rfl⟩
  refine G_norm ([kS0 A70 n70 c70 y69.Slots, kS0 A71 n71 c71 y69.More, slC rDValue (.slice none 0 0) ([] : List DValue), kS0 A66 n66 c66 y65.Slots, kS0 A67 n67 c67 y65.More, slC rDValue (.slice none 0 0) ([] : List DValue), kS0 A62 n62 c62 y61.Slots, kS0 A63 n63 c63 y61.More, slC rDValue (.slice none 0 0) ([] : List DValue), kO3 A60 n60 c60 ([y57, y58, y59, (⟨0, 0, ⟨#[]⟩⟩ : DValue), (⟨3, 7, ⟨#[]⟩⟩ : DValue)] : List DValue), kO3 A56 n56 c56 ([(⟨1, 0, ⟨#[]⟩⟩ : DValue)] : List DValue), kS1 A46 n46 c46 y29.1.Young, kS1 A47 n47 c47 y29.1.Old, kS0 A50 n50 c50 y29.2.1, kS0 A52 n52 c52 y29.2.2.1, boxC B55 24 [.slice A46 n46 c46, .slice A47 n47 c47], kO2 A24 n24 c24 y23.1, kO2 A25 n25 c25 y23.2, kO3 A22 n22 c22 ([y21] : List DValue), boxC B20 24 [.slice A10 n10 c10, .slice A19 n19 c19], kS1 A19 n19 c19 ([y11, y15] : List DCell), kS0 A16 n16 c16 y15.Slots, kS0 A17 n17 c17 y15.More, slC rDValue (.slice none 0 0) ([] : List DValue), kS0 A12 n12 c12 y11.Slots, kS0 A13 n13 c13 y11.More, slC rDValue (.slice none 0 0) ([] : List DValue), kS1 A10 n10 c10 ([y3, y6] : List DCell), kS0 A7 n7 c7 y6.Slots, kS0 A8 n8 c8 y6.More, slC rDValue (.slice none 0 0) ([] : List DValue), kS0 A4 n4 c4 y3.Slots, kS0 A5 n5 c5 y3.More, kS0 A2 n2 c2 ([y1] : List DValue)]) rfl ?_
  refine G_cv (cv_frz 10 rfl) ?_
  refine G_norm ([kS0 A70 n70 c70 y69.Slots, kS0 A71 n71 c71 y69.More, slC rDValue (.slice none 0 0) ([] : List DValue), kS0 A66 n66 c66 y65.Slots, kS0 A67 n67 c67 y65.More, slC rDValue (.slice none 0 0) ([] : List DValue), kS0 A62 n62 c62 y61.Slots, kS0 A63 n63 c63 y61.More, slC rDValue (.slice none 0 0) ([] : List DValue), kO3 A60 n60 c60 ([y57, y58, y59, (⟨0, 0, ⟨#[]⟩⟩ : DValue), (⟨3, 7, ⟨#[]⟩⟩ : DValue)] : List DValue), kS0 A56 n56 c56 ([(⟨1, 0, ⟨#[]⟩⟩ : DValue)] : List DValue), kS1 A46 n46 c46 y29.1.Young, kS1 A47 n47 c47 y29.1.Old, kS0 A50 n50 c50 y29.2.1, kS0 A52 n52 c52 y29.2.2.1, boxC B55 24 [.slice A46 n46 c46, .slice A47 n47 c47], kO2 A24 n24 c24 y23.1, kO2 A25 n25 c25 y23.2, kO3 A22 n22 c22 ([y21] : List DValue), boxC B20 24 [.slice A10 n10 c10, .slice A19 n19 c19], kS1 A19 n19 c19 ([y11, y15] : List DCell), kS0 A16 n16 c16 y15.Slots, kS0 A17 n17 c17 y15.More, slC rDValue (.slice none 0 0) ([] : List DValue), kS0 A12 n12 c12 y11.Slots, kS0 A13 n13 c13 y11.More, slC rDValue (.slice none 0 0) ([] : List DValue), kS1 A10 n10 c10 ([y3, y6] : List DCell), kS0 A7 n7 c7 y6.Slots, kS0 A8 n8 c8 y6.More, slC rDValue (.slice none 0 0) ([] : List DValue), kS0 A4 n4 c4 y3.Slots, kS0 A5 n5 c5 y3.More, kS0 A2 n2 c2 ([y1] : List DValue)]) rfl ?_
  refine G_cv (cv_frz 9 rfl) ?_
  refine G_norm ([kS0 A70 n70 c70 y69.Slots, kS0 A71 n71 c71 y69.More, slC rDValue (.slice none 0 0) ([] : List DValue), kS0 A66 n66 c66 y65.Slots, kS0 A67 n67 c67 y65.More, slC rDValue (.slice none 0 0) ([] : List DValue), kS0 A62 n62 c62 y61.Slots, kS0 A63 n63 c63 y61.More, slC rDValue (.slice none 0 0) ([] : List DValue), kS0 A60 n60 c60 ([y57, y58, y59, (⟨0, 0, ⟨#[]⟩⟩ : DValue), (⟨3, 7, ⟨#[]⟩⟩ : DValue)] : List DValue), kS0 A56 n56 c56 ([(⟨1, 0, ⟨#[]⟩⟩ : DValue)] : List DValue), kS1 A46 n46 c46 y29.1.Young, kS1 A47 n47 c47 y29.1.Old, kS0 A50 n50 c50 y29.2.1, kS0 A52 n52 c52 y29.2.2.1, boxC B55 24 [.slice A46 n46 c46, .slice A47 n47 c47], kO2 A24 n24 c24 y23.1, kO2 A25 n25 c25 y23.2, kO3 A22 n22 c22 ([y21] : List DValue), boxC B20 24 [.slice A10 n10 c10, .slice A19 n19 c19], kS1 A19 n19 c19 ([y11, y15] : List DCell), kS0 A16 n16 c16 y15.Slots, kS0 A17 n17 c17 y15.More, slC rDValue (.slice none 0 0) ([] : List DValue), kS0 A12 n12 c12 y11.Slots, kS0 A13 n13 c13 y11.More, slC rDValue (.slice none 0 0) ([] : List DValue), kS1 A10 n10 c10 ([y3, y6] : List DCell), kS0 A7 n7 c7 y6.Slots, kS0 A8 n8 c8 y6.More, slC rDValue (.slice none 0 0) ([] : List DValue), kS0 A4 n4 c4 y3.Slots, kS0 A5 n5 c5 y3.More, kS0 A2 n2 c2 ([y1] : List DValue)]) rfl ?_
  refine gD (op_bslice (R := rDCell) (vss := [[iV 10, iV 0, iV 0, iV 0, .slice A56 n56 c56, .slice A60 n60 c60], [iV y61.Kind, iV y61.Shape, iV y61.Flags, iV y61.Age, .slice A62 n62 c62, .slice A63 n63 c63], [iV y65.Kind, iV y65.Shape, iV y65.Flags, iV y65.Age, .slice A66 n66 c66, .slice A67 n67 c67], [iV y69.Kind, iV y69.Shape, iV y69.Flags, iV y69.Age, .slice A70 n70 c70, .slice A71 n71 c71]]) (xs := [(⟨10, 0, 0, 0, ([(⟨1, 0, ⟨#[]⟩⟩ : DValue)] : List DValue), ([y57, y58, y59, (⟨0, 0, ⟨#[]⟩⟩ : DValue), (⟨3, 7, ⟨#[]⟩⟩ : DValue)] : List DValue)⟩ : DCell), y61, y65, y69]) rfl (bsl_22_4 _ _ _ _ _ _ _ _ _ _ _ _ _ _ _ _ _ _ _ _ _ _ _ _ _ _ _ _ _ _ _ _ _ _ _ _ _ _ _ _) rfl rfl (fun _ _ hr => .cons (⟨_, _, _, _, _, _, rfl, hr 10 _ rfl rfl, hr 9 _ rfl rfl⟩) (.cons (⟨_, _, _, _, _, _, rfl, hr 6 _ rfl rfl, hr 7 _ rfl rfl⟩) (.cons (⟨_, _, _, _, _, _, rfl, hr 3 _ rfl rfl, hr 4 _ rfl rfl⟩) (.cons (⟨_, _, _, _, _, _, rfl, hr 0 _ rfl rfl, hr 1 _ rfl rfl⟩) All2.nil))))) ?_
  rintro _ _ ⟨A73, n73, c73, rfl, rfl⟩
  refine gE (ev_build rfl (bld_24_1 _ _ _)) ?_
  refine gD (op_alloc zero24 rfl) ?_
  rintro _ _ ⟨B74, rfl, rfl⟩
  refine gO (op_store (us := [.slice none 0 0, .slice A73 n73 c73]) (cs' := [.slice none 0 0, .slice A73 n73 c73]) 0 rfl rfl rfl rfl size24 rfl rfl rfl) ?_
  rintro _ _ rfl
  refine G_norm ([boxC B74 24 [.slice none 0 0, .slice A73 n73 c73], kO4 A73 n73 c73 ([(⟨10, 0, 0, 0, ([(⟨1, 0, ⟨#[]⟩⟩ : DValue)] : List DValue), ([y57, y58, y59, (⟨0, 0, ⟨#[]⟩⟩ : DValue), (⟨3, 7, ⟨#[]⟩⟩ : DValue)] : List DValue)⟩ : DCell), y61, y65, y69] : List DCell), kS0 A70 n70 c70 y69.Slots, kS0 A71 n71 c71 y69.More, slC rDValue (.slice none 0 0) ([] : List DValue), kS0 A66 n66 c66 y65.Slots, kS0 A67 n67 c67 y65.More, slC rDValue (.slice none 0 0) ([] : List DValue), kS0 A62 n62 c62 y61.Slots, kS0 A63 n63 c63 y61.More, slC rDValue (.slice none 0 0) ([] : List DValue), kS0 A60 n60 c60 ([y57, y58, y59, (⟨0, 0, ⟨#[]⟩⟩ : DValue), (⟨3, 7, ⟨#[]⟩⟩ : DValue)] : List DValue), kS0 A56 n56 c56 ([(⟨1, 0, ⟨#[]⟩⟩ : DValue)] : List DValue), kS1 A46 n46 c46 y29.1.Young, kS1 A47 n47 c47 y29.1.Old, kS0 A50 n50 c50 y29.2.1, kS0 A52 n52 c52 y29.2.2.1, boxC B55 24 [.slice A46 n46 c46, .slice A47 n47 c47], kO2 A24 n24 c24 y23.1, kO2 A25 n25 c25 y23.2, kO3 A22 n22 c22 ([y21] : List DValue), boxC B20 24 [.slice A10 n10 c10, .slice A19 n19 c19], kS1 A19 n19 c19 ([y11, y15] : List DCell), kS0 A16 n16 c16 y15.Slots, kS0 A17 n17 c17 y15.More, slC rDValue (.slice none 0 0) ([] : List DValue), kS0 A12 n12 c12 y11.Slots, kS0 A13 n13 c13 y11.More, slC rDValue (.slice none 0 0) ([] : List DValue), kS1 A10 n10 c10 ([y3, y6] : List DCell), kS0 A7 n7 c7 y6.Slots, kS0 A8 n8 c8 y6.More, slC rDValue (.slice none 0 0) ([] : List DValue), kS0 A4 n4 c4 y3.Slots, kS0 A5 n5 c5 y3.More, kS0 A2 n2 c2 ([y1] : List DValue)]) rfl ?_
  refine run ?_
  refine G_seq ?_
  refine G_sub ?_ sub_refl (cv_frz 1 rfl)
  refine Wq_norm ([boxC B74 24 [.slice none 0 0, .slice A73 n73 c73], kS1 A73 n73 c73 ([(⟨10, 0, 0, 0, ([(⟨1, 0, ⟨#[]⟩⟩ : DValue)] : List DValue), ([y57, y58, y59, (⟨0, 0, ⟨#[]⟩⟩ : DValue), (⟨3, 7, ⟨#[]⟩⟩ : DValue)] : List DValue)⟩ : DCell), y61, y65, y69] : List DCell), kS0 A70 n70 c70 y69.Slots, kS0 A71 n71 c71 y69.More, slC rDValue (.slice none 0 0) ([] : List DValue), kS0 A66 n66 c66 y65.Slots, kS0 A67 n67 c67 y65.More, slC rDValue (.slice none 0 0) ([] : List DValue), kS0 A62 n62 c62 y61.Slots, kS0 A63 n63 c63 y61.More, slC rDValue (.slice none 0 0) ([] : List DValue), kS0 A60 n60 c60 ([y57, y58, y59, (⟨0, 0, ⟨#[]⟩⟩ : DValue), (⟨3, 7, ⟨#[]⟩⟩ : DValue)] : List DValue), kS0 A56 n56 c56 ([(⟨1, 0, ⟨#[]⟩⟩ : DValue)] : List DValue), kS1 A46 n46 c46 y29.1.Young, kS1 A47 n47 c47 y29.1.Old, kS0 A50 n50 c50 y29.2.1, kS0 A52 n52 c52 y29.2.2.1, boxC B55 24 [.slice A46 n46 c46, .slice A47 n47 c47], kO2 A24 n24 c24 y23.1, kO2 A25 n25 c25 y23.2, kO3 A22 n22 c22 ([y21] : List DValue), boxC B20 24 [.slice A10 n10 c10, .slice A19 n19 c19], kS1 A19 n19 c19 ([y11, y15] : List DCell), kS0 A16 n16 c16 y15.Slots, kS0 A17 n17 c17 y15.More, slC rDValue (.slice none 0 0) ([] : List DValue), kS0 A12 n12 c12 y11.Slots, kS0 A13 n13 c13 y11.More, slC rDValue (.slice none 0 0) ([] : List DValue), kS1 A10 n10 c10 ([y3, y6] : List DCell), kS0 A7 n7 c7 y6.Slots, kS0 A8 n8 c8 y6.More, slC rDValue (.slice none 0 0) ([] : List DValue), kS0 A4 n4 c4 y3.Slots, kS0 A5 n5 c5 y3.More, kS0 A2 n2 c2 ([y1] : List DValue)]) rfl ?_
  obtain ⟨y75, hy75, h⟩ := bind_elim h
  obtain ⟨y78, hy78, h⟩ := bind_elim h
  refine G_sub (t := [(0, .bool false), (3, .slice A24 n24 c24), (4, .slice A25 n25 c25), (5, pV B55 0), (6, .slice A50 n50 c50), (7, .slice A52 n52 c52), (8, iV y29.2.2.2), (9, pV B74 0)]) ?_ subT (cv_refl _)
  refine G_monoX (by kernel_rfl) 10 [6, 7, 8] [5, 6, 7, 8, 9] [61, 62, 63, 64, 60, 65, 66, 67, 68, 10] [[], [], [1], [0, 2], [3], [4], [4], [4], [4], []] [aV (.agg #[.slice none 0 0, .slice A73 n73 c73]),
 aV (.agg #[iV y75.Kind, iV y75.N, .string y75.S]),
 aX3 (fun (A77 : Option Addr) (n77 c77 : Nat) => .slice A77 n77 c77) (fun A77 n77 c77 => [kS0 A77 n77 c77 ([y75] : List DValue)]),
 aX12 (fun (A84 : Option Addr) (n84 c84 : Nat) (A85 : Option Addr) (n85 c85 : Nat) (A86 : Option Addr) (n86 c86 : Nat) (A87 : Option Addr) (n87 c87 : Nat) => .tuple #[.agg #[.slice A84 n84 c84, .slice A85 n85 c85], .slice A86 n86 c86, .slice A87 n87 c87, iV y78.2.2.2]) (fun A84 n84 c84 A85 n85 c85 A86 n86 c86 A87 n87 c87 => [kS1 A84 n84 c84 y78.1.Young, kS1 A85 n85 c85 y78.1.Old, kS0 A86 n86 c86 y78.2.1, kS0 A87 n87 c87 y78.2.2.1]),
 aX12 (fun (A88 : Option Addr) (n88 c88 : Nat) (A89 : Option Addr) (n89 c89 : Nat) (A90 : Option Addr) (n90 c90 : Nat) (A91 : Option Addr) (n91 c91 : Nat) => .tuple #[.agg #[.slice A88 n88 c88, .slice A89 n89 c89], .slice A90 n90 c90, .slice A91 n91 c91, iV y78.2.2.2]) (fun A88 n88 c88 A89 n89 c89 A90 n90 c90 A91 n91 c91 => [kS1 A88 n88 c88 y78.1.Young, kS1 A89 n89 c89 y78.1.Old, kS0 A90 n90 c90 y78.2.1, kS0 A91 n91 c91 y78.2.2.1]),
 aX6 (fun (A96 : Option Addr) (n96 c96 : Nat) (A97 : Option Addr) (n97 c97 : Nat) => .agg #[.slice A96 n96 c96, .slice A97 n97 c97]) (fun A96 n96 c96 A97 n97 c97 => [kS1 A96 n96 c96 y78.1.Young, kS1 A97 n97 c97 y78.1.Old]),
 aX3 (fun (A100 : Option Addr) (n100 c100 : Nat) => .slice A100 n100 c100) (fun A100 n100 c100 => [kS0 A100 n100 c100 y78.2.1]),
 aX3 (fun (A102 : Option Addr) (n102 c102 : Nat) => .slice A102 n102 c102) (fun A102 n102 c102 => [kS0 A102 n102 c102 y78.2.2.1]),
 aV (iV y78.2.2.2),
 aX1 (fun (B105 : Nat) => pV B105 0) (fun B105 => [boxC B105 24 [.slice none 0 0, .slice none 0 0]])] [] (cv_refl _) (qB_cons rfl (qB_cons rfl (qB_cons rfl qB_nil))) (by kernel_rfl) rfl rfl ?_ ?_ ?_
  ·refine qs_cons rfl ?_ ?_
   ·intro A88 n88 c88 A89 n89 c89 A90 n90 c90 A91 n91 c91
    exact QS_ev (ev_extract rfl rfl) rfl (cvp3 A90 n90 c90 ((cv_dup 2 rfl rfl).trans (cv_refl _)))
   refine qs_cons rfl ?_ ?_
   ·intro A88 n88 c88 A89 n89 c89 A90 n90 c90 A91 n91 c91
    exact QS_ev (ev_extract rfl rfl) rfl (cvp3 A91 n91 c91 ((cv_dup 3 rfl rfl).trans (cv_refl _)))
   refine qs_cons rfl ?_ ?_
   ·intro A88 n88 c88 A89 n89 c89 A90 n90 c90 A91 n91 c91
    exact QS_ev (ev_extract rfl rfl) rfl (cvpV rfl (cv_refl _))
   exact qs_nil
  ·refine steps_cons rfl ?_ ?_
   ·refine X_op (op_alloc zero24 rfl) rfl ?_
    rintro _ _ ⟨B104, rfl, rfl⟩
    exact cvp1 B104 (cv_refl _)
   refine steps_cons rfl ?_ ?_
   ·intro A88 n88 c88 A89 n89 c89 A90 n90 c90 A91 n91 c91
    exact X_ev (ev_extract rfl rfl) rfl (cvpV rfl (cv_refl _))
   refine steps_cons rfl ?_ ?_
   ·intro A88 n88 c88 A89 n89 c89 A90 n90 c90 A91 n91 c91
    exact X_ev (ev_extract rfl rfl) rfl (cvp3 A91 n91 c91 ((cv_dup 3 rfl rfl).trans (cv_refl _)))
   refine steps_cons rfl ?_ ?_
   ·intro A88 n88 c88 A89 n89 c89 A90 n90 c90 A91 n91 c91
    exact X_ev (ev_extract rfl rfl) rfl (cvp3 A90 n90 c90 ((cv_dup 2 rfl rfl).trans (cv_refl _)))
   refine steps_cons rfl ?_ ?_
   ·intro A88 n88 c88 A89 n89 c89 A90 n90 c90 A91 n91 c91
    exact X_ev (ev_extract rfl rfl) rfl (cvp6 A88 n88 c88 A89 n89 c89 ((cv_dup 0 rfl rfl).trans ((cv_dup 2 rfl rfl).trans (cv_sel [1, 0, 2, 3, 4, 5, 6, 7, 8, 9, 10, 11, 12, 13, 14, 15, 16, 17, 18, 19, 20, 21, 22, 23, 24, 25, 26, 27, 28, 29, 30, 31, 32, 33, 34, 35, 36, 37, 38, 39, 40, 41] 42 rfl rfl))))
   refine steps_cons rfl ?_ ?_
   ·intro A84 n84 c84 A85 n85 c85 A86 n86 c86 A87 n87 c87
    exact X_ev (ev_move rfl) rfl (cvp12 A84 n84 c84 A85 n85 c85 A86 n86 c86 A87 n87 c87 ((cv_dup 0 rfl rfl).trans ((cv_dup 2 rfl rfl).trans ((cv_dup 4 rfl rfl).trans ((cv_dup 6 rfl rfl).trans (cv_sel [3, 2, 1, 0, 4, 5, 6, 7, 8, 9, 10, 11, 12, 13, 14, 15, 16, 17, 18, 19, 20, 21, 22, 23, 24, 25, 26, 27, 28, 29, 30, 31, 32, 33, 34, 35, 36, 37, 38, 39, 40, 41, 42, 43] 44 rfl rfl))))))
   refine steps_cons rfl ?_ ?_
   ·intro A77 n77 c77
    refine X_cv (cv_nilS rDCell _) ?_
    refine X_op (op_call (major_Collect_ok hy78) call31 rfl (cv_take [0, 3, 1] [] [0, 1, 2, 3, 4, 5, 6, 7, 8, 9, 10, 11, 12, 13, 14, 15, 16, 17, 18, 19, 20, 21, 22, 23, 24, 25, 26, 27, 28, 29, 30, 31, 32, 33, 34, 35, 36, 37] 38 rfl)) rfl ?_
    rintro _ _ ⟨_, ⟨A79, n79, c79, A80, n80, c80, A81, n81, c81, A82, n82, c82, rfl, rfl⟩, rfl⟩
    exact cvp12 A79 n79 c79 A80 n80 c80 A81 n81 c81 A82 n82 c82 ((cv_frz 0 rfl).trans ((cv_frz 1 rfl).trans ((cv_frz 2 rfl).trans ((cv_frz 3 rfl).trans (cv_sel [0, 1, 2, 3, 5, 6, 7, 8, 9, 10, 11, 12, 13, 14, 15, 16, 17, 18, 19, 20, 21, 22, 23, 24, 25, 26, 27, 28, 29, 30, 31, 32, 33, 34, 35, 36, 37, 38, 39, 40, 41] 42 rfl rfl)))))
   refine steps_cons rfl ?_ ?_
   ·refine X_op (op_bslice (R := rDValue) (vss := [[iV y75.Kind, iV y75.N, .string y75.S]]) (xs := [y75]) rfl (bsl_25_1 _ _ _) rfl rfl (fun _ _ hr => .cons rfl All2.nil)) rfl ?_
    rintro _ _ ⟨A76, n76, c76, rfl, rfl⟩
    exact cvp3 A76 n76 c76 ((cv_frz 0 rfl).trans (cv_refl _))
   refine steps_cons rfl ?_ ?_
   ·refine X_op (op_callR (w22_object_ok hy75) call77 rfl (mem_nil) w22_object_free) rfl ?_
    rintro _ _ ⟨_, ⟨rfl, rfl⟩, rfl⟩
    exact cvpV rfl (cv_refl _)
   refine steps_cons rfl ?_ ?_
   ·exact X_rd (rd_boxS (us := [.slice none 0 0, .slice A73 n73 c73]) 0 rfl rfl agg24 rfl) rfl (cvpV rfl (cv_refl _))
   exact steps_nil
  ·intro A96 n96 c96 A97 n97 c97 A100 n100 c100 A102 n102 c102 B105
   refine N_sub (t := [(65, .agg #[.slice A96 n96 c96, .slice A97 n97 c97]), (66, .slice A100 n100 c100), (67, .slice A102 n102 c102), (68, iV y78.2.2.2), (10, pV B105 0), (0, .bool false), (3, .slice A24 n24 c24), (4, .slice A25 n25 c25), (5, pV B55 0), (6, .slice A50 n50 c50), (7, .slice A52 n52 c52), (8, iV y29.2.2.2), (9, pV B74 0)]) (L' := [kS1 A96 n96 c96 y78.1.Young, kS1 A97 n97 c97 y78.1.Old, kS0 A100 n100 c100 y78.2.1, kS0 A102 n102 c102 y78.2.2.1, boxC B105 24 [.slice none 0 0, .slice none 0 0], boxC B74 24 [.slice none 0 0, .slice A73 n73 c73], kS1 A73 n73 c73 ([(⟨10, 0, 0, 0, ([(⟨1, 0, ⟨#[]⟩⟩ : DValue)] : List DValue), ([y57, y58, y59, (⟨0, 0, ⟨#[]⟩⟩ : DValue), (⟨3, 7, ⟨#[]⟩⟩ : DValue)] : List DValue)⟩ : DCell), y61, y65, y69] : List DCell), kS0 A70 n70 c70 y69.Slots, kS0 A71 n71 c71 y69.More, slC rDValue (.slice none 0 0) ([] : List DValue), kS0 A66 n66 c66 y65.Slots, kS0 A67 n67 c67 y65.More, slC rDValue (.slice none 0 0) ([] : List DValue), kS0 A62 n62 c62 y61.Slots, kS0 A63 n63 c63 y61.More, slC rDValue (.slice none 0 0) ([] : List DValue), kS0 A60 n60 c60 ([y57, y58, y59, (⟨0, 0, ⟨#[]⟩⟩ : DValue), (⟨3, 7, ⟨#[]⟩⟩ : DValue)] : List DValue), kS0 A56 n56 c56 ([(⟨1, 0, ⟨#[]⟩⟩ : DValue)] : List DValue), kS1 A46 n46 c46 y29.1.Young, kS1 A47 n47 c47 y29.1.Old, kS0 A50 n50 c50 y29.2.1, kS0 A52 n52 c52 y29.2.2.1, boxC B55 24 [.slice A46 n46 c46, .slice A47 n47 c47], kO2 A24 n24 c24 y23.1, kO2 A25 n25 c25 y23.2, kO3 A22 n22 c22 ([y21] : List DValue), boxC B20 24 [.slice A10 n10 c10, .slice A19 n19 c19], kS1 A19 n19 c19 ([y11, y15] : List DCell), kS0 A16 n16 c16 y15.Slots, kS0 A17 n17 c17 y15.More, slC rDValue (.slice none 0 0) ([] : List DValue), kS0 A12 n12 c12 y11.Slots, kS0 A13 n13 c13 y11.More, slC rDValue (.slice none 0 0) ([] : List DValue), kS1 A10 n10 c10 ([y3, y6] : List DCell), kS0 A7 n7 c7 y6.Slots, kS0 A8 n8 c8 y6.More, slC rDValue (.slice none 0 0) ([] : List DValue), kS0 A4 n4 c4 y3.Slots, kS0 A5 n5 c5 y3.More, kS0 A2 n2 c2 ([y1] : List DValue)]) ?_ subT (cv_refl _)
   refine N_opn 10 rfl (by kernel_rfl) (op_store (us := [.slice A96 n96 c96, .slice A97 n97 c97]) (cs' := [.slice A96 n96 c96, .slice A97 n97 c97]) 4 rfl rfl rfl rfl size24 rfl rfl rfl) rfl rfl ?_
   rintro _ _ rfl
   refine N_norm ([kS1 A96 n96 c96 y78.1.Young, kS1 A97 n97 c97 y78.1.Old, kS0 A100 n100 c100 y78.2.1, kS0 A102 n102 c102 y78.2.2.1, boxC B105 24 [.slice A96 n96 c96, .slice A97 n97 c97], boxC B74 24 [.slice none 0 0, .slice A73 n73 c73], kS1 A73 n73 c73 ([(⟨10, 0, 0, 0, ([(⟨1, 0, ⟨#[]⟩⟩ : DValue)] : List DValue), ([y57, y58, y59, (⟨0, 0, ⟨#[]⟩⟩ : DValue), (⟨3, 7, ⟨#[]⟩⟩ : DValue)] : List DValue)⟩ : DCell), y61, y65, y69] : List DCell), kS0 A70 n70 c70 y69.Slots, kS0 A71 n71 c71 y69.More, slC rDValue (.slice none 0 0) ([] : List DValue), kS0 A66 n66 c66 y65.Slots, kS0 A67 n67 c67 y65.More, slC rDValue (.slice none 0 0) ([] : List DValue), kS0 A62 n62 c62 y61.Slots, kS0 A63 n63 c63 y61.More, slC rDValue (.slice none 0 0) ([] : List DValue), kS0 A60 n60 c60 ([y57, y58, y59, (⟨0, 0, ⟨#[]⟩⟩ : DValue), (⟨3, 7, ⟨#[]⟩⟩ : DValue)] : List DValue), kS0 A56 n56 c56 ([(⟨1, 0, ⟨#[]⟩⟩ : DValue)] : List DValue), kS1 A46 n46 c46 y29.1.Young, kS1 A47 n47 c47 y29.1.Old, kS0 A50 n50 c50 y29.2.1, kS0 A52 n52 c52 y29.2.2.1, boxC B55 24 [.slice A46 n46 c46, .slice A47 n47 c47], kO2 A24 n24 c24 y23.1, kO2 A25 n25 c25 y23.2, kO3 A22 n22 c22 ([y21] : List DValue), boxC B20 24 [.slice A10 n10 c10, .slice A19 n19 c19], kS1 A19 n19 c19 ([y11, y15] : List DCell), kS0 A16 n16 c16 y15.Slots, kS0 A17 n17 c17 y15.More, slC rDValue (.slice none 0 0) ([] : List DValue), kS0 A12 n12 c12 y11.Slots, kS0 A13 n13 c13 y11.More, slC rDValue (.slice none 0 0) ([] : List DValue), kS1 A10 n10 c10 ([y3, y6] : List DCell), kS0 A7 n7 c7 y6.Slots, kS0 A8 n8 c8 y6.More, slC rDValue (.slice none 0 0) ([] : List DValue), kS0 A4 n4 c4 y3.Slots, kS0 A5 n5 c5 y3.More, kS0 A2 n2 c2 ([y1] : List DValue)]) rfl ?_
   refine N_ev 11 rfl (by kernel_rfl) (ev_assign rfl) rfl rfl rfl ?_
   refine N_ev 12 rfl (by kernel_rfl) (ev_assign rfl) rfl rfl rfl ?_
   refine N_ev 13 rfl (by kernel_rfl) (ev_assign rfl) rfl rfl rfl ?_
   refine N_done (by kernel_rfl) ?_
   refine nx_n ?_
   refine G_seq ?_
   obtain ⟨y108, hy108, h⟩ := bind_elim h
   obtain ⟨b109, hb109, h⟩ := bind_elim h
   obtain ⟨c109, hc109⟩ : ∃ c, y108 = c := ⟨_, rfl⟩
   obtain ⟨y112, hs109⟩ : ∃ (y112 : (Bool)), c109 = true → ((r19_Same_O N y23.2 ([2, 4] : List Int)) = some y112 ∧ y112 = b109) := by
    cases c109
    ·exact ⟨default, fun e => by cases e⟩
    ·replace hb109 := cond_t hc109 hb109
     obtain ⟨y112, hy112, hb109⟩ := bind_elim hb109
     exact ⟨y112, fun _ => ⟨hy112, Option.some.inj hb109⟩⟩
   have ho109 : c109 = false → b109 = false := fun e => (Option.some.inj (cond_f (hc109.trans e) hb109)).symm
   obtain ⟨b113, hb113, h⟩ := bind_elim h
   obtain ⟨c113, hc113⟩ : ∃ c, b109 = c := ⟨_, rfl⟩
   obtain hs113 : c113 = true → ((decide (y29.2.2.2 = 0)) = b113) := by
    cases c113
    ·exact fun e => by cases e
    ·replace hb113 := cond_t hc113 hb113
     exact fun _ => Option.some.inj hb113
   have ho113 : c113 = false → b113 = false := fun e => (Option.some.inj (cond_f (hc113.trans e) hb113)).symm
   obtain ⟨b114, hb114, h⟩ := bind_elim h
   obtain ⟨c114, hc114⟩ : ∃ c, b113 = c := ⟨_, rfl⟩
   obtain hs114 : c114 = true → ((decide ((y29.1.Old.length : Int) = 2)) = b114) := by
    cases c114
    ·exact fun e => by cases e
    ·replace hb114 := cond_t hc114 hb114
     exact fun _ => Option.some.inj hb114
   have ho114 : c114 = false → b114 = false := fun e => (Option.some.inj (cond_f (hc114.trans e) hb114)).symm
   obtain ⟨b115, hb115, h⟩ := bind_elim h
   obtain ⟨c115, hc115⟩ : ∃ c, b114 = c := ⟨_, rfl⟩
   obtain hs115 : c115 = true → ((decide ((y29.1.Young.length : Int) = 0)) = b115) := by
    cases c115
    ·exact fun e => by cases e
    ·replace hb115 := cond_t hc115 hb115
     exact fun _ => Option.some.inj hb115
   have ho115 : c115 = false → b115 = false := fun e => (Option.some.inj (cond_f (hc115.trans e) hb115)).symm
   obtain ⟨b116, hb116, h⟩ := bind_elim h
   obtain ⟨c116, hc116⟩ : ∃ c, b115 = c := ⟨_, rfl⟩
   obtain ⟨x117, hs116⟩ : ∃ (x117 : DCell), c116 = true → ((getE y29.1.Old 1) = some x117 ∧ (decide ((x117.More.length : Int) = 1)) = b116) := by
    cases c116
    ·exact ⟨default, fun e => by cases e⟩
    ·replace hb116 := cond_t hc116 hb116
     obtain ⟨x117, hx117, hb116⟩ := bind_elim hb116
     exact ⟨x117, fun _ => ⟨hx117, Option.some.inj hb116⟩⟩
   have ho116 : c116 = false → b116 = false := fun e => (Option.some.inj (cond_f (hc116.trans e) hb116)).symm
   obtain ⟨b122, hb122, h⟩ := bind_elim h
   obtain ⟨c122, hc122⟩ : ∃ c, b116 = c := ⟨_, rfl⟩
   obtain ⟨x123, x128, y131, hs122⟩ : ∃ (x123 : DCell) (x128 : DValue) (y131 : (DValue)), c122 = true → ((getE y29.1.Old 1) = some x123 ∧ (getE x123.More 0) = some x128 ∧ (w22_object_O N 2) = some y131 ∧ (decide (x128 = y131)) = b122) := by
    cases c122
    ·exact ⟨default, default, default, fun e => by cases e⟩
    ·replace hb122 := cond_t hc122 hb122
     obtain ⟨x123, hx123, hb122⟩ := bind_elim hb122
     obtain ⟨x128, hx128, hb122⟩ := bind_elim hb122
     obtain ⟨y131, hy131, hb122⟩ := bind_elim hb122
     exact ⟨x123, x128, y131, fun _ => ⟨hx123, hx128, hy131, Option.some.inj hb122⟩⟩
   have ho122 : c122 = false → b122 = false := fun e => (Option.some.inj (cond_f (hc122.trans e) hb122)).symm
   obtain ⟨b132, hb132, h⟩ := bind_elim h
   obtain ⟨c132, hc132⟩ : ∃ c, b122 = c := ⟨_, rfl⟩
   obtain hs132 : c132 = true → ((decide ((y29.2.1.length : Int) = 1)) = b132) := by
    cases c132
    ·exact fun e => by cases e
    ·replace hb132 := cond_t hc132 hb132
     exact fun _ => Option.some.inj hb132
   have ho132 : c132 = false → b132 = false := fun e => (Option.some.inj (cond_f (hc132.trans e) hb132)).symm
   obtain ⟨b133, hb133, h⟩ := bind_elim h
   obtain ⟨c133, hc133⟩ : ∃ c, b132 = c := ⟨_, rfl⟩
   obtain ⟨x134, y135, hs133⟩ : ∃ (x134 : DValue) (y135 : (DValue)), c133 = true → ((getE y29.2.1 0) = some x134 ∧ (w22_object_O N 4) = some y135 ∧ (decide (x134 = y135)) = b133) := by
    cases c133
    ·exact ⟨default, default, fun e => by cases e⟩
    ·replace hb133 := cond_t hc133 hb133
     obtain ⟨x134, hx134, hb133⟩ := bind_elim hb133
     obtain ⟨y135, hy135, hb133⟩ := bind_elim hb133
     exact ⟨x134, y135, fun _ => ⟨hx134, hy135, Option.some.inj hb133⟩⟩
   have ho133 : c133 = false → b133 = false := fun e => (Option.some.inj (cond_f (hc133.trans e) hb133)).symm
   obtain ⟨b136, hb136, h⟩ := bind_elim h
   obtain ⟨c136, hc136⟩ : ∃ c, b133 = c := ⟨_, rfl⟩
   obtain hs136 : c136 = true → ((decide ((y29.2.2.1.length : Int) = 0)) = b136) := by
    cases c136
    ·exact fun e => by cases e
    ·replace hb136 := cond_t hc136 hb136
     exact fun _ => Option.some.inj hb136
   have ho136 : c136 = false → b136 = false := fun e => (Option.some.inj (cond_f (hc136.trans e) hb136)).symm
   obtain ⟨b137, hb137, h⟩ := bind_elim h
   obtain ⟨c137, hc137⟩ : ∃ c, b136 = c := ⟨_, rfl⟩
   obtain hs137 : c137 = true → ((decide (y78.2.2.2 = 0)) = b137) := by
    cases c137
    ·exact fun e => by cases e
    ·replace hb137 := cond_t hc137 hb137
     exact fun _ => Option.some.inj hb137
   have ho137 : c137 = false → b137 = false := fun e => (Option.some.inj (cond_f (hc137.trans e) hb137)).symm
   obtain ⟨b138, hb138, h⟩ := bind_elim h
   obtain ⟨c138, hc138⟩ : ∃ c, b137 = c := ⟨_, rfl⟩
   obtain hs138 : c138 = true → ((decide ((y78.1.Old.length : Int) = 3)) = b138) := by
    cases c138
    ·exact fun e => by cases e
    ·replace hb138 := cond_t hc138 hb138
     exact fun _ => Option.some.inj hb138
   have ho138 : c138 = false → b138 = false := fun e => (Option.some.inj (cond_f (hc138.trans e) hb138)).symm
   obtain ⟨b139, hb139, h⟩ := bind_elim h
   obtain ⟨c139, hc139⟩ : ∃ c, b138 = c := ⟨_, rfl⟩
   obtain ⟨y140, y141, y144, hs139⟩ : ∃ (y140 : (DValue)) (y141 : (DValue)) (y144 : (Bool)), c139 = true → ((w22_object_O N 4) = some y140 ∧ (w22_object_O N 6) = some y141 ∧ (r15_SameValues_O N y78.2.2.1 ([y140, y141, (⟨3, 7, ⟨#[]⟩⟩ : DValue)] : List DValue)) = some y144 ∧ y144 = b139) := by
    cases c139
    ·exact ⟨default, default, default, fun e => by cases e⟩
    ·replace hb139 := cond_t hc139 hb139
     obtain ⟨y140, hy140, hb139⟩ := bind_elim hb139
     obtain ⟨y141, hy141, hb139⟩ := bind_elim hb139
     obtain ⟨y144, hy144, hb139⟩ := bind_elim hb139
     exact ⟨y140, y141, y144, fun _ => ⟨hy140, hy141, hy144, Option.some.inj hb139⟩⟩
   have ho139 : c139 = false → b139 = false := fun e => (Option.some.inj (cond_f (hc139.trans e) hb139)).symm
   refine G_sub (t := [(0, .bool false), (3, .slice A24 n24 c24), (4, .slice A25 n25 c25), (5, pV B55 0), (6, .slice A50 n50 c50), (7, .slice A52 n52 c52), (8, iV y29.2.2.2), (10, pV B105 0), (12, .slice A102 n102 c102), (13, iV y78.2.2.2)]) ?_ subT (cv_refl _)
   refine G_monoX (by kernel_rfl) 79 [] [78] (69 :: 70 :: 71 :: 72 :: 73 :: 74 :: 75 :: 76 :: 77 :: 78 :: 79 :: 80 :: 81 :: 82 :: 83 :: 84 :: 85 :: 86 :: 87 :: 88 :: 89 :: 90 :: 91 :: 92 :: 93 :: 94 :: 95 :: 96 :: 97 :: 98 :: 99 :: 100 :: 101 :: 102 :: 103 :: 104 :: 105 :: 106 :: 107 :: 108 :: 109 :: 110 :: 111 :: 112 :: 113 :: 114 :: 115 :: 116 :: 117 :: 118 :: 119 :: 120 :: 121 :: 122 :: 123 :: 124 :: 125 :: 126 :: 127 :: 128 :: 129 :: 130 :: 131 :: 132 :: 133 :: 134 :: 135 :: 136 :: 137 :: 138 :: 139 :: 140 :: 141 :: 142 :: 143 :: 144 :: 145 :: 146 :: 147 :: ([] : List Nat)) ([] :: [] :: [0, 1] :: [2] :: [3] :: [3] :: [3, 4, 5] :: [3, 6] :: [7] :: [8] :: [8, 9] :: [8, 10] :: [11] :: [12] :: [12, 13] :: [12, 14] :: [12, 15] :: [12, 16] :: [17] :: [18] :: [18, 19] :: [18, 20] :: [18, 21] :: [18, 22] :: [23] :: [24] :: [24, 25] :: [24, 26] :: [24, 27] :: [24, 28] :: [24, 29] :: [24, 30] :: [24, 31] :: [32] :: [33] :: [33, 34] :: [33, 35] :: [33, 36] :: [33, 37] :: [33, 38] :: [33, 39] :: [33] :: [33, 40, 41] :: [33, 42] :: [43] :: [44] :: [44, 45] :: [44, 46] :: [44, 47] :: [48] :: [49] :: [49, 50] :: [49, 51] :: [49] :: [49, 52, 53] :: [49, 54] :: [55] :: [56] :: [56, 57] :: [56, 58] :: [56, 59] :: [60] :: [61] :: [61, 62] :: [61, 63] :: [64] :: [65] :: [65, 66] :: [65, 67] :: [65, 68] :: [65, 69] :: [70] :: [71] :: [71] :: [71] :: [71] :: [71, 73, 74, 75] :: [71, 72, 76] :: [71, 77] :: ([] : List (List Nat))) ((aV (.slice A24 n24 c24)) :: (aX3 (fun (A107 : Option Addr) (n107 c107 : Nat) => .slice A107 n107 c107) (fun A107 n107 c107 => [kO2 A107 n107 c107 ([2, 1] : List Int)])) :: (aV (.bool y108)) :: (aV (.bool y108)) :: (bif c109 then aV (.slice A25 n25 c25) else aV undef) :: (bif c109 then aX3 (fun (A111 : Option Addr) (n111 c111 : Nat) => .slice A111 n111 c111) (fun A111 n111 c111 => [kO2 A111 n111 c111 ([2, 4] : List Int)]) else aV undef) :: (bif c109 then aV (.bool y112) else aV undef) :: (aV (.bool b109)) :: (aV (.bool b109)) :: (bif c113 then aV (iV y29.2.2.2) else aV undef) :: (bif c113 then aV (.bool (decide (y29.2.2.2 = 0))) else aV undef) :: (aV (.bool b113)) :: (aV (.bool b113)) :: (bif c114 then aV (pV B55 1) else aV undef) :: (bif c114 then aV (.slice A47 n47 c47) else aV undef) :: (bif c114 then aV (iV (y29.1.Old.length : Int)) else aV undef) :: (bif c114 then aV (.bool (decide ((y29.1.Old.length : Int) = 2))) else aV undef) :: (aV (.bool b114)) :: (aV (.bool b114)) :: (bif c115 then aV (pV B55 0) else aV undef) :: (bif c115 then aV (.slice A46 n46 c46) else aV undef) :: (bif c115 then aV (iV (y29.1.Young.length : Int)) else aV undef) :: (bif c115 then aV (.bool (decide ((y29.1.Young.length : Int) = 0))) else aV undef) :: (aV (.bool b115)) :: (aV (.bool b115)) :: (bif c116 then aV (pV B55 1) else aV undef) :: (bif c116 then aV (.slice A47 n47 c47) else aV undef) :: (bif c116 then aV (elemQ (.slice A47 n47 c47) ((1 : Int).toNat) 6 0) else aV undef) :: (bif c116 then aV (elemQ (.slice A47 n47 c47) ((1 : Int).toNat) 6 5) else aV undef) :: (bif c116 then aX3 (fun (A121 : Option Addr) (n121 c121 : Nat) => .slice A121 n121 c121) (fun A121 n121 c121 => [kS0 A121 n121 c121 x117.More]) else aV undef) :: (bif c116 then aV (iV (x117.More.length : Int)) else aV undef) :: (bif c116 then aV (.bool (decide ((x117.More.length : Int) = 1))) else aV undef) :: (aV (.bool b116)) :: (aV (.bool b116)) :: (bif c122 then aV (pV B55 1) else aV undef) :: (bif c122 then aV (.slice A47 n47 c47) else aV undef) :: (bif c122 then aV (elemQ (.slice A47 n47 c47) ((1 : Int).toNat) 6 0) else aV undef) :: (bif c122 then aV (elemQ (.slice A47 n47 c47) ((1 : Int).toNat) 6 5) else aV undef) :: (bif c122 then aX3 (fun (A127 : Option Addr) (n127 c127 : Nat) => .slice A127 n127 c127) (fun A127 n127 c127 => [kS0 A127 n127 c127 x123.More]) else aV undef) :: (bif c122 then aX3 (fun (A129 : Option Addr) (n129 c129 : Nat) => elemQ (.slice A129 n129 c129) ((0 : Int).toNat) 3 0) (fun A129 n129 c129 => [kS0 A129 n129 c129 x123.More]) else aV undef) :: (bif c122 then aV (.agg #[iV x128.Kind, iV x128.N, .string x128.S]) else aV undef) :: (bif c122 then aV (.agg #[iV y131.Kind, iV y131.N, .string y131.S]) else aV undef) :: (bif c122 then aV (.bool (decide (x128 = y131))) else aV undef) :: (aV (.bool b122)) :: (aV (.bool b122)) :: (bif c132 then aV (.slice A50 n50 c50) else aV undef) :: (bif c132 then aV (iV (y29.2.1.length : Int)) else aV undef) :: (bif c132 then aV (.bool (decide ((y29.2.1.length : Int) = 1))) else aV undef) :: (aV (.bool b132)) :: (aV (.bool b132)) :: (bif c133 then aV (.slice A50 n50 c50) else aV undef) :: (bif c133 then aV (elemQ (.slice A50 n50 c50) ((0 : Int).toNat) 3 0) else aV undef) :: (bif c133 then aV (.agg #[iV x134.Kind, iV x134.N, .string x134.S]) else aV undef) :: (bif c133 then aV (.agg #[iV y135.Kind, iV y135.N, .string y135.S]) else aV undef) :: (bif c133 then aV (.bool (decide (x134 = y135))) else aV undef) :: (aV (.bool b133)) :: (aV (.bool b133)) :: (bif c136 then aV (.slice A52 n52 c52) else aV undef) :: (bif c136 then aV (iV (y29.2.2.1.length : Int)) else aV undef) :: (bif c136 then aV (.bool (decide ((y29.2.2.1.length : Int) = 0))) else aV undef) :: (aV (.bool b136)) :: (aV (.bool b136)) :: (bif c137 then aV (iV y78.2.2.2) else aV undef) :: (bif c137 then aV (.bool (decide (y78.2.2.2 = 0))) else aV undef) :: (aV (.bool b137)) :: (aV (.bool b137)) :: (bif c138 then aV (pV B105 1) else aV undef) :: (bif c138 then aV (.slice A97 n97 c97) else aV undef) :: (bif c138 then aV (iV (y78.1.Old.length : Int)) else aV undef) :: (bif c138 then aV (.bool (decide ((y78.1.Old.length : Int) = 3))) else aV undef) :: (aV (.bool b138)) :: (aV (.bool b138)) :: (bif c139 then aV (.slice A102 n102 c102) else aV undef) :: (bif c139 then aV (.agg #[iV y140.Kind, iV y140.N, .string y140.S]) else aV undef) :: (bif c139 then aV (.agg #[iV y141.Kind, iV y141.N, .string y141.S]) else aV undef) :: (bif c139 then aV (.agg #[iV 3, iV 7, .string (⟨#[]⟩)]) else aV undef) :: (bif c139 then aX3 (fun (A143 : Option Addr) (n143 c143 : Nat) => .slice A143 n143 c143) (fun A143 n143 c143 => [kO3 A143 n143 c143 ([y140, y141, (⟨3, 7, ⟨#[]⟩⟩ : DValue)] : List DValue)]) else aV undef) :: (bif c139 then aV (.bool y144) else aV undef) :: (aV (.bool b139)) :: ([] : List Asn)) [] (cv_refl _) (qB_nil) (by kernel_rfl) rfl rfl ?_ ?_ ?_
   ·exact qs_nil
   ·refine steps_cons rfl ?_ ?_
    ·cases c139
     ·exact X_ev (ev_pick_f' hc139 rfl rfl) rfl (cvpV (by rw [ho139 rfl]) (cv_refl _))
     ·obtain ⟨hy140, hy141, hy144, hv139⟩ := hs139 rfl
      exact X_ev (ev_pick_t' hc139 rfl rfl) rfl (cvpV (by rw [hv139]) (cv_refl _))
    refine steps_cons rfl ?_ ?_
    ·cases c139
     ·exact X_no (g_tf hc139 rfl) (cvpV rfl (cv_refl _))
     ·obtain ⟨hy140, hy141, hy144, hv139⟩ := hs139 rfl
      intro A143 n143 c143
      refine X_op (op_callR (r15_SameValues_ok hy144) call35 rfl (mem_cons (lent_ro (i := 4) rfl rfl) (mem_cons (lent_own (i := 0) rfl) mem_nil)) r15_SameValues_free) (g_tt hc139 rfl) ?_
      rintro _ _ ⟨_, ⟨rfl, rfl⟩, rfl⟩
      exact cvpV rfl (cv_refl _)
    refine steps_cons rfl ?_ ?_
    ·cases c139
     ·exact X_no (g_tf hc139 rfl) (cvpV rfl (cv_refl _))
     ·obtain ⟨hy140, hy141, hy144, hv139⟩ := hs139 rfl
      refine X_op (op_bslice (R := rDValue) (vss := [[iV y140.Kind, iV y140.N, .string y140.S], [iV y141.Kind, iV y141.N, .string y141.S], [iV 3, iV 7, .string (⟨#[]⟩)]]) (xs := [y140, y141, (⟨3, 7, ⟨#[]⟩⟩ : DValue)]) rfl (bsl_25_3 _ _ _ _ _ _ _ _ _) rfl rfl (fun _ _ hr => .cons rfl (.cons rfl (.cons rfl All2.nil)))) (g_tt hc139 rfl) ?_
      rintro _ _ ⟨A142, n142, c142, rfl, rfl⟩
      exact cvp3 A142 n142 c142 (cv_refl _)
    refine steps_cons rfl ?_ ?_
    ·cases c139
     ·exact X_no (g_tf hc139 rfl) (cvpV rfl (cv_refl _))
     ·obtain ⟨hy140, hy141, hy144, hv139⟩ := hs139 rfl
      exact X_ev (ev_build rfl (bld_38_0_1 _ _)) (g_tt hc139 rfl) (cvpV rfl (cv_refl _))
    refine steps_cons rfl ?_ ?_
    ·cases c139
     ·exact X_no (g_tf hc139 rfl) (cvpV rfl (cv_refl _))
     ·obtain ⟨hy140, hy141, hy144, hv139⟩ := hs139 rfl
      refine X_op (op_callR (w22_object_ok hy141) call77 rfl (mem_nil) w22_object_free) (g_tt hc139 rfl) ?_
      rintro _ _ ⟨_, ⟨rfl, rfl⟩, rfl⟩
      exact cvpV rfl (cv_refl _)
    refine steps_cons rfl ?_ ?_
    ·cases c139
     ·exact X_no (g_tf hc139 rfl) (cvpV rfl (cv_refl _))
     ·obtain ⟨hy140, hy141, hy144, hv139⟩ := hs139 rfl
      refine X_op (op_callR (w22_object_ok hy140) call77 rfl (mem_nil) w22_object_free) (g_tt hc139 rfl) ?_
      rintro _ _ ⟨_, ⟨rfl, rfl⟩, rfl⟩
      exact cvpV rfl (cv_refl _)
    refine steps_cons rfl ?_ ?_
    ·cases c139
     ·exact X_no (g_tf hc139 rfl) (cvpV rfl (cv_refl _))
     ·obtain ⟨hy140, hy141, hy144, hv139⟩ := hs139 rfl
      exact X_ev (ev_move rfl) (g_tt hc139 rfl) (cvpV rfl (cv_refl _))
    refine steps_cons rfl ?_ ?_
    ·exact X_ev (ev_move rfl) rfl (cvpV rfl (cv_refl _))
    refine steps_cons rfl ?_ ?_
    ·cases c138
     ·exact X_ev (ev_pick_f' hc138 rfl rfl) rfl (cvpV (by rw [ho138 rfl]) (cv_refl _))
     ·have hv138 := hs138 rfl
      exact X_ev (ev_pick_t' hc138 rfl rfl) rfl (cvpV (by rw [hv138]) (cv_refl _))
    refine steps_cons rfl ?_ ?_
    ·cases c138
     ·exact X_no (g_tf hc138 rfl) (cvpV rfl (cv_refl _))
     ·have hv138 := hs138 rfl
      exact X_ev (ev_eq rfl rfl) (g_tt hc138 rfl) (cvpV rfl (cv_refl _))
    refine steps_cons rfl ?_ ?_
    ·cases c138
     ·exact X_no (g_tf hc138 rfl) (cvpV rfl (cv_refl _))
     ·have hv138 := hs138 rfl
      exact X_rd (rd_len 1 rfl els_sl rfl Tryz.underlying22) (g_tt hc138 rfl) (cvpV rfl (cv_refl _))
    refine steps_cons rfl ?_ ?_
    ·cases c138
     ·exact X_no (g_tf hc138 rfl) (cvpV rfl (cv_refl _))
     ·have hv138 := hs138 rfl
      exact X_rd (rd_box1 4 rfl rfl one22 rfl) (g_tt hc138 rfl) (cvpV rfl (cv_refl _))
    refine steps_cons rfl ?_ ?_
    ·cases c138
     ·exact X_no (g_tf hc138 rfl) (cvpV rfl (cv_refl _))
     ·have hv138 := hs138 rfl
      exact X_ev (ev_fa rfl fa_24_1) (g_tt hc138 rfl) (cvpV rfl (cv_refl _))
    refine steps_cons rfl ?_ ?_
    ·exact X_ev (ev_move rfl) rfl (cvpV rfl (cv_refl _))
    refine steps_cons rfl ?_ ?_
    ·cases c137
     ·exact X_ev (ev_pick_f' hc137 rfl rfl) rfl (cvpV (by rw [ho137 rfl]) (cv_refl _))
     ·have hv137 := hs137 rfl
      exact X_ev (ev_pick_t' hc137 rfl rfl) rfl (cvpV (by rw [hv137]) (cv_refl _))
    refine steps_cons rfl ?_ ?_
    ·cases c137
     ·exact X_no (g_tf hc137 rfl) (cvpV rfl (cv_refl _))
     ·have hv137 := hs137 rfl
      exact X_ev (ev_eq rfl rfl) (g_tt hc137 rfl) (cvpV rfl (cv_refl _))
    refine steps_cons rfl ?_ ?_
    ·cases c137
     ·exact X_no (g_tf hc137 rfl) (cvpV rfl (cv_refl _))
     ·have hv137 := hs137 rfl
      exact X_ev (ev_move rfl) (g_tt hc137 rfl) (cvpV rfl (cv_refl _))
    refine steps_cons rfl ?_ ?_
    ·exact X_ev (ev_move rfl) rfl (cvpV rfl (cv_refl _))
    refine steps_cons rfl ?_ ?_
    ·cases c136
     ·exact X_ev (ev_pick_f' hc136 rfl rfl) rfl (cvpV (by rw [ho136 rfl]) (cv_refl _))
     ·have hv136 := hs136 rfl
      exact X_ev (ev_pick_t' hc136 rfl rfl) rfl (cvpV (by rw [hv136]) (cv_refl _))
    refine steps_cons rfl ?_ ?_
    ·cases c136
     ·exact X_no (g_tf hc136 rfl) (cvpV rfl (cv_refl _))
     ·have hv136 := hs136 rfl
      exact X_ev (ev_eq rfl rfl) (g_tt hc136 rfl) (cvpV rfl (cv_refl _))
    refine steps_cons rfl ?_ ?_
    ·cases c136
     ·exact X_no (g_tf hc136 rfl) (cvpV rfl (cv_refl _))
     ·have hv136 := hs136 rfl
      exact X_rd (rd_len 21 rfl els_sl rfl Tryz.underlying25) (g_tt hc136 rfl) (cvpV rfl (cv_refl _))
    refine steps_cons rfl ?_ ?_
    ·cases c136
     ·exact X_no (g_tf hc136 rfl) (cvpV rfl (cv_refl _))
     ·have hv136 := hs136 rfl
      exact X_ev (ev_move rfl) (g_tt hc136 rfl) (cvpV rfl (cv_refl _))
    refine steps_cons rfl ?_ ?_
    ·exact X_ev (ev_move rfl) rfl (cvpV rfl (cv_refl _))
    refine steps_cons rfl ?_ ?_
    ·cases c133
     ·exact X_ev (ev_pick_f' hc133 rfl rfl) rfl (cvpV (by rw [ho133 rfl]) (cv_refl _))
     ·obtain ⟨hx134, hy135, hv133⟩ := hs133 rfl
      exact X_ev (ev_pick_t' hc133 rfl rfl) rfl (cvpV (by rw [hv133]) (cv_refl _))
    refine steps_cons rfl ?_ ?_
    ·cases c133
     ·exact X_no (g_tf hc133 rfl) (cvpV rfl (cv_refl _))
     ·obtain ⟨hx134, hy135, hv133⟩ := hs133 rfl
      exact X_ev (ev_seq38 (x := x134) (y := y135) rfl rfl) (g_tt hc133 rfl) (cvpV rfl (cv_refl _))
    refine steps_cons rfl ?_ ?_
    ·cases c133
     ·exact X_no (g_tf hc133 rfl) (cvpV rfl (cv_refl _))
     ·obtain ⟨hx134, hy135, hv133⟩ := hs133 rfl
      refine X_op (op_callR (w22_object_ok hy135) call77 rfl (mem_nil) w22_object_free) (g_tt hc133 rfl) ?_
      rintro _ _ ⟨_, ⟨rfl, rfl⟩, rfl⟩
      exact cvpV rfl (cv_refl _)
    refine steps_cons rfl ?_ ?_
    ·cases c133
     ·exact X_no (g_tf hc133 rfl) (cvpV rfl (cv_refl _))
     ·obtain ⟨hx134, hy135, hv133⟩ := hs133 rfl
      obtain ⟨lx134, ux134, hx134⟩ := getE_elim hx134
      exact X_rd (rd_elemS (us := [iV x134.Kind, iV x134.N, .string x134.S]) 20 rfl els_sl rfl hx134 agg38 (fun _ _ _ h => by rw [show _ = _ from h]; rfl)) (g_tt hc133 rfl) (cvpV rfl (cv_refl _))
    refine steps_cons rfl ?_ ?_
    ·cases c133
     ·exact X_no (g_tf hc133 rfl) (cvpV rfl (cv_refl _))
     ·obtain ⟨hx134, hy135, hv133⟩ := hs133 rfl
      obtain ⟨lx134, ux134, hx134⟩ := getE_elim hx134
      exact X_rd (rd_idx 20 rfl els_sl rfl rfl Tryz.underlying25 size38 lx134 ux134) (g_tt hc133 rfl) (cvpV rfl (cv_refl _))
    refine steps_cons rfl ?_ ?_
    ·cases c133
     ·exact X_no (g_tf hc133 rfl) (cvpV rfl (cv_refl _))
     ·obtain ⟨hx134, hy135, hv133⟩ := hs133 rfl
      exact X_ev (ev_move rfl) (g_tt hc133 rfl) (cvpV rfl (cv_refl _))
    refine steps_cons rfl ?_ ?_
    ·exact X_ev (ev_move rfl) rfl (cvpV rfl (cv_refl _))
    refine steps_cons rfl ?_ ?_
    ·cases c132
     ·exact X_ev (ev_pick_f' hc132 rfl rfl) rfl (cvpV (by rw [ho132 rfl]) (cv_refl _))
     ·have hv132 := hs132 rfl
      exact X_ev (ev_pick_t' hc132 rfl rfl) rfl (cvpV (by rw [hv132]) (cv_refl _))
    refine steps_cons rfl ?_ ?_
    ·cases c132
     ·exact X_no (g_tf hc132 rfl) (cvpV rfl (cv_refl _))
     ·have hv132 := hs132 rfl
      exact X_ev (ev_eq rfl rfl) (g_tt hc132 rfl) (cvpV rfl (cv_refl _))
    refine steps_cons rfl ?_ ?_
    ·cases c132
     ·exact X_no (g_tf hc132 rfl) (cvpV rfl (cv_refl _))
     ·have hv132 := hs132 rfl
      exact X_rd (rd_len 20 rfl els_sl rfl Tryz.underlying25) (g_tt hc132 rfl) (cvpV rfl (cv_refl _))
    refine steps_cons rfl ?_ ?_
    ·cases c132
     ·exact X_no (g_tf hc132 rfl) (cvpV rfl (cv_refl _))
     ·have hv132 := hs132 rfl
      exact X_ev (ev_move rfl) (g_tt hc132 rfl) (cvpV rfl (cv_refl _))
    refine steps_cons rfl ?_ ?_
    ·exact X_ev (ev_move rfl) rfl (cvpV rfl (cv_refl _))
    refine steps_cons rfl ?_ ?_
    ·cases c122
     ·exact X_ev (ev_pick_f' hc122 rfl rfl) rfl (cvpV (by rw [ho122 rfl]) (cv_refl _))
     ·obtain ⟨hx123, hx128, hy131, hv122⟩ := hs122 rfl
      exact X_ev (ev_pick_t' hc122 rfl rfl) rfl (cvpV (by rw [hv122]) (cv_refl _))
    refine steps_cons rfl ?_ ?_
    ·cases c122
     ·exact X_no (g_tf hc122 rfl) (cvpV rfl (cv_refl _))
     ·obtain ⟨hx123, hx128, hy131, hv122⟩ := hs122 rfl
      exact X_ev (ev_seq38 (x := x128) (y := y131) rfl rfl) (g_tt hc122 rfl) (cvpV rfl (cv_refl _))
    refine steps_cons rfl ?_ ?_
    ·cases c122
     ·exact X_no (g_tf hc122 rfl) (cvpV rfl (cv_refl _))
     ·obtain ⟨hx123, hx128, hy131, hv122⟩ := hs122 rfl
      refine X_op (op_callR (w22_object_ok hy131) call77 rfl (mem_nil) w22_object_free) (g_tt hc122 rfl) ?_
      rintro _ _ ⟨_, ⟨rfl, rfl⟩, rfl⟩
      exact cvpV rfl (cv_refl _)
    refine steps_cons rfl ?_ ?_
    ·cases c122
     ·exact X_no (g_tf hc122 rfl) (cvpV rfl (cv_refl _))
     ·obtain ⟨hx123, hx128, hy131, hv122⟩ := hs122 rfl
      obtain ⟨lx128, ux128, hx128⟩ := getE_elim hx128
      intro A129 n129 c129
      exact X_rd (rd_elemS (us := [iV x128.Kind, iV x128.N, .string x128.S]) 0 rfl els_sl rfl hx128 agg38 (fun _ _ _ h => by rw [show _ = _ from h]; rfl)) (g_tt hc122 rfl) (cvpV rfl (cv_refl _))
    refine steps_cons rfl ?_ ?_
    ·cases c122
     ·exact X_no (g_tf hc122 rfl) (cvpV rfl (cv_refl _))
     ·obtain ⟨hx123, hx128, hy131, hv122⟩ := hs122 rfl
      obtain ⟨lx128, ux128, hx128⟩ := getE_elim hx128
      intro A127 n127 c127
      exact X_rd (rd_idx 0 rfl els_sl rfl rfl Tryz.underlying25 size38 lx128 ux128) (g_tt hc122 rfl) (cvp3 A127 n127 c127 ((cv_dup 0 rfl rfl).trans (cv_refl _)))
    refine steps_cons rfl ?_ ?_
    ·cases c122
     ·exact X_no (g_tf hc122 rfl) (cvpV rfl (cv_refl _))
     ·obtain ⟨hx123, hx128, hy131, hv122⟩ := hs122 rfl
      obtain ⟨lx123, ux123, hx123⟩ := getE_elim hx123
      refine X_row 19 rfl hx123 (open_DCell x123) ?_
      rintro _ _ ⟨A124, n124, c124, A125, n125, c125, rfl, rfl⟩
      exact X_rd (rd_row1 0 rfl rfl one25 rfl) (g_tt hc122 rfl) (cvp3 A125 n125 c125 (cv_sel [2, 3, 4, 5, 6, 7, 8, 9, 10, 11, 12, 13, 14, 15, 16, 17, 18, 19, 20, 21, 22, 23, 24, 25, 26, 27, 28, 29, 30, 31, 32, 33, 34, 35, 36, 37, 38, 39, 40, 41, 42, 43] 44 rfl rfl))
    refine steps_cons rfl ?_ ?_
    ·cases c122
     ·exact X_no (g_tf hc122 rfl) (cvpV rfl (cv_refl _))
     ·obtain ⟨hx123, hx128, hy131, hv122⟩ := hs122 rfl
      obtain ⟨lx123, ux123, hx123⟩ := getE_elim hx123
      exact X_rd (rd_fa 19 rfl els_sl rfl (toNat_lt lx123 ux123) fa_32_5) (g_tt hc122 rfl) (cvpV rfl (cv_refl _))
    refine steps_cons rfl ?_ ?_
    ·cases c122
     ·exact X_no (g_tf hc122 rfl) (cvpV rfl (cv_refl _))
     ·obtain ⟨hx123, hx128, hy131, hv122⟩ := hs122 rfl
      obtain ⟨lx123, ux123, hx123⟩ := getE_elim hx123
      exact X_rd (rd_idx 19 rfl els_sl rfl rfl Tryz.underlying22 size32 lx123 ux123) (g_tt hc122 rfl) (cvpV rfl (cv_refl _))
    refine steps_cons rfl ?_ ?_
    ·cases c122
     ·exact X_no (g_tf hc122 rfl) (cvpV rfl (cv_refl _))
     ·obtain ⟨hx123, hx128, hy131, hv122⟩ := hs122 rfl
      exact X_rd (rd_box1 22 rfl rfl one22 rfl) (g_tt hc122 rfl) (cvpV rfl (cv_refl _))
    refine steps_cons rfl ?_ ?_
    ·cases c122
     ·exact X_no (g_tf hc122 rfl) (cvpV rfl (cv_refl _))
     ·obtain ⟨hx123, hx128, hy131, hv122⟩ := hs122 rfl
      exact X_ev (ev_fa rfl fa_24_1) (g_tt hc122 rfl) (cvpV rfl (cv_refl _))
    refine steps_cons rfl ?_ ?_
    ·exact X_ev (ev_move rfl) rfl (cvpV rfl (cv_refl _))
    refine steps_cons rfl ?_ ?_
    ·cases c116
     ·exact X_ev (ev_pick_f' hc116 rfl rfl) rfl (cvpV (by rw [ho116 rfl]) (cv_refl _))
     ·obtain ⟨hx117, hv116⟩ := hs116 rfl
      exact X_ev (ev_pick_t' hc116 rfl rfl) rfl (cvpV (by rw [hv116]) (cv_refl _))
    refine steps_cons rfl ?_ ?_
    ·cases c116
     ·exact X_no (g_tf hc116 rfl) (cvpV rfl (cv_refl _))
     ·obtain ⟨hx117, hv116⟩ := hs116 rfl
      exact X_ev (ev_eq rfl rfl) (g_tt hc116 rfl) (cvpV rfl (cv_refl _))
    refine steps_cons rfl ?_ ?_
    ·cases c116
     ·exact X_no (g_tf hc116 rfl) (cvpV rfl (cv_refl _))
     ·obtain ⟨hx117, hv116⟩ := hs116 rfl
      intro A121 n121 c121
      exact X_rd (rd_len 0 rfl els_sl rfl Tryz.underlying25) (g_tt hc116 rfl) (cvpV rfl (cv_refl _))
    refine steps_cons rfl ?_ ?_
    ·cases c116
     ·exact X_no (g_tf hc116 rfl) (cvpV rfl (cv_refl _))
     ·obtain ⟨hx117, hv116⟩ := hs116 rfl
      obtain ⟨lx117, ux117, hx117⟩ := getE_elim hx117
      refine X_row 19 rfl hx117 (open_DCell x117) ?_
      rintro _ _ ⟨A118, n118, c118, A119, n119, c119, rfl, rfl⟩
      exact X_rd (rd_row1 0 rfl rfl one25 rfl) (g_tt hc116 rfl) (cvp3 A119 n119 c119 (cv_sel [2, 3, 4, 5, 6, 7, 8, 9, 10, 11, 12, 13, 14, 15, 16, 17, 18, 19, 20, 21, 22, 23, 24, 25, 26, 27, 28, 29, 30, 31, 32, 33, 34, 35, 36, 37, 38, 39, 40, 41, 42, 43] 44 rfl rfl))
    refine steps_cons rfl ?_ ?_
    ·cases c116
     ·exact X_no (g_tf hc116 rfl) (cvpV rfl (cv_refl _))
     ·obtain ⟨hx117, hv116⟩ := hs116 rfl
      obtain ⟨lx117, ux117, hx117⟩ := getE_elim hx117
      exact X_rd (rd_fa 19 rfl els_sl rfl (toNat_lt lx117 ux117) fa_32_5) (g_tt hc116 rfl) (cvpV rfl (cv_refl _))
    refine steps_cons rfl ?_ ?_
    ·cases c116
     ·exact X_no (g_tf hc116 rfl) (cvpV rfl (cv_refl _))
     ·obtain ⟨hx117, hv116⟩ := hs116 rfl
      obtain ⟨lx117, ux117, hx117⟩ := getE_elim hx117
      exact X_rd (rd_idx 19 rfl els_sl rfl rfl Tryz.underlying22 size32 lx117 ux117) (g_tt hc116 rfl) (cvpV rfl (cv_refl _))
    refine steps_cons rfl ?_ ?_
    ·cases c116
     ·exact X_no (g_tf hc116 rfl) (cvpV rfl (cv_refl _))
     ·obtain ⟨hx117, hv116⟩ := hs116 rfl
      exact X_rd (rd_box1 22 rfl rfl one22 rfl) (g_tt hc116 rfl) (cvpV rfl (cv_refl _))
    refine steps_cons rfl ?_ ?_
    ·cases c116
     ·exact X_no (g_tf hc116 rfl) (cvpV rfl (cv_refl _))
     ·obtain ⟨hx117, hv116⟩ := hs116 rfl
      exact X_ev (ev_fa rfl fa_24_1) (g_tt hc116 rfl) (cvpV rfl (cv_refl _))
    refine steps_cons rfl ?_ ?_
    ·exact X_ev (ev_move rfl) rfl (cvpV rfl (cv_refl _))
    refine steps_cons rfl ?_ ?_
    ·cases c115
     ·exact X_ev (ev_pick_f' hc115 rfl rfl) rfl (cvpV (by rw [ho115 rfl]) (cv_refl _))
     ·have hv115 := hs115 rfl
      exact X_ev (ev_pick_t' hc115 rfl rfl) rfl (cvpV (by rw [hv115]) (cv_refl _))
    refine steps_cons rfl ?_ ?_
    ·cases c115
     ·exact X_no (g_tf hc115 rfl) (cvpV rfl (cv_refl _))
     ·have hv115 := hs115 rfl
      exact X_ev (ev_eq rfl rfl) (g_tt hc115 rfl) (cvpV rfl (cv_refl _))
    refine steps_cons rfl ?_ ?_
    ·cases c115
     ·exact X_no (g_tf hc115 rfl) (cvpV rfl (cv_refl _))
     ·have hv115 := hs115 rfl
      exact X_rd (rd_len 18 rfl els_sl rfl Tryz.underlying22) (g_tt hc115 rfl) (cvpV rfl (cv_refl _))
    refine steps_cons rfl ?_ ?_
    ·cases c115
     ·exact X_no (g_tf hc115 rfl) (cvpV rfl (cv_refl _))
     ·have hv115 := hs115 rfl
      exact X_rd (rd_box1 22 rfl rfl one22 rfl) (g_tt hc115 rfl) (cvpV rfl (cv_refl _))
    refine steps_cons rfl ?_ ?_
    ·cases c115
     ·exact X_no (g_tf hc115 rfl) (cvpV rfl (cv_refl _))
     ·have hv115 := hs115 rfl
      exact X_ev (ev_fa0 rfl fa_24_0) (g_tt hc115 rfl) (cvpV rfl (cv_refl _))
    refine steps_cons rfl ?_ ?_
    ·exact X_ev (ev_move rfl) rfl (cvpV rfl (cv_refl _))
    refine steps_cons rfl ?_ ?_
    ·cases c114
     ·exact X_ev (ev_pick_f' hc114 rfl rfl) rfl (cvpV (by rw [ho114 rfl]) (cv_refl _))
     ·have hv114 := hs114 rfl
      exact X_ev (ev_pick_t' hc114 rfl rfl) rfl (cvpV (by rw [hv114]) (cv_refl _))
    refine steps_cons rfl ?_ ?_
    ·cases c114
     ·exact X_no (g_tf hc114 rfl) (cvpV rfl (cv_refl _))
     ·have hv114 := hs114 rfl
      exact X_ev (ev_eq rfl rfl) (g_tt hc114 rfl) (cvpV rfl (cv_refl _))
    refine steps_cons rfl ?_ ?_
    ·cases c114
     ·exact X_no (g_tf hc114 rfl) (cvpV rfl (cv_refl _))
     ·have hv114 := hs114 rfl
      exact X_rd (rd_len 19 rfl els_sl rfl Tryz.underlying22) (g_tt hc114 rfl) (cvpV rfl (cv_refl _))
    refine steps_cons rfl ?_ ?_
    ·cases c114
     ·exact X_no (g_tf hc114 rfl) (cvpV rfl (cv_refl _))
     ·have hv114 := hs114 rfl
      exact X_rd (rd_box1 22 rfl rfl one22 rfl) (g_tt hc114 rfl) (cvpV rfl (cv_refl _))
    refine steps_cons rfl ?_ ?_
    ·cases c114
     ·exact X_no (g_tf hc114 rfl) (cvpV rfl (cv_refl _))
     ·have hv114 := hs114 rfl
      exact X_ev (ev_fa rfl fa_24_1) (g_tt hc114 rfl) (cvpV rfl (cv_refl _))
    refine steps_cons rfl ?_ ?_
    ·exact X_ev (ev_move rfl) rfl (cvpV rfl (cv_refl _))
    refine steps_cons rfl ?_ ?_
    ·cases c113
     ·exact X_ev (ev_pick_f' hc113 rfl rfl) rfl (cvpV (by rw [ho113 rfl]) (cv_refl _))
     ·have hv113 := hs113 rfl
      exact X_ev (ev_pick_t' hc113 rfl rfl) rfl (cvpV (by rw [hv113]) (cv_refl _))
    refine steps_cons rfl ?_ ?_
    ·cases c113
     ·exact X_no (g_tf hc113 rfl) (cvpV rfl (cv_refl _))
     ·have hv113 := hs113 rfl
      exact X_ev (ev_eq rfl rfl) (g_tt hc113 rfl) (cvpV rfl (cv_refl _))
    refine steps_cons rfl ?_ ?_
    ·cases c113
     ·exact X_no (g_tf hc113 rfl) (cvpV rfl (cv_refl _))
     ·have hv113 := hs113 rfl
      exact X_ev (ev_move rfl) (g_tt hc113 rfl) (cvpV rfl (cv_refl _))
    refine steps_cons rfl ?_ ?_
    ·exact X_ev (ev_move rfl) rfl (cvpV rfl (cv_refl _))
    refine steps_cons rfl ?_ ?_
    ·cases c109
     ·exact X_ev (ev_pick_f' hc109 rfl rfl) rfl (cvpV (by rw [ho109 rfl]) (cv_refl _))
     ·obtain ⟨hy112, hv109⟩ := hs109 rfl
      exact X_ev (ev_pick_t' hc109 rfl rfl) rfl (cvpV (by rw [hv109]) (cv_refl _))
    refine steps_cons rfl ?_ ?_
    ·cases c109
     ·exact X_no (g_tf hc109 rfl) (cvpV rfl (cv_refl _))
     ·obtain ⟨hy112, hv109⟩ := hs109 rfl
      intro A111 n111 c111
      refine X_op (op_callR (r19_Same_ok hy112) call20 rfl (mem_cons (lent_own (i := 25) rfl) (mem_cons (lent_own (i := 0) rfl) mem_nil)) r19_Same_free) (g_tt hc109 rfl) ?_
      rintro _ _ ⟨_, ⟨rfl, rfl⟩, rfl⟩
      exact cvpV rfl (cv_refl _)
    refine steps_cons rfl ?_ ?_
    ·cases c109
     ·exact X_no (g_tf hc109 rfl) (cvpV rfl (cv_refl _))
     ·obtain ⟨hy112, hv109⟩ := hs109 rfl
      refine X_op (op_bslice (R := (rInt .i64)) (vss := [[iV 2], [iV 4]]) (xs := [2, 4]) rfl (bsl_35_2 _ _) rfl rfl (fun _ _ hr => .cons rfl (.cons rfl All2.nil))) (g_tt hc109 rfl) ?_
      rintro _ _ ⟨A110, n110, c110, rfl, rfl⟩
      exact cvp3 A110 n110 c110 (cv_refl _)
    refine steps_cons rfl ?_ ?_
    ·cases c109
     ·exact X_no (g_tf hc109 rfl) (cvpV rfl (cv_refl _))
     ·obtain ⟨hy112, hv109⟩ := hs109 rfl
      exact X_ev (ev_move rfl) (g_tt hc109 rfl) (cvpV rfl (cv_refl _))
    refine steps_cons rfl ?_ ?_
    ·exact X_ev (ev_move rfl) rfl (cvpV rfl (cv_refl _))
    refine steps_cons rfl ?_ ?_
    ·intro A107 n107 c107
     refine X_op (op_callR (r19_Same_ok hy108) call20 rfl (mem_cons (lent_own (i := 24) rfl) (mem_cons (lent_own (i := 0) rfl) mem_nil)) r19_Same_free) rfl ?_
     rintro _ _ ⟨_, ⟨rfl, rfl⟩, rfl⟩
     exact cvpV rfl (cv_refl _)
    refine steps_cons rfl ?_ ?_
    ·refine X_op (op_bslice (R := (rInt .i64)) (vss := [[iV 2], [iV 1]]) (xs := [2, 1]) rfl (bsl_35_2 _ _) rfl rfl (fun _ _ hr => .cons rfl (.cons rfl All2.nil))) rfl ?_
     rintro _ _ ⟨A106, n106, c106, rfl, rfl⟩
     exact cvp3 A106 n106 c106 (cv_refl _)
    refine steps_cons rfl ?_ ?_
    ·exact X_ev (ev_move rfl) rfl (cvpV rfl (cv_refl _))
    exact steps_nil
   ·refine N_sub (t := [(147, .bool b139), (0, .bool false), (3, .slice A24 n24 c24), (4, .slice A25 n25 c25), (5, pV B55 0), (6, .slice A50 n50 c50), (7, .slice A52 n52 c52), (8, iV y29.2.2.2), (10, pV B105 0), (12, .slice A102 n102 c102), (13, iV y78.2.2.2)]) (L' := [kS1 A96 n96 c96 y78.1.Young, kS1 A97 n97 c97 y78.1.Old, kS0 A100 n100 c100 y78.2.1, kS0 A102 n102 c102 y78.2.2.1, boxC B105 24 [.slice A96 n96 c96, .slice A97 n97 c97], boxC B74 24 [.slice none 0 0, .slice A73 n73 c73], kS1 A73 n73 c73 ([(⟨10, 0, 0, 0, ([(⟨1, 0, ⟨#[]⟩⟩ : DValue)] : List DValue), ([y57, y58, y59, (⟨0, 0, ⟨#[]⟩⟩ : DValue), (⟨3, 7, ⟨#[]⟩⟩ : DValue)] : List DValue)⟩ : DCell), y61, y65, y69] : List DCell), kS0 A70 n70 c70 y69.Slots, kS0 A71 n71 c71 y69.More, slC rDValue (.slice none 0 0) ([] : List DValue), kS0 A66 n66 c66 y65.Slots, kS0 A67 n67 c67 y65.More, slC rDValue (.slice none 0 0) ([] : List DValue), kS0 A62 n62 c62 y61.Slots, kS0 A63 n63 c63 y61.More, slC rDValue (.slice none 0 0) ([] : List DValue), kS0 A60 n60 c60 ([y57, y58, y59, (⟨0, 0, ⟨#[]⟩⟩ : DValue), (⟨3, 7, ⟨#[]⟩⟩ : DValue)] : List DValue), kS0 A56 n56 c56 ([(⟨1, 0, ⟨#[]⟩⟩ : DValue)] : List DValue), kS1 A46 n46 c46 y29.1.Young, kS1 A47 n47 c47 y29.1.Old, kS0 A50 n50 c50 y29.2.1, kS0 A52 n52 c52 y29.2.2.1, boxC B55 24 [.slice A46 n46 c46, .slice A47 n47 c47], kO2 A24 n24 c24 y23.1, kO2 A25 n25 c25 y23.2, kO3 A22 n22 c22 ([y21] : List DValue), boxC B20 24 [.slice A10 n10 c10, .slice A19 n19 c19], kS1 A19 n19 c19 ([y11, y15] : List DCell), kS0 A16 n16 c16 y15.Slots, kS0 A17 n17 c17 y15.More, slC rDValue (.slice none 0 0) ([] : List DValue), kS0 A12 n12 c12 y11.Slots, kS0 A13 n13 c13 y11.More, slC rDValue (.slice none 0 0) ([] : List DValue), kS1 A10 n10 c10 ([y3, y6] : List DCell), kS0 A7 n7 c7 y6.Slots, kS0 A8 n8 c8 y6.More, slC rDValue (.slice none 0 0) ([] : List DValue), kS0 A4 n4 c4 y3.Slots, kS0 A5 n5 c5 y3.More, kS0 A2 n2 c2 ([y1] : List DValue)]) ?_ subT (cv_refl _)
    refine N_ev 79 rfl (by kernel_rfl) (ev_assign rfl) rfl rfl rfl ?_
    refine N_done (by kernel_rfl) ?_
    refine run ?_
    obtain rfl := Option.some.inj h
    exact endG1 rfl rfl (cv_sel [] 41 rfl rfl) ⟨rfl, rfl⟩
theorem w22_goes_free {r : Bool} : ∀ v post, ((fun (u : Value) (post : List Chunk) => u = .bool r ∧ post = [])) v post → ∀ c ∈ post, Free c := by
 rintro _ _ ⟨rfl, rfl⟩; exact mem_nil
def w22_MajorAlike_O (N : Nat) (a0 : DMemory) (a1 : (List DValue)) : Option Bool :=
 (r19_Few_O N a0 a1).bind fun y5 => bif !y5 then ((w22_goes_O N).bind fun y7 => some y7) else ((major_Collect_O N a0 a1).bind fun y8 => bif !decide (y8.2.2.2 = 0) then (req (in64 ((y8.1.Young.length : Int) + (y8.1.Old.length : Int))) (req (in64 (((y8.1.Young.length : Int) + (y8.1.Old.length : Int)) + (y8.2.1.length : Int))) ((bif decide (((y8.1.Young.length : Int) + (y8.1.Old.length : Int)) + (y8.2.1.length : Int) = 0) then ((w22_goes_O N).bind fun y18 => some y18) else (some false)).bind fun b17 => some b17))) else ((r19_Alike_O N a0 a1 y8.1 y8.2.1).bind fun y19 => (bif y19 then ((r19_Right_O N y8.1 y8.2.1).bind fun y21 => some y21) else (some false)).bind fun b20 => (bif b20 then ((w22_goes_O N).bind fun y23 => some y23) else (some false)).bind fun b22 => some b22))
theorem w22_MajorAlike_ok {N : Nat} {a0 : DMemory} {a1 : (List DValue)} {r : Bool} (h : w22_MajorAlike_O N a0 a1 = some r) {A1 : Option Addr} {n1 c1 : Nat} {A2 : Option Addr} {n2 c2 : Nat} {A3 : Option Addr} {n3 c3 : Nat} : Okc Tryz.prog 6 [.agg #[.slice A1 n1 c1, .slice A2 n2 c2], .slice A3 n3 c3] ([kS1 A1 n1 c1 a0.Young, kS1 A2 n2 c2 a0.Old, kS0 A3 n3 c3 a1]) (fun (u : Value) (post : List Chunk) => u = .bool r ∧ post = []) := by
 refine ok_E Tryz.func6 rfl rfl ?_
 simp only [envOf]
 refine run ?_
 refine gD (op_box rfl rfl) ?_
 rintro _ _ ⟨B4, rfl, rfl⟩
 refine run ?_
 refine G_seq ?_
 refine run ?_
 refine gR (rd_boxS (us := [.slice A1 n1 c1, .slice A2 n2 c2]) 0 rfl rfl agg24 rfl) ?_
 refine run ?_
 obtain ⟨y5, hy5, h⟩ := bind_elim h
 refine gD (op_callR (r19_Few_ok hy5) call10 rfl (mem_cons (lent_ro (i := 1) rfl rfl) (mem_cons (lent_ro (i := 2) rfl rfl) (mem_cons (lent_ro (i := 3) rfl rfl) mem_nil))) r19_Few_free) ?_
 rintro _ _ ⟨_, ⟨rfl, rfl⟩, rfl⟩
 refine run ?_
 refine G_cond rfl (fun g6 => ?_) (fun g6 => ?_)
 ·replace h := cond_t g6 h
  refine run ?_
  obtain ⟨y7, hy7, h⟩ := bind_elim h
  refine gD (op_callR (w22_goes_ok hy7) call30 rfl (mem_nil) w22_goes_free) ?_
  rintro _ _ ⟨_, ⟨rfl, rfl⟩, rfl⟩
  refine run ?_
  obtain rfl := Option.some.inj h
  exact endG1 rfl rfl (cv_sel [] 4 rfl rfl) ⟨rfl, rfl⟩
 ·replace h := cond_f g6 h
  refine run ?_
  refine gR (rd_boxS (us := [.slice A1 n1 c1, .slice A2 n2 c2]) 0 rfl rfl agg24 rfl) ?_
  refine run ?_
  obtain ⟨y8, hy8, h⟩ := bind_elim h
  refine gD (op_call (major_Collect_ok hy8) call31 rfl (cv_take [1, 2, 3] [] [0, 1, 2, 3] 4 rfl)) ?_
  rintro _ _ ⟨_, ⟨A9, n9, c9, A10, n10, c10, A11, n11, c11, A12, n12, c12, rfl, rfl⟩, rfl⟩
  refine run ?_
  refine gD (op_alloc zero24 rfl) ?_
  rintro _ _ ⟨B13, rfl, rfl⟩
  refine gO (op_store (us := [.slice A9 n9 c9, .slice A10 n10 c10]) (cs' := [.slice A9 n9 c9, .slice A10 n10 c10]) 0 rfl rfl rfl rfl size24 rfl rfl rfl) ?_
  rintro _ _ rfl
  refine run ?_
  refine G_seq ?_
  refine run ?_
  refine G_cond rfl (fun g14 => ?_) (fun g14 => ?_)
  ·replace h := cond_t g14 h
   refine run ?_
   refine gR (rd_len 1 rfl els_own rfl Tryz.underlying22) ?_
   refine run ?_
   refine gR (rd_len 2 rfl els_own rfl Tryz.underlying22) ?_
   obtain ⟨q15, h⟩ := req_elim h
   refine gE (ev_add rfl rfl q15.1 q15.2) ?_
   refine run ?_
   refine gR (rd_len 3 rfl els_own rfl Tryz.underlying25) ?_
   obtain ⟨q16, h⟩ := req_elim h
   refine gE (ev_add rfl rfl q16.1 q16.2) ?_
   refine run ?_
   obtain ⟨b17, hb17, h⟩ := bind_elim h
   refine G_segb 2 37 b17 ?_ ?_
   ·clear h
    refine G_case 35 rfl (fun g17 => ?_) (fun g17 => ?_)
    ·have h := cond_t g17 hb17
     obtain ⟨y18, hy18, h⟩ := bind_elim h
     refine G_opd (op_callR (w22_goes_ok hy18) call30 rfl (mem_nil) w22_goes_free) rfl (g_tt g17 rfl) rfl ?_
     rintro _ _ ⟨_, ⟨rfl, rfl⟩, rfl⟩
     refine run ?_
     obtain rfl := Option.some.inj h
     exact G_joined sA (cv_sel [0, 1, 2, 3, 4, 5, 6, 7, 8] 9 rfl rfl)
    ·have h := cond_f g17 hb17
     refine run ?_
     obtain rfl := Option.some.inj h
     exact G_joined sA (cv_sel [0, 1, 2, 3, 4, 5, 6, 7, 8] 9 rfl rfl)
   refine run ?_
   obtain rfl := Option.some.inj h
   exact endG1 rfl rfl (cv_sel [] 9 rfl rfl) ⟨rfl, rfl⟩
  ·replace h := cond_f g14 h
   refine run ?_
   refine gR (rd_boxS (us := [.slice A1 n1 c1, .slice A2 n2 c2]) 5 rfl rfl agg24 rfl) ?_
   refine run ?_
   refine gR (rd_boxS (us := [.slice A9 n9 c9, .slice A10 n10 c10]) 0 rfl rfl agg24 rfl) ?_
   refine run ?_
   obtain ⟨y19, hy19, h⟩ := bind_elim h
   refine gD (op_callR (r19_Alike_ok hy19) call29 rfl (mem_cons (lent_ro (i := 6) rfl rfl) (mem_cons (lent_ro (i := 7) rfl rfl) (mem_cons (lent_ro (i := 8) rfl rfl) (mem_cons (lent_own (i := 1) rfl) (mem_cons (lent_own (i := 2) rfl) (mem_cons (lent_own (i := 3) rfl) mem_nil)))))) r19_Alike_free) ?_
   rintro _ _ ⟨_, ⟨rfl, rfl⟩, rfl⟩
   refine run ?_
   obtain ⟨b20, hb20, h⟩ := bind_elim h
   refine G_segb 4 47 b20 ?_ ?_
   ·clear h
    refine G_case 43 rfl (fun g20 => ?_) (fun g20 => ?_)
    ·have h := cond_t g20 hb20
     refine G_rd (rd_boxS (us := [.slice A9 n9 c9, .slice A10 n10 c10]) 0 rfl rfl agg24 rfl) rfl (g_tt g20 rfl) rfl ?_
     refine run ?_
     obtain ⟨y21, hy21, h⟩ := bind_elim h
     refine G_opd (op_callR (r19_Right_ok hy21) call19 rfl (mem_cons (lent_own (i := 1) rfl) (mem_cons (lent_own (i := 2) rfl) (mem_cons (lent_own (i := 3) rfl) mem_nil))) r19_Right_free) rfl (g_tt g20 rfl) rfl ?_
     rintro _ _ ⟨_, ⟨rfl, rfl⟩, rfl⟩
     refine run ?_
     obtain rfl := Option.some.inj h
     exact G_joined sA (cv_sel [0, 1, 2, 3, 4, 5, 6, 7, 8] 9 rfl rfl)
    ·have h := cond_f g20 hb20
     refine run ?_
     obtain rfl := Option.some.inj h
     exact G_joined sA (cv_sel [0, 1, 2, 3, 4, 5, 6, 7, 8] 9 rfl rfl)
   refine run ?_
   obtain ⟨b22, hb22, h⟩ := bind_elim h
   refine G_segb 2 50 b22 ?_ ?_
   ·clear h
    refine G_case 48 rfl (fun g22 => ?_) (fun g22 => ?_)
    ·have h := cond_t g22 hb22
     obtain ⟨y23, hy23, h⟩ := bind_elim h
     refine G_opd (op_callR (w22_goes_ok hy23) call30 rfl (mem_nil) w22_goes_free) rfl (g_tt g22 rfl) rfl ?_
     rintro _ _ ⟨_, ⟨rfl, rfl⟩, rfl⟩
     refine run ?_
     obtain rfl := Option.some.inj h
     exact G_joined sA (cv_sel [0, 1, 2, 3, 4, 5, 6, 7, 8] 9 rfl rfl)
    ·have h := cond_f g22 hb22
     refine run ?_
     obtain rfl := Option.some.inj h
     exact G_joined sA (cv_sel [0, 1, 2, 3, 4, 5, 6, 7, 8] 9 rfl rfl)
   refine run ?_
   obtain rfl := Option.some.inj h
   exact endG1 rfl rfl (cv_sel [] 9 rfl rfl) ⟨rfl, rfl⟩
end Go.Proofs.YtmbaennilhdieaaGreat
/- Pure functions and contracts of Go functions (printed by all3.py). -/
namespace Go.Proofs.YtmbaennilhdieaaGreat
open Go.RowKit Asn
set_option maxRecDepth 20000
end Go.Proofs.YtmbaennilhdieaaGreat
/- Pure functions and contracts of Go functions (printed by all3.py). -/
namespace Go.Proofs.YtmbaennilhdieaaGreat
open Go.RowKit Asn
set_option maxRecDepth 20000
end Go.Proofs.YtmbaennilhdieaaGreat
/- Pure functions and contracts of Go functions (printed by all3.py). -/
namespace Go.Proofs.YtmbaennilhdieaaGreat
open Go.RowKit Asn
set_option maxRecDepth 20000
end Go.Proofs.YtmbaennilhdieaaGreat
/- All printed functions. -/
/- Plain tools for translated functions: results in Option, loops with fuel. Over any program. -/
namespace Go.Proofs.YtmbaennilhdieaaGreat
open Go.RowKit
def Sat {ρ : Type} (m : Option ρ) (R : ρ → Prop) : Prop := ∃ r, m = some r ∧ R r
theorem sat_some {ρ : Type} {x : ρ} {R : ρ → Prop} (h : R x) : Sat (some x) R := ⟨x, rfl, h⟩
theorem Sat.eq {ρ : Type} {m : Option ρ} {x : ρ} (h : Sat m (· = x)) : m = some x := by obtain ⟨r, h1, rfl⟩ := h; exact h1
theorem Sat.mono {ρ : Type} {m : Option ρ} {R Q : ρ → Prop} (h : Sat m R) (k : ∀ x, R x → Q x) : Sat m Q := by obtain ⟨r, h1, h2⟩ := h; exact ⟨r, h1, k _ h2⟩
theorem Sat.bind {ρ σ : Type} {m : Option σ} {f : σ → Option ρ} {P : σ → Prop} {R : ρ → Prop} (h : Sat m P) (k : ∀ x, P x → Sat (f x) R) : Sat (m.bind f) R := by obtain ⟨x, rfl, h2⟩ := h; exact k x h2
theorem sat_cond {ρ : Type} {b : Bool} {x y : Option ρ} {R : ρ → Prop} (h1 : b = true → Sat x R) (h2 : b = false → Sat y R) : Sat (bif b then x else y) R := by cases b with | true => exact h1 rfl | false => exact h2 rfl
theorem sat_dec {ρ : Type} {p : Prop} [Decidable p] {x y : Option ρ} {R : ρ → Prop} (h1 : p → Sat x R) (h2 : ¬ p → Sat y R) : Sat (bif decide p then x else y) R := by
 by_cases h : p
 ·rw [decide_eq_true h]; exact h1 h
 ·rw [decide_eq_false h]; exact h2 h
theorem sat_not {ρ : Type} {b : Bool} {x y : Option ρ} {R : ρ → Prop} (h1 : b = false → Sat x R) (h2 : b = true → Sat y R) : Sat (bif !b then x else y) R := by cases b with | true => exact h2 rfl | false => exact h1 rfl
theorem bs {ρ σ : Type} {x : σ} {f : σ → Option ρ} : (some x).bind f = f x := Eq.trans rfl rfl
theorem ct {ρ : Type} {x y : ρ} : (bif true then x else y) = x := Eq.trans rfl rfl
theorem cf {ρ : Type} {x y : ρ} : (bif false then x else y) = y := Eq.trans rfl rfl
theorem nt : (!true) = false := Eq.trans rfl rfl
theorem nf : (!false) = true := Eq.trans rfl rfl
theorem lt_t {a b : Int} (h : a < b) : decide (a < b) = true := decide_eq_true h
theorem lt_f {a b : Int} (h : b ≤ a) : decide (a < b) = false := decide_eq_false (by omega)
theorem le_t {a b : Int} (h : a ≤ b) : decide (a ≤ b) = true := decide_eq_true h
theorem le_f {a b : Int} (h : b < a) : decide (a ≤ b) = false := decide_eq_false (by omega)
theorem eq_t {a b : Int} (h : a = b) : decide (a = b) = true := decide_eq_true h
theorem eq_f {a b : Int} (h : a ≠ b) : decide (a = b) = false := decide_eq_false h
theorem req_t {ρ : Type} {b : Prop} [Decidable b] {m : Option ρ} (h : b) : req b m = m := if_pos h
theorem r64 {ρ : Type} {a : Int} {m : Option ρ} (h1 : -9000000000000000000 ≤ a) (h2 : a ≤ 9000000000000000000) : req (in64 a) m = m := if_pos ⟨by omega, by omega⟩
theorem rF {ρ : Type} {n : Nat} {m : Option ρ} (h : n ≤ 1000000) : req (fitsL n) m = m := if_pos (by unfold fitsL; omega)
theorem getE_at {α : Type} {xs : List α} {i : Int} (h0 : 0 ≤ i) (h1 : i.toNat < xs.length) : getE xs i = some xs[i.toNat] := by
 unfold getE
 rw [if_neg (by omega), List.getElem?_eq_getElem h1]
theorem getE_n {α : Type} {xs : List α} {i : Nat} (h1 : i < xs.length) : getE xs (i : Int) = some xs[i] := by
 unfold getE
 rw [if_neg (by omega), Int.toNat_natCast, List.getElem?_eq_getElem h1]
theorem loop_inv {σ ρ : Type} (L : Nat → Nat → σ → Option ρ) (n : Nat) (Inv : Nat → σ → Prop) (R : ρ → Prop)
  (round : ∀ m i s, i < n → Inv i s → (∀ s', Inv (i + 1) s' → Sat (L m (i + 1) s') R) → Sat (L (m + 1) i s) R)
  (fin : ∀ m s, Inv n s → Sat (L (m + 1) n s) R) : ∀ m i s, n < m + i → i ≤ n → Inv i s → Sat (L m i s) R
 | 0, i, s, h, h2, _ => by omega
 | m + 1, i, s, h, h2, hi => by
  by_cases e : i = n
  ·subst e; exact fin m s hi
  ·exact round m i s (by omega) hi fun s' h' => loop_inv L n Inv R round fin m (i + 1) s' (by omega) (by omega) h'
theorem loop_dec {σ ρ : Type} (L : Nat → σ → Option ρ) (v : σ → Nat) (Inv : σ → Prop) (R : ρ → Prop)
  (round : ∀ m s, Inv s → (∀ s', v s' < v s → Inv s' → Sat (L m s') R) → Sat (L (m + 1) s) R) : ∀ m s, v s < m → Inv s → Sat (L m s) R
 | 0, _, h, _ => by omega
 | m + 1, s, h, hi => round m s hi fun s' h1 h2 => loop_dec L v Inv R round m s' (by omega) h2
theorem take_succ_get {α : Type} {l : List α} {i : Nat} (h : i < l.length) : l.take (i + 1) = l.take i ++ [l[i]] := by
 rw [List.take_add_one, List.getElem?_eq_getElem h]; rfl
theorem asc_ext : ∀ {a b : List Int}, a.Pairwise (· < ·) → b.Pairwise (· < ·) → (∀ x, x ∈ a ↔ x ∈ b) → a = b
 | [], [], _, _, _ => rfl
 | [], y :: b, _, _, h => by have := (h y).2 (by simp); cases this
 | x :: a, [], _, _, h => by have := (h x).1 (by simp); cases this
 | x :: a, y :: b, ha, hb, h => by
  obtain ⟨ha1, ha2⟩ := List.pairwise_cons.1 ha
  obtain ⟨hb1, hb2⟩ := List.pairwise_cons.1 hb
  have e : x = y := by
   rcases List.mem_cons.1 ((h x).1 (by simp)) with e | h1
   ·exact e
   ·rcases List.mem_cons.1 ((h y).2 (by simp)) with e | h2
    ·exact e.symm
    ·have := hb1 x h1; have := ha1 y h2; omega
  subst e
  rw [asc_ext ha2 hb2 fun z => ?_]
  constructor
  ·intro hz
   rcases List.mem_cons.1 ((h z).1 (by simp [hz])) with e | h1
   ·subst e; exact absurd (ha1 z hz) (by omega)
   ·exact h1
  ·intro hz
   rcases List.mem_cons.1 ((h z).2 (by simp [hz])) with e | h1
   ·subst e; exact absurd (hb1 z hz) (by omega)
   ·exact h1
theorem fp_mem {α β : Type} [DecidableEq α] (a : α) (L : List (α × β)) : (∃ i b, fp a L 0 = some (i, b) ∧ L[i]? = some (a, b)) ∨ (fp a L 0 = none ∧ a ∉ L.map (·.1)) := by
 cases h : fp a L 0 with
 | none => exact .inr ⟨rfl, fun h1 => by
   obtain ⟨p, h2, h3⟩ := List.mem_map.1 h1
   exact (fp_none a L).1 h p h2 h3⟩
 | some q => obtain ⟨i, b⟩ := q; exact .inl ⟨i, b, rfl, (fp_at a L 0 i b h).2⟩
theorem upL_keys {α β : Type} [DecidableEq α] (L : List (α × β)) (a : α) (b : β) : (upL L a b).map (·.1) = if a ∈ L.map (·.1) then L.map (·.1) else L.map (·.1) ++ [a] := by
 unfold upL
 rcases fp_mem a L with ⟨i, c, h1, h2⟩ | ⟨h1, h2⟩
 ·have hm : a ∈ L.map (·.1) := List.mem_map.2 ⟨_, List.mem_of_getElem? h2, rfl⟩
  rw [h1, if_pos hm]
  show (L.set i (a, b)).map (·.1) = _
  rw [List.map_set]
  apply List.ext_getElem?
  intro j
  by_cases e : i = j
  ·subst e
   have hlt := (List.getElem?_eq_some_iff.1 h2).1
   rw [List.getElem?_set_self (by simpa using hlt), List.getElem?_map, h2]; rfl
  ·rw [List.getElem?_set_ne e]
 ·rw [h1, if_neg h2]
  show (L ++ [(a, b)]).map (·.1) = _
  rw [List.map_append]; rfl
theorem upL_mem {α β : Type} [DecidableEq α] (L : List (α × β)) (a : α) (b : β) (x : α) : x ∈ (upL L a b).map (·.1) ↔ x = a ∨ x ∈ L.map (·.1) := by
 rw [upL_keys]
 split
 ·constructor
  ·exact .inr
  ·rintro (rfl | h) <;> assumption
 ·rw [List.mem_append, List.mem_singleton]; exact Or.comm
end Go.Proofs.YtmbaennilhdieaaGreat
/- The examples of the specification, by computation. -/
namespace Go.Proofs.YtmbaennilhdieaaGreat
open Go.RowKit
end Go.Proofs.YtmbaennilhdieaaGreat
/- Plain: references of a cell, on both sides. -/
namespace Go.Proofs.YtmbaennilhdieaaGreat
open Go.RowKit
theorem getE_nat {α : Type} (xs : List α) (i : Nat) : getE xs (i : Int) = xs[i]? := by
 unfold getE; rw [if_neg (by omega)]; simp
theorem req_pos {ρ : Type} {b : Prop} [Decidable b] {m : Option ρ} (h : b) : req b m = m := if_pos h
def hasB (v : DValue) : Bool := decide (v.Kind = 7) || decide (v.Kind = 9)
def strongB (k : Int) (i : Nat) : Bool := !decide (k = 8) && (!decide (k = 10) || decide ((i : Int).tmod 2 = 0))
def pick (f : Nat → DValue → Bool) : Nat → List DValue → List Int
 | _, [] => []
 | i, v :: l => (bif f i v then [v.N] else []) ++ pick f (i + 1) l
theorem pick_cons (f : Nat → DValue → Bool) (i : Nat) (v : DValue) (l : List DValue) : pick f i (v :: l) = (bif f i v then [v.N] else []) ++ pick f (i + 1) l := rfl
theorem pick_len (f : Nat → DValue → Bool) : ∀ (i : Nat) (l : List DValue), (pick f i l).length ≤ l.length
 | _, [] => Nat.le_refl _
 | i, v :: l => by
  have := pick_len f (i + 1) l
  unfold pick
  cases f i v <;> simp <;> omega
theorem pick_none : ∀ (i : Nat) (l : List DValue), pick (fun _ _ => false) i l = []
 | _, [] => rfl
 | i, v :: l => by unfold pick; simp [pick_none (i + 1) l]
theorem cell_leads_spec (N : Nat) (v : DValue) : cell_leads_O N v = some (hasB v) := by
 unfold cell_leads_O hasB; cases decide (v.Kind = 7) <;> rfl
theorem ref_has_spec (N : Nat) (v : DValue) : r15_has_O N v = some (hasB v) := by
 unfold r15_has_O hasB; cases decide (v.Kind = 7) <;> rfl
theorem body_spec (N : Nat) (a b : Bool) (x : DValue) (p : List Int) (h : p.length ≤ 5000) : liftR (fun x st => cell_addresses_b8 N a x st) (b, x) (none, p) = some (true, (none, p ++ (bif (b == a) && hasB x then [x.N] else []))) := by
 unfold liftR cell_addresses_b8
 simp only [cell_leads_spec, Option.bind_some]
 cases b == a
 ·simp
 ·cases hasB x
  ·simp
  ·have : fitsL (p.length + [x.N].length) := by unfold fitsL; simp only [List.length_cons, List.length_nil]; omega
   simp only [cond_true, Option.bind_some, Bool.and_self]
   rw [req_pos this]
   rfl
theorem all_l15 (N : Nat) (a : Bool) (c : DCell) (hc : c.More.length ≤ 1000) (K : Nat) (hK : K ≤ 1000) : ∀ (m i : Nat) (p : List Int), c.More.length < m + i → i ≤ c.More.length → p.length ≤ K + i → cell_all_c1_l15 N (liftR (fun x st => cell_addresses_b8 N a x st)) c m (i : Int) (none, p) = some (none, p ++ pick (fun i v => (strongB c.Kind i == a) && hasB v) i (c.More.drop i))
 | 0, i, p, h, h2, _ => by omega
 | m + 1, i, p, h, h2, h3 => by
  rw [cell_all_c1_l15_s]
  by_cases hi : i < c.More.length
  ·rw [show (decide ((i : Int) < (c.More.length : Int))) = true from decide_eq_true (by omega), getE_nat, List.getElem?_eq_getElem hi, List.drop_eq_getElem_cons hi]
   simp only [cond_true, Option.bind_some]
   have hs : (bif !decide (c.Kind = 8) then ((bif !decide (c.Kind = 10) then (some true) else (some (decide ((i : Int).tmod 2 = 0)))).bind fun b22 => some b22) else (some false)) = some (strongB c.Kind i) := by
    unfold strongB; cases decide (c.Kind = 8) <;> cases decide (c.Kind = 10) <;> rfl
   rw [hs]
   simp only [Option.bind_some]
   rw [body_spec N a _ _ _ (by omega)]
   rw [Option.bind_some]
   dsimp only
   rw [Bool.not_true, cond_false]
   rw [req_pos (by unfold in64; omega)]
   have hlen : (p ++ (bif (strongB c.Kind i == a) && hasB c.More[i] then [c.More[i].N] else [])).length ≤ K + (i + 1) := by
    cases (strongB c.Kind i == a) && hasB c.More[i] <;> simp <;> omega
   have := all_l15 N a c hc K hK m (i + 1) _ (by omega) hi hlen
   simp only [Int.natCast_add, Int.cast_ofNat_Int] at this
   rw [this]
   rw [pick_cons, List.append_assoc]
  ·rw [show (decide ((i : Int) < (c.More.length : Int))) = false from decide_eq_false (by omega), List.drop_eq_nil_of_le (by omega)]
   simp [pick]
theorem all_l6 (N : Nat) (hN : 2000 < N) (a : Bool) (c : DCell) (hS : c.Slots.length ≤ 1000) (hc : c.More.length ≤ 1000) : ∀ (m i : Nat) (p : List Int), c.Slots.length < m + i → i ≤ c.Slots.length → p.length ≤ i → cell_all_c1_l6 N (liftR (fun x st => cell_addresses_b8 N a x st)) c m (i : Int) (none, p) = some (none, (p ++ pick (fun _ v => (true == a) && hasB v) i (c.Slots.drop i)) ++ pick (fun i v => (strongB c.Kind i == a) && hasB v) 0 c.More)
 | 0, i, p, h, h2, _ => by omega
 | m + 1, i, p, h, h2, h3 => by
  rw [cell_all_c1_l6_s]
  by_cases hi : i < c.Slots.length
  ·rw [show (decide ((i : Int) < (c.Slots.length : Int))) = true from decide_eq_true (by omega), getE_nat, List.getElem?_eq_getElem hi, List.drop_eq_getElem_cons hi]
   simp only [cond_true, Option.bind_some]
   rw [body_spec N a _ _ _ (by omega)]
   rw [Option.bind_some]
   dsimp only
   rw [Bool.not_true, cond_false]
   rw [req_pos (by unfold in64; omega)]
   have hlen : (p ++ (bif (true == a) && hasB c.Slots[i] then [c.Slots[i].N] else [])).length ≤ (i + 1) := by
    cases (true == a) && hasB c.Slots[i] <;> simp <;> omega
   have := all_l6 N hN a c hS hc m (i + 1) _ (by omega) hi hlen
   simp only [Int.natCast_add, Int.cast_ofNat_Int] at this
   rw [this]
   rw [pick_cons, List.append_assoc p]
  ·rw [show (decide ((i : Int) < (c.Slots.length : Int))) = false from decide_eq_false (by omega), List.drop_eq_nil_of_le (by omega)]
   simp only [cond_false, cell_all_c1_j4]
   have := all_l15 N a c hc p.length (by omega) N 0 p (by omega) (by omega) (by omega)
   simp only [Int.natCast_zero, Int.cast_ofNat_Int] at this
   rw [this]
   simp [pick]
theorem addresses_spec (N : Nat) (hN : 2000 < N) (a : Bool) (c : DCell) (hS : c.Slots.length ≤ 1000) (hc : c.More.length ≤ 1000) : cell_addresses_O N c a = some (pick (fun _ v => (true == a) && hasB v) 0 c.Slots ++ pick (fun i v => (strongB c.Kind i == a) && hasB v) 0 c.More) := by
 unfold cell_addresses_O cell_all_O cell_all_c1_O
 have := all_l6 N hN a c hS hc N 0 [] (by omega) (by omega) (by simp)
 simp only [Int.natCast_zero, Int.cast_ofNat_Int] at this
 rw [Option.bind_some, this, Option.bind_some]
 show some _ = some _
 simp
def weakB (k : Int) (i : Nat) : Bool := decide (k = 8) || (decide (k = 10) && (decide (0 < (i : Int)) && decide ((((i : Int) - 1).tmod 4).tmod 2 = 0)))
theorem weak_spec (N : Nat) (k : Int) (i : Nat) (hi : i ≤ 5000) : r15_weak_O N k (i : Int) = some (weakB k i) := by
 unfold r15_weak_O weakB
 by_cases h1 : k = 8
 ·simp [h1]
 ·by_cases h2 : k = 10
  ·by_cases h3 : (0 : Int) < i
   ·subst h2; simp only [h3, decide_true, ct, bs, r64 (a := (i : Int) - 1) (by omega) (by omega), show decide ((10 : Int) = 8) = false from rfl, cf, Bool.false_or, Bool.true_and]
   ·subst h2; simp only [h3, decide_true, decide_false, ct, bs, show decide ((10 : Int) = 8) = false from rfl, cf, Bool.false_or, Bool.true_and, Bool.false_and]
  ·simp [h1, h2]
theorem ref_leads_spec (N : Nat) (hN : 2000 < N) (c : DCell) (hS : c.Slots.length ≤ 1000) (hc : c.More.length ≤ 1000) : r15_Leads_O N c = some (pick (fun _ v => hasB v) 0 c.Slots ++ pick (fun i v => !weakB c.Kind i && hasB v) 0 c.More) := by
 apply Sat.eq
 unfold r15_Leads_O
 refine loop_inv (fun m i s => r15_Leads_l6 N c m s (i : Int)) c.Slots.length (fun i s => s ++ pick (fun _ v => hasB v) i (c.Slots.drop i) = pick (fun _ v => hasB v) 0 c.Slots ∧ s.length ≤ i) _ ?_ ?_ N 0 [] (by omega) (by omega) ⟨by simp, by simp⟩
 ·rintro m i s hi ⟨h1, h2⟩ k
  show Sat (r15_Leads_l6 N c (m + 1) s i) _
  rw [List.drop_eq_getElem_cons hi, pick_cons] at h1
  rw [r15_Leads_l6_s, lt_t (by omega), cond_true, getE_n hi, bs, ref_has_spec, bs]
  simp only [bs]
  cases hh : hasB c.Slots[i]
  all_goals
   simp only [hh, ct, cf, bs, List.nil_append] at h1 ⊢
   first
   |(unfold r15_Leads_j11
     rw [r64 (by omega) (by omega)]
     exact k s ⟨h1, by omega⟩)
   |(rw [rF (by simp; omega)]
     unfold r15_Leads_j11
     rw [r64 (by omega) (by omega)]
     exact k _ ⟨by rw [List.append_assoc]; exact h1, by simp; omega⟩)
 ·rintro m s ⟨h1, h2⟩
  show Sat (r15_Leads_l6 N c (m + 1) s _) _
  rw [List.drop_length] at h1
  have h1 : s = pick (fun _ v => hasB v) 0 c.Slots := by rw [← h1]; simp [pick]
  rw [r15_Leads_l6_s, lt_f (by omega), cond_false, ← h1]
  unfold r15_Leads_j4
  clear h1
  refine loop_inv (fun m i s => r15_Leads_l23 N c m s (i : Int)) c.More.length (fun i t => t ++ pick (fun i v => !weakB c.Kind i && hasB v) i (c.More.drop i) = s ++ pick (fun i v => !weakB c.Kind i && hasB v) 0 c.More ∧ t.length ≤ 1000 + i) _ ?_ ?_ N 0 s (by omega) (by omega) ⟨by simp, by omega⟩
  ·rintro m i s hi ⟨h1, h2⟩ k
   show Sat (r15_Leads_l23 N c (m + 1) s i) _
   rw [List.drop_eq_getElem_cons hi, pick_cons] at h1
   rw [r15_Leads_l23_s, lt_t (by omega), cond_true, getE_n hi, bs, ref_has_spec, bs, weak_spec _ _ _ (by omega)]
   simp only [bs]
   cases hh : hasB c.More[i] <;> cases hw : weakB c.Kind i
   all_goals
    simp only [hh, hw, Bool.and_true, Bool.and_false, nt, nf, ct, cf, bs, List.nil_append] at h1 ⊢
    first
    |(unfold r15_Leads_j27
      rw [r64 (by omega) (by omega)]
      exact k s ⟨h1, by omega⟩)
    |(rw [rF (by simp; omega)]
      unfold r15_Leads_j27
      rw [r64 (by omega) (by omega)]
      exact k _ ⟨by rw [List.append_assoc]; exact h1, by simp; omega⟩)
  ·rintro m s ⟨h1, h2⟩
   show Sat (r15_Leads_l23 N c (m + 1) s _) _
   rw [List.drop_length] at h1
   rw [r15_Leads_l23_s, lt_f (by omega), cond_false]
   exact sat_some (by rw [← h1]; simp [pick])
theorem strong_weak (k : Int) (i : Nat) : strongB k i = !weakB k i := by
 unfold strongB weakB
 by_cases h8 : k = 8
 ·subst h8; rfl
 ·by_cases h10 : k = 10
  ·subst h10
   have e0 : (i : Int).tmod 2 = (i : Int) % 2 := Int.tmod_eq_emod_of_nonneg (by omega)
   by_cases hi : (0 : Int) < i
   ·have e1 : ((i : Int) - 1).tmod 4 = ((i : Int) - 1) % 4 := Int.tmod_eq_emod_of_nonneg (by omega)
    have e2 : (((i : Int) - 1) % 4).tmod 2 = (((i : Int) - 1) % 4) % 2 := Int.tmod_eq_emod_of_nonneg (by omega)
    rw [e0, e1, e2]
    by_cases h : (i : Int) % 2 = 0
    ·have h2 : ¬ (((i : Int) - 1) % 4) % 2 = 0 := by omega
     rw [decide_eq_true h, decide_eq_false h2, decide_eq_true hi]; rfl
    ·have h2 : (((i : Int) - 1) % 4) % 2 = 0 := by omega
     rw [decide_eq_false h, decide_eq_true h2, decide_eq_true hi]; rfl
   ·have : i = 0 := by omega
    subst this; rfl
  ·simp [h8, h10]
def leadsL (c : DCell) : List Int := pick (fun _ v => hasB v) 0 c.Slots ++ pick (fun i v => !weakB c.Kind i && hasB v) 0 c.More
theorem leads_prog (N : Nat) (hN : 2000 < N) (c : DCell) (hS : c.Slots.length ≤ 1000) (hc : c.More.length ≤ 1000) : cell_Leads_O N c = some (leadsL c) := by
 unfold cell_Leads_O leadsL
 rw [addresses_spec N hN true c hS hc, bs]
 have e1 : (fun (_ : Nat) (v : DValue) => (true == true) && hasB v) = fun _ v => hasB v := by funext i v; rfl
 have e2 : (fun (i : Nat) (v : DValue) => (strongB c.Kind i == true) && hasB v) = fun i v => !weakB c.Kind i && hasB v := by funext i v; rw [strong_weak]; cases weakB c.Kind i <;> rfl
 rw [e1, e2]
theorem leads_ref (N : Nat) (hN : 2000 < N) (c : DCell) (hS : c.Slots.length ≤ 1000) (hc : c.More.length ≤ 1000) : r15_Leads_O N c = some (leadsL c) := ref_leads_spec N hN c hS hc
theorem leadsL_len (c : DCell) : (leadsL c).length ≤ c.Slots.length + c.More.length := by
 unfold leadsL
 have h1 := pick_len (fun _ v => hasB v) 0 c.Slots
 have h2 := pick_len (fun i v => !weakB c.Kind i && hasB v) 0 c.More
 rw [List.length_append]; omega
theorem pick_mem {f : Nat → DValue → Bool} {x : Int} : ∀ {i : Nat} {l : List DValue}, x ∈ pick f i l → ∃ v ∈ l, v.N = x
 | _, [], h => by cases h
 | i, v :: l, h => by
  rw [pick_cons, List.mem_append] at h
  rcases h with h | h
  ·cases hf : f i v
   ·rw [hf] at h; cases h
   ·rw [hf] at h; exact ⟨v, by simp, (List.mem_singleton.1 h).symm⟩
  ·obtain ⟨w, h1, h2⟩ := pick_mem h
   exact ⟨w, by simp [h1], h2⟩
theorem leadsL_mem {c : DCell} {x : Int} (h : x ∈ leadsL c) : ∃ v ∈ c.Slots ++ c.More, v.N = x := by
 unfold leadsL at h
 rcases List.mem_append.1 h with h | h
 ·obtain ⟨v, h1, h2⟩ := pick_mem h; exact ⟨v, by simp [h1], h2⟩
 ·obtain ⟨v, h1, h2⟩ := pick_mem h; exact ⟨v, by simp [h1], h2⟩
end Go.Proofs.YtmbaennilhdieaaGreat
/- Plain: cells at addresses, on both sides. -/
namespace Go.Proofs.YtmbaennilhdieaaGreat
open Go.RowKit
def zeroC : DCell := ⟨0, 0, 0, 0, [], []⟩
def cellAt (m : DMemory) (a : Int) : Option DCell := if a < 1 then none else if a % 2 = 1 then m.Young[((a - 1) / 2).toNat]? else m.Old[((a - 2) / 2).toNat]?
def hasM (m : DMemory) (a : Int) : Bool := (cellAt m a).isSome
def atM (m : DMemory) (a : Int) : DCell := (cellAt m a).getD zeroC
structure Small (m : DMemory) (roots : List DValue) : Prop where
 young : m.Young.length ≤ 600
 old : m.Old.length ≤ 600
 roots : roots.length ≤ 600
 cells : ∀ c ∈ m.Young ++ m.Old, c.Slots.length ≤ 600 ∧ c.More.length ≤ 600
theorem cellAt_mem {m : DMemory} {a : Int} {c : DCell} (h : cellAt m a = some c) : c ∈ m.Young ++ m.Old := by
 unfold cellAt at h
 split at h
 ·cases h
 ·split at h
  ·exact List.mem_append_left _ (List.mem_of_getElem? h)
  ·exact List.mem_append_right _ (List.mem_of_getElem? h)
theorem Small.at_ {m : DMemory} {roots : List DValue} (h : Small m roots) (a : Int) : (atM m a).Slots.length ≤ 600 ∧ (atM m a).More.length ≤ 600 := by
 unfold atM
 cases hc : cellAt m a with
 | none => exact ⟨by simp [zeroC], by simp [zeroC]⟩
 | some c => exact h.cells c (cellAt_mem hc)
theorem hasM_pos {m : DMemory} {a : Int} (h : hasM m a = true) : 0 < a := by
 unfold hasM cellAt at h
 split at h
 ·cases h
 ·omega
theorem hasM_le {m : DMemory} {roots : List DValue} (hs : Small m roots) {a : Int} (h : hasM m a = true) : a ≤ 1200 := by
 have h1 := hs.young; have h2 := hs.old
 unfold hasM cellAt at h
 split at h
 ·cases h
 ·split at h
  ·have := (List.getElem?_eq_some_iff.1 (Option.isSome_iff_exists.1 h).choose_spec).1
   omega
  ·have := (List.getElem?_eq_some_iff.1 (Option.isSome_iff_exists.1 h).choose_spec).1
   omega
theorem tdiv2 {a : Int} (h : 0 ≤ a) : a.tdiv 2 = a / 2 := Int.tdiv_eq_ediv_of_nonneg h
theorem tmod2 {a : Int} (h : 0 ≤ a) : a.tmod 2 = a % 2 := Int.tmod_eq_emod_of_nonneg h
theorem isSome_lt {α : Type} (l : List α) (i : Nat) : (l[i]?).isSome = decide ((i : Int) < (l.length : Int)) := by
 by_cases h : i < l.length
 ·rw [List.getElem?_eq_getElem h, decide_eq_true (by omega)]; rfl
 ·rw [List.getElem?_eq_none (by omega), decide_eq_false (by omega)]; rfl
theorem addr_cases (m : DMemory) (a : Int) : (a < 1 ∧ cellAt m a = none) ∨ (∃ k : Nat, a = 2 * (k : Int) + 1 ∧ cellAt m a = m.Young[k]?) ∨ (∃ k : Nat, a = 2 * (k : Int) + 2 ∧ cellAt m a = m.Old[k]?) := by
 by_cases h : a < 1
 ·exact .inl ⟨h, by unfold cellAt; rw [if_pos h]⟩
 ·by_cases h2 : a % 2 = 1
  ·refine .inr (.inl ⟨((a - 1) / 2).toNat, by omega, ?_⟩)
   unfold cellAt; rw [if_neg h, if_pos h2]
  ·refine .inr (.inr ⟨((a - 2) / 2).toNat, by omega, ?_⟩)
   unfold cellAt; rw [if_neg h, if_neg h2]
theorem tdiv_in64 {a : Int} (h : in64 a) : -4611686018427387904 ≤ a.tdiv 2 ∧ a.tdiv 2 ≤ 4611686018427387904 := by
 unfold in64 at h
 by_cases h0 : 0 ≤ a
 ·rw [tdiv2 h0]; omega
 ·have h1 : (-a).tdiv 2 = -(a.tdiv 2) := Int.neg_tdiv a 2
  rw [tdiv2 (by omega)] at h1
  omega
theorem place_spec (N : Nat) (m : DMemory) (a : Int) (h : in64 a) : Sat (reach_place_O N m a) fun r => r.2.2 = hasM m a ∧ (hasM m a = true → getE r.1 r.2.1 = cellAt m a) := by
 have hd := tdiv_in64 h
 unfold reach_place_O
 rw [r64 (by omega) (by omega)]
 unfold reach_place_j5 hasM
 rcases addr_cases m a with ⟨h1, h2⟩ | ⟨k, h1, h2⟩ | ⟨k, h1, h2⟩
 ·rw [h2]
  refine sat_dec (fun _ => ?_) fun _ => ?_
  ·rw [r64 (by omega) (by omega), r64 (by omega) (by omega), lt_f (a := 0) (b := a) (by omega), cf, bs]
   exact sat_some ⟨rfl, fun h => by cases h⟩
  ·rw [lt_f (a := 0) (b := a) (by omega), cf, bs]
   exact sat_some ⟨rfl, fun h => by cases h⟩
 ·subst h1
  rw [h2, tmod2 (by omega), tdiv2 (by omega), eq_f (by omega), cf, lt_t (by omega), ct, bs, show (2 * (k : Int) + 1) / 2 = k by omega]
  exact sat_some ⟨(isSome_lt _ _).symm, fun _ => getE_nat _ _⟩
 ·subst h1
  rw [h2, tmod2 (by omega), tdiv2 (by omega), eq_t (by omega), ct, lt_t (by omega), ct, bs, show (2 * (k : Int) + 2) / 2 - 1 = k by omega]
  rw [r64 (by omega) (by omega), r64 (by omega) (by omega)]
  exact sat_some ⟨(isSome_lt _ _).symm, fun _ => getE_nat _ _⟩
theorem has_prog (N : Nat) (m : DMemory) (a : Int) (h : in64 a) : reach_Has_O N m a = some (hasM m a) := by
 obtain ⟨r, h1, h2, -⟩ := place_spec N m a h
 unfold reach_Has_O
 rw [h1, bs, h2]
theorem copy_spec (N : Nat) (c : DCell) (h : c.Slots.length ≤ 600 ∧ c.More.length ≤ 600) : cell_Copy_O N c = some c := by
 unfold cell_Copy_O slices_Clone_O
 rw [rF (by simp; omega), bs, rF (by simp; omega), bs]
 rfl
theorem at_prog (N : Nat) {m : DMemory} {roots : List DValue} (hs : Small m roots) (a : Int) (h : in64 a) : reach_At_O N m a = some (atM m a) := by
 obtain ⟨r, h1, h2, h3⟩ := place_spec N m a h
 unfold reach_At_O atM
 rw [h1, bs, h2]
 unfold hasM at *
 cases hc : cellAt m a with
 | none => rfl
 | some c =>
  have h4 := h3 (by rw [hc]; rfl)
  rw [hc] at h4
  have h5 := copy_spec N c (hs.cells c (cellAt_mem hc))
  simp only [Option.isSome_some, nt, cf, h4, bs, h5]
  rfl
theorem has_ref (N : Nat) (m : DMemory) (a : Int) (h : in64 a) : r19_Has_O N m a = some (hasM m a) := by
 unfold in64 at h
 unfold r19_Has_O hasM
 rcases addr_cases m a with ⟨h1, h2⟩ | ⟨k, h1, h2⟩ | ⟨k, h1, h2⟩
 ·rw [h2, lt_t h1]; rfl
 ·subst h1
  rw [h2, lt_f (by omega), cf, tmod2 (by omega), eq_t (by omega), ct, tdiv2 (by omega), show (2 * (k : Int) + 1 - 1) / 2 = k by omega, isSome_lt]
  rw [req_t (by unfold in64; omega), req_t (by unfold in64; omega)]
 ·subst h1
  rw [h2, lt_f (by omega), cf, tmod2 (by omega), eq_f (by omega), cf, tdiv2 (by omega), show (2 * (k : Int) + 2 - 2) / 2 = k by omega, isSome_lt]
  rw [req_t (by unfold in64; omega), req_t (by unfold in64; omega)]
theorem at_ref (N : Nat) (m : DMemory) (a : Int) (h : in64 a) : r19_At_O N m a = some (atM m a) := by
 have hh := has_ref N m a h
 unfold in64 at h
 unfold r19_At_O atM
 rw [hh, bs]
 unfold hasM
 rcases addr_cases m a with ⟨h1, h2⟩ | ⟨k, h1, h2⟩ | ⟨k, h1, h2⟩
 ·rw [h2]; rfl
 ·cases hc : m.Young[k]? with
  | none => rw [h2, hc]; rfl
  | some c =>
   rw [h2, hc]
   subst h1
   simp only [Option.isSome_some, nt, cf]
   rw [tmod2 (by omega), eq_t (by omega), ct, tdiv2 (by omega), show (2 * (k : Int) + 1 - 1) / 2 = k by omega, getE_nat, hc, bs]
   rw [req_t (by unfold in64; omega), req_t (by unfold in64; omega)]
   rfl
 ·cases hc : m.Old[k]? with
  | none => rw [h2, hc]; rfl
  | some c =>
   rw [h2, hc]
   subst h1
   simp only [Option.isSome_some, nt, cf]
   rw [tmod2 (by omega), eq_f (by omega), cf, tdiv2 (by omega), show (2 * (k : Int) + 2 - 2) / 2 = k by omega, getE_nat, hc, bs]
   rw [req_t (by unfold in64; omega), req_t (by unfold in64; omega)]
   rfl
end Go.Proofs.YtmbaennilhdieaaGreat
/- Plain: a valid cell, on both sides. -/
namespace Go.Proofs.YtmbaennilhdieaaGreat
open Go.RowKit
theorem has_props (N : Nat) (k : Int) : cell_has_O N k = r15_Props_O N k := by
 unfold cell_has_O r15_Props_O cell_has_j1
 by_cases h1 : k = 1
 ·subst h1; rfl
 by_cases h2 : k = 2
 ·subst h2; rfl
 by_cases h3 : k = 3
 ·subst h3; rfl
 by_cases h6 : k = 6
 ·subst h6; rfl
 by_cases h8 : k = 8
 ·subst h8; rfl
 by_cases h9 : k = 9
 ·subst h9; rfl
 by_cases h10 : k = 10
 ·subst h10; rfl
 rw [eq_f h1, eq_f h2, eq_f h3, eq_f h6, eq_f h8, eq_f h9, eq_f h10]; rfl
theorem slots_eq (N : Nat) (c : DCell) : cell_slotsRight_O N c = r15_slots_O N c := by
 unfold cell_slotsRight_O r15_slots_O
 rw [has_props]; rfl
theorem may_eq (N : Nat) (v : DValue) : cell_may_O N v = r15_May_O N v := by
 unfold cell_may_O r15_May_O cell_may_j9
 by_cases h5 : v.Kind = 5
 ·rw [h5]; rfl
 rw [eq_f h5]
 simp only [cf]
 by_cases hr : v.Kind < 0 ∨ 9 < v.Kind
 ·have h2 : v.Kind ≠ 2 := by omega
  have h3 : v.Kind ≠ 3 := by omega
  have h6 : v.Kind ≠ 6 := by omega
  have h7 : v.Kind ≠ 7 := by omega
  have h9 : v.Kind ≠ 9 := by omega
  have e1 : ((bif decide (v.Kind < 0) then (some true) else (some (decide (9 < v.Kind)))) : Option Bool) = some true := by
   rcases hr with h | h
   ·rw [lt_t h]; rfl
   ·rw [lt_t (a := 9) h]; cases decide (v.Kind < 0) <;> rfl
  rw [e1, bs, ct, eq_f h2, eq_f h3, eq_f h6, eq_f h7, eq_f h9]
  simp only [cf]
  have e2 : (((bif decide (v.N = 0) then (some (decide (0 ≤ v.Kind))) else (some false)).bind fun b14 => (bif b14 then (some (decide (v.Kind ≤ 9))) else (some false)).bind fun b15 => some b15) : Option Bool) = some false := by
   cases decide (v.N = 0)
   ·rfl
   ·rcases hr with h | h
    ·rw [le_f (a := 0) (b := v.Kind) (by omega)]; rfl
    ·rw [le_f (a := v.Kind) (b := 9) (by omega)]; cases decide (0 ≤ v.Kind) <;> rfl
  rw [e2]
  cases s : (v.S.toList == (⟨#[]⟩ : ByteArray).toList) <;> rfl
 ·have e1 : ((bif decide (v.Kind < 0) then (some true) else (some (decide (9 < v.Kind)))) : Option Bool) = some false := by
   rw [lt_f (a := v.Kind) (b := 0) (by omega), lt_f (a := 9) (b := v.Kind) (by omega)]; rfl
  rw [e1, bs, cf]
  cases hs : (v.S.toList == (⟨#[]⟩ : ByteArray).toList)
  ·rfl
  ·simp only [nt, cf]
   by_cases h2 : v.Kind = 2
   ·rw [h2]; rfl
   rw [eq_f h2]; simp only [cf]
   by_cases h3 : v.Kind = 3
   ·rw [h3]; rfl
   rw [eq_f h3]; simp only [cf]
   by_cases h6 : v.Kind = 6
   ·rw [h6]; rfl
   rw [eq_f h6]; simp only [cf]
   by_cases h7 : v.Kind = 7
   ·rw [h7]; rfl
   rw [eq_f h7]; simp only [cf]
   by_cases h9 : v.Kind = 9
   ·rw [h9]; rfl
   rw [eq_f h9, le_t (a := 0) (by omega), le_t (a := v.Kind) (by omega)]
   cases decide (v.N = 0) <;> rfl
theorem may_some (N : Nat) (v : DValue) : ∃ b, r15_May_O N v = some b := by
 unfold r15_May_O
 cases decide (v.Kind < 0) <;> cases decide (9 < v.Kind) <;> cases decide (v.Kind = 5) <;> cases decide (v.N = 0) <;> cases (v.S.toList == (⟨#[]⟩ : ByteArray).toList) <;> cases decide (v.Kind = 2) <;> cases decide (v.Kind = 3) <;> cases decide ((-9007199254740992) ≤ v.N) <;> cases decide (v.Kind = 6) <;> cases decide (v.Kind = 7) <;> cases decide (v.Kind = 9) <;> exact ⟨_, rfl⟩
theorem entries_loop (N : Nat) (k : Nat) (hk : k = 2 ∨ k = 4) (l : List DValue) (hl : l.length ≤ 1000) : ∀ (m i : Nat), l.length < m + i → i ≤ l.length → (l.length - i) % k = 0 → ∃ b, r15_entries_l5 N (k : Int) l m (i : Int) = some b ∧
  slices_Chunk_l4 N (liftR (fun x st => cell_entriesRight_b9 N (k : Int) x st)) l (k : Int) m (i : Int) (none, ()) = some (bif b then (none, ()) else (some .ret, ()))
 | 0, i, h, h2, _ => by omega
 | m + 1, i, h, h2, h3 => by
  by_cases hi : i < l.length
  ·have hik : i + k ≤ l.length := by
    rcases hk with rfl | rfl <;> omega
   have hmin : (min (k : Int) (((l.drop (i : Int).toNat).take (l.length - (i : Int).toNat)).length : Int)) = k := by
    rw [List.length_take, List.length_drop, Int.toNat_natCast]; omega
   have hto : ((i : Int) + (k : Int)).toNat = i + k := by omega
   have hx : ∀ j, j < k → getE ((l.drop i).take k) (j : Int) = l[i + j]? := fun j hj => by
    rw [getE_nat, List.getElem?_take, if_pos hj, List.getElem?_drop]
   have hk0 := hx 0 (by omega)
   have hk1 := hx 1 (by omega)
   rw [List.getElem?_eq_getElem (by omega)] at hk0 hk1
   have hl0 : getE l (i : Int) = some l[i] := getE_n hi
   have hl1 : getE l ((i : Int) + 1) = some (l[i + 1]'(by omega)) := by
    have := getE_n (xs := l) (i := i + 1) (by omega)
    simpa using this
   obtain ⟨b, hb1, hb2⟩ := entries_loop N k hk l hl m (i + k) (by omega) hik (by rcases hk with rfl | rfl <;> omega)
   simp only [Int.natCast_add] at hb1 hb2
   have fin : ∀ b', (bif b' then some false else req (in64 ((i : Int) + (k : Int))) (r15_entries_l5 N (k : Int) l m ((i : Int) + (k : Int)))) = some (bif b' then false else b) := fun b' => by
    cases b'
    ·rw [cf, r64 (by omega) (by omega), hb1]; rfl
    ·rfl
   have fin2 : ∀ b' : Bool, ((bif b' then (some (some Exit.ret, ())) else (some (none, ())) : Option (Option Exit × Unit)).map fun r => (r.1.isNone, r)) = some (!b', (bif b' then some Exit.ret else none, ())) := fun b' => by cases b' <;> rfl
   have goal : ∀ b', ((some (!b', ((bif b' then some Exit.ret else none : Option Exit), ())) : Option (Bool × (Option Exit × Unit))).bind fun y14 => bif !y14.1 then (some y14.2) else (req (in64 ((i : Int) + (k : Int))) ((slices_Chunk_l4 N (liftR (fun x st => cell_entriesRight_b9 N (k : Int) x st)) l (k : Int) m) ((i : Int) + (k : Int)) y14.2))) = some (bif (bif b' then false else b) then (none, ()) else (some .ret, ())) := fun b' => by
    cases b'
    ·rw [bs]
     simp only [nf, nt, cf]
     rw [r64 (by omega) (by omega)]
     exact hb2
    ·rfl
   have lift : ∀ (x : List DValue) (b' : Bool), cell_entriesRight_b9 N (k : Int) x () = (bif b' then (some (some Exit.ret, ())) else (some (none, ()))) → liftR (fun x st => cell_entriesRight_b9 N (k : Int) x st) x (none, ()) = some (!b', (bif b' then some Exit.ret else none, ())) := fun x b' hb => by
    unfold liftR
    simp only [hb]
    exact fin2 b'
   have key : ∃ b', ((getE l (i : Int)).bind fun x8 => (bif !decide (x8.Kind = 7) then (some true) else (req (in64 ((i : Int) + 1)) ((getE l ((i : Int) + 1)).bind fun x11 => some (decide (x11.Kind = 8))))).bind fun b9 => bif b9 then (some false) else ((bif decide ((k : Int) = 4) then (req (in64 ((i : Int) + 2)) ((getE l ((i : Int) + 2)).bind fun x15 => (r15_none_O N x15 7).bind fun y16 => (bif !y16 then (some true) else (req (in64 ((i : Int) + 3)) ((getE l ((i : Int) + 3)).bind fun x19 => (r15_num_O N x19 0 9007199254740992).bind fun y20 => some (!y20)))).bind fun b17 => some b17)) else (some false)).bind fun b13 => bif b13 then (some false) else (req (in64 ((i : Int) + (k : Int))) ((r15_entries_l5 N (k : Int) l m) ((i : Int) + (k : Int)))))) = some (bif b' then false else b) ∧ cell_entriesRight_b9 N (k : Int) ((l.drop i).take k) () = (bif b' then (some (some Exit.ret, ())) else (some (none, ()))) := by
    unfold cell_entriesRight_b9
    simp only [Int.cast_ofNat_Int, Int.natCast_zero, Int.natCast_one] at hk0 hk1
    rw [hl0, bs, r64 (a := (i : Int) + 1) (by omega) (by omega), hl1, bs]
    have hk0' : getE ((l.drop i).take k) 0 = some l[i] := hk0
    have hk1' : getE ((l.drop i).take k) 1 = some (l[i + 1]'(by omega)) := hk1
    simp only [hk0', bs, hk1']
    cases h7 : (!decide (l[i].Kind = 7))
    ·simp only [cf, bs]
     cases h8 : decide ((l[i + 1]'(by omega)).Kind = 8)
     ·simp only [cf]
      rcases hk with rfl | rfl
      ·simp only [show decide (((2 : Nat) : Int) = 4) = false from rfl, cf, bs]
       have f := fin false
       rw [cf] at f
       refine ⟨false, ?_, rfl⟩
       exact f
      ·have hk2 := hx 2 (by omega)
       have hk3 := hx 3 (by omega)
       rw [List.getElem?_eq_getElem (by omega)] at hk2 hk3
       have hk2' : getE ((l.drop i).take 4) 2 = some (l[i + 2]'(by omega)) := hk2
       have hk3' : getE ((l.drop i).take 4) 3 = some (l[i + 3]'(by omega)) := hk3
       have hl2 : getE l ((i : Int) + 2) = some (l[i + 2]'(by omega)) := by
        have := getE_n (xs := l) (i := i + 2) (by omega)
        simpa using this
       have hl3 : getE l ((i : Int) + 3) = some (l[i + 3]'(by omega)) := by
        have := getE_n (xs := l) (i := i + 3) (by omega)
        simpa using this
       simp only [show decide (((4 : Nat) : Int) = 4) = true from rfl, ct]
       rw [r64 (a := (i : Int) + 2) (by omega) (by omega), hl2, bs, hk2', bs, r64 (a := (i : Int) + 3) (by omega) (by omega), hl3, bs, hk3']
       have en : ∀ v, cell_orNone_O N v 7 = r15_none_O N v 7 := fun v => rfl
       have em : ∀ v, cell_number_O N v 0 9007199254740992 = r15_num_O N v 0 9007199254740992 := fun v => rfl
       have hn : ∃ b1, r15_none_O N (l[i + 2]'(by omega)) 7 = some b1 := by unfold r15_none_O; cases decide ((l[i + 2]'(by omega)).Kind = 0) <;> exact ⟨_, rfl⟩
       have hm : ∃ b1, r15_num_O N (l[i + 3]'(by omega)) 0 9007199254740992 = some b1 := by unfold r15_num_O; cases decide ((l[i + 3]'(by omega)).Kind = 3) <;> cases decide (0 ≤ (l[i + 3]'(by omega)).N) <;> exact ⟨_, rfl⟩
       obtain ⟨b1, hn⟩ := hn
       obtain ⟨b2, hm⟩ := hm
       simp only [bs, en, em, hn, hm]
       cases b1
       ·simp only [nf, ct, bs]
        exact ⟨true, rfl, rfl⟩
       ·simp only [nt, cf, bs]
        exact ⟨!b2, fin (!b2), by cases b2 <;> rfl⟩
     ·exact ⟨true, rfl, rfl⟩
    ·exact ⟨true, rfl, rfl⟩
   obtain ⟨b', e1, e2⟩ := key
   refine ⟨bif b' then false else b, ?_, ?_⟩
   ·rw [r15_entries_l5_s, lt_t (by omega), ct]
    exact e1
   ·rw [slices_Chunk_l4_s, lt_t (by omega), ct, hmin, req_t (show (0 : Int) ≤ (i : Int) ∧ (i : Int).toNat ≤ l.length ∧ l.length ≤ l.length from ⟨by omega, by omega, Nat.le_refl _⟩), r64 (a := (i : Int) + (k : Int)) (by omega) (by omega), r64 (a := (i : Int) + (k : Int)) (by omega) (by omega)]
    rw [req_t (show (0 : Int) ≤ (i : Int) ∧ (0 : Int) ≤ (i : Int) + (k : Int) ∧ (i : Int).toNat ≤ ((i : Int) + (k : Int)).toNat ∧ ((i : Int) + (k : Int)).toNat ≤ l.length from ⟨by omega, by omega, by omega, by omega⟩), hto, Int.toNat_natCast, show i + k - i = k by omega, lift _ b' e2]
    exact goal b'
  ·rw [r15_entries_l5_s, slices_Chunk_l4_s, lt_f (by omega), cf, cf]
   exact ⟨true, rfl, rfl⟩
theorem entries_eq (N : Nat) (hN : 2000 < N) (k : Nat) (hk : k = 2 ∨ k = 4) (l : List DValue) (hl : l.length ≤ 1000) : ∃ b, cell_entriesRight_O N l (k : Int) = some b ∧ r15_entries_O N l (k : Int) = some b ∧ (b = true → l.length % k = 0) := by
 unfold cell_entriesRight_O r15_entries_O
 have hk0 : (k : Int) ≠ 0 := by rcases hk with rfl | rfl <;> decide
 rw [req_t hk0, req_t hk0]
 have ht : (l.length : Int).tmod (k : Int) = ((l.length % k : Nat) : Int) := by
  rw [Int.tmod_eq_emod_of_nonneg (by omega)]; rfl
 rw [ht]
 by_cases h : l.length % k = 0
 ·rw [eq_t (by omega)]
  obtain ⟨b, h1, h2⟩ := entries_loop N k hk l hl N 0 (by omega) (by omega) (by simpa using h)
  have e : slices_Chunk_191_O N l (k : Int) = some () := by
   unfold slices_Chunk_191_O; rw [lt_f (by rcases hk with rfl | rfl <;> omega), cf]
  unfold slices_Chunk_O
  simp only [nt, cf, e, bs]
  have h1' : r15_entries_l5 N (k : Int) l N 0 = some b := h1
  have h2' : slices_Chunk_l4 N (liftR (fun x st => cell_entriesRight_b9 N (k : Int) x st)) l (k : Int) N 0 (none, ()) = some (bif b then (none, ()) else (some .ret, ())) := h2
  rw [h1', h2', bs]
  exact ⟨b, by cases b <;> rfl, rfl, fun _ => h⟩
 ·rw [eq_f (by omega)]
  exact ⟨false, rfl, rfl, fun h => by cases h⟩
end Go.Proofs.YtmbaennilhdieaaGreat
/- Plain: valid cells and weak maps, on both sides. -/
namespace Go.Proofs.YtmbaennilhdieaaGreat
open Go.RowKit
theorem more_eq (N : Nat) (hN : 2000 < N) (c : DCell) (hc : c.More.length ≤ 1000) : cell_moreRight_O N c.Kind c.More = r15_more_O N c := by
 obtain ⟨b2, h2, h2', -⟩ := entries_eq N hN 2 (.inl rfl) c.More hc
 obtain ⟨b4, h4, h4', -⟩ := entries_eq N hN 4 (.inr rfl) ((c.More.drop ((1 : Int).toNat)).take (c.More.length - (1 : Int).toNat)) (by rw [List.length_take, List.length_drop]; omega)
 have e2 : cell_entriesRight_O N c.More 2 = r15_entries_O N c.More 2 := h2.trans h2'.symm
 have e4 : cell_entriesRight_O N ((c.More.drop ((1 : Int).toNat)).take (c.More.length - (1 : Int).toNat)) 4 = r15_entries_O N ((c.More.drop ((1 : Int).toNat)).take (c.More.length - (1 : Int).toNat)) 4 := h4.trans h4'.symm
 unfold cell_moreRight_O r15_more_O cell_moreRight_j4 r15_more_j6
 rw [e2, e4]
 rfl
theorem may_lift (N : Nat) (c : DCell) (b : Bool) (v : DValue) : ∃ y, r15_May_O N v = some y ∧ liftR (fun x st => cell_Right_b14 N c x st) (b, v) (none, ()) = some (y, (bif y then none else some Exit.ret, ())) := by
 obtain ⟨y, hy⟩ := may_some N v
 refine ⟨y, hy, ?_⟩
 unfold liftR cell_Right_b14
 simp only [may_eq, hy, bs]
 cases y <;> rfl
theorem right_more (N : Nat) (c : DCell) (hc : c.More.length ≤ 1000) : ∀ (m i : Nat), c.More.length < m + i → i ≤ c.More.length → ∃ b, r15_Right_l20 N c m (i : Int) = (bif b then r15_Right_j19 N c else some false) ∧
  cell_all_c1_l15 N (liftR (fun x st => cell_Right_b14 N c x st)) c m (i : Int) (none, ()) = some (bif b then none else some Exit.ret, ())
 | 0, i, h, h2 => by omega
 | m + 1, i, h, h2 => by
  rw [r15_Right_l20_s, cell_all_c1_l15_s]
  by_cases hi : i < c.More.length
  ·rw [lt_t (by omega), ct, ct, getE_n hi, bs, bs]
   have hs : (bif !decide (c.Kind = 8) then ((bif !decide (c.Kind = 10) then (some true) else (some (decide ((i : Int).tmod 2 = 0)))).bind fun b22 => some b22) else (some false)) = some (strongB c.Kind i) := by
    unfold strongB; cases decide (c.Kind = 8) <;> cases decide (c.Kind = 10) <;> rfl
   obtain ⟨y, h3, h4⟩ := may_lift N c (strongB c.Kind i) c.More[i]
   rw [hs, bs, h3, h4, bs, bs]
   cases y
   ·simp only [nf, nt, ct, cf]
    exact ⟨false, cf.symm, by rw [cf]⟩
   ·obtain ⟨b, h5, h6⟩ := right_more N c hc m (i + 1) (by omega) hi
    simp only [Int.natCast_add, Int.cast_ofNat_Int] at h5 h6
    simp only [nt, cf, ct]
    rw [r64 (by omega) (by omega), r64 (by omega) (by omega)]
    exact ⟨b, h5, h6⟩
  ·rw [lt_f (by omega), cf, cf]
   exact ⟨true, ct.symm, by rw [ct]⟩
theorem right_slots (N : Nat) (hN : 2000 < N) (c : DCell) (hS : c.Slots.length ≤ 1000) (hc : c.More.length ≤ 1000) : ∀ (m i : Nat), c.Slots.length < m + i → i ≤ c.Slots.length → ∃ b, r15_Right_l12 N c m (i : Int) = (bif b then r15_Right_j19 N c else some false) ∧
  cell_all_c1_l6 N (liftR (fun x st => cell_Right_b14 N c x st)) c m (i : Int) (none, ()) = some (bif b then none else some Exit.ret, ())
 | 0, i, h, h2 => by omega
 | m + 1, i, h, h2 => by
  rw [r15_Right_l12_s, cell_all_c1_l6_s]
  by_cases hi : i < c.Slots.length
  ·rw [lt_t (by omega), ct, ct, getE_n hi, bs, bs]
   obtain ⟨y, h3, h4⟩ := may_lift N c true c.Slots[i]
   rw [h3, h4, bs, bs]
   cases y
   ·simp only [nf, nt, ct, cf]
    exact ⟨false, cf.symm, by rw [cf]⟩
   ·obtain ⟨b, h5, h6⟩ := right_slots N hN c hS hc m (i + 1) (by omega) hi
    simp only [Int.natCast_add, Int.cast_ofNat_Int] at h5 h6
    simp only [nt, cf, ct]
    rw [r64 (by omega) (by omega), r64 (by omega) (by omega)]
    exact ⟨b, h5, h6⟩
  ·rw [lt_f (by omega), cf, cf]
   exact right_more N c hc N 0 (by omega) (by omega)
theorem right_eq (N : Nat) (hN : 2000 < N) (c : DCell) (hS : c.Slots.length ≤ 1000) (hc : c.More.length ≤ 1000) : cell_Right_O N c = r15_Right_O N c := by
 unfold cell_Right_O r15_Right_O cell_all_c1_O
 have hAge : ((bif !decide (c.Age = 0) then (some (!decide (c.Age = 1))) else (some false)).bind fun b10 => some b10) = (some (decide (c.Age < 0) || decide (1 < c.Age)) : Option Bool) := by
  by_cases h0 : c.Age = 0
  ·rw [h0]; rfl
  ·by_cases h1 : c.Age = 1
   ·rw [h1]; rfl
   ·rw [eq_f h0, eq_f h1]
    by_cases h2 : c.Age < 0
    ·rw [lt_t h2]; rfl
    ·rw [lt_t (a := 1) (b := c.Age) (by omega), lt_f (a := c.Age) (by omega)]; rfl
 obtain ⟨b, h1, h2⟩ := right_slots N hN c hS hc N 0 (by omega) (by omega)
 have h1' : r15_Right_l12 N c N 0 = (bif b then r15_Right_j19 N c else some false) := h1
 have h2' : cell_all_c1_l6 N (liftR (fun x st => cell_Right_b14 N c x st)) c N 0 (none, ()) = some (bif b then none else some Exit.ret, ()) := h2
 have e : cell_all_O N c = some () := rfl
 rw [hAge, h1', h2', e]
 have tail : ((some ()).bind fun (y12 : Unit) => (some ((bif b then none else some Exit.ret : Option Exit), ())).bind fun y15 => caseX y15.1 ((cell_slotsRight_O N c).bind fun y19 => (bif y19 then ((cell_moreRight_O N c.Kind c.More).bind fun y21 => some y21) else (some false)).bind fun b20 => some b20) (some false) (fun _ => none)) = (bif b then r15_Right_j19 N c else some false) := by
  cases b
  ·rfl
  ·rw [slots_eq, more_eq N hN c hc]; rfl
 rw [tail]
 cases decide (c.Kind < 1) <;> cases decide (11 < c.Kind) <;> cases decide (c.Shape < 0) <;> cases decide (c.Flags < 0) <;> cases decide (63 < c.Flags) <;> cases decide (c.Age < 0) <;> cases decide (1 < c.Age) <;> rfl
theorem opt_bool {m : Option Bool} {x : Bool} : m = some x → (m.bind fun b => some b) = some x := fun h => by rw [h]; rfl
theorem right_some (N : Nat) (hN : 2000 < N) (c : DCell) (hS : c.Slots.length ≤ 1000) (hc : c.More.length ≤ 1000) (h8 : c.Kind = 8) : ∃ b, r15_Right_O N c = some b ∧ (b = true → c.More.length % 2 = 0) := by
 obtain ⟨b1, g1, -⟩ := right_slots N hN c hS hc N 0 (by omega) (by omega)
 have g1' : r15_Right_l12 N c N 0 = (bif b1 then r15_Right_j19 N c else some false) := g1
 obtain ⟨b2, -, h2, h3⟩ := entries_eq N hN 2 (.inl rfl) c.More hc
 have hm : r15_more_O N c = some b2 := by
  unfold r15_more_O r15_more_j6
  rw [h8, lt_f (by omega)]
  show ((r15_entries_O N c.More 2).bind fun y37 => some y37) = _
  exact opt_bool h2
 have hs : ∃ b3, r15_slots_O N c = some b3 := by
  unfold r15_slots_O
  rw [h8]
  have : r15_Props_O N 8 = some true := rfl
  rw [this, bs, ct, bs, ct]
  by_cases hl : 1 ≤ (c.Slots.length : Int)
  ·rw [le_t hl, ct, bs, getE_at (xs := c.Slots) (i := 0) (by omega) (by omega), bs]
   cases decide ((c.Slots.length : Int) ≤ 1025)
   ·exact ⟨_, rfl⟩
   ·cases decide (c.Slots[(0 : Int).toNat].Kind = 1) <;> exact ⟨_, rfl⟩
  ·rw [le_f (by omega)]; exact ⟨_, rfl⟩
 obtain ⟨b3, hs⟩ := hs
 have hj : r15_Right_j19 N c = some (b3 && b2) := by
  unfold r15_Right_j19
  rw [hs, hm]
  cases b3 <;> rfl
 unfold r15_Right_O
 rw [g1', hj]
 have fin : ∃ b, ((bif b1 then some (b3 && b2) else some false) : Option Bool) = some b ∧ (b = true → c.More.length % 2 = 0) := by
  cases b1
  ·exact ⟨false, rfl, fun h => by cases h⟩
  ·exact ⟨b3 && b2, rfl, fun h => h3 (by cases b3 <;> cases b2 <;> first | rfl | cases h)⟩
 obtain ⟨b, e1, e2⟩ := fin
 rw [e1]
 have ff : ∃ b', (some false : Option Bool) = some b' ∧ (b' = true → c.More.length % 2 = 0) := ⟨false, rfl, fun h => by cases h⟩
 cases decide (c.Kind < 1) <;> cases decide (11 < c.Kind) <;> cases decide (c.Shape < 0) <;> cases decide (c.Flags < 0) <;> cases decide (63 < c.Flags) <;> cases decide (c.Age < 0) <;> cases decide (1 < c.Age) <;> first | exact ff | exact ⟨b, rfl, e2⟩
def isWM (N : Nat) (c : DCell) : Bool := decide (c.Kind = 8) && (r15_Right_O N c).getD false
theorem is_ref (N : Nat) (hN : 2000 < N) (c : DCell) (hS : c.Slots.length ≤ 1000) (hc : c.More.length ≤ 1000) : r17_Is_O N c = some (isWM N c) ∧ weak_is_O N c = some (isWM N c) ∧ (isWM N c = true → c.More.length % 2 = 0) := by
 unfold r17_Is_O weak_is_O isWM
 rw [right_eq N hN c hS hc]
 by_cases h8 : c.Kind = 8
 ·obtain ⟨b, h1, h2⟩ := right_some N hN c hS hc h8
  rw [h1, h8]
  exact ⟨rfl, rfl, h2⟩
 ·rw [eq_f h8]
  exact ⟨rfl, rfl, fun h => by cases h⟩
end Go.Proofs.YtmbaennilhdieaaGreat
/- Plain: every cell has an answer whether it is valid; what a valid registry holds. -/
namespace Go.Proofs.YtmbaennilhdieaaGreat
open Go.RowKit
abbrev Tot {ρ : Type} (m : Option ρ) : Prop := Sat m fun _ => True
theorem tot_some {ρ : Type} (x : ρ) : Tot (some x) := sat_some trivial
theorem tot_bif {ρ : Type} {b : Bool} {x y : Option ρ} (hx : b = true → Tot x) (hy : b = false → Tot y) : Tot (bif b then x else y) := sat_cond hx hy
theorem num_tot (N : Nat) (v : DValue) (a b : Int) : Tot (r15_num_O N v a b) := by
 unfold r15_num_O
 refine Sat.bind (P := fun _ => True) (tot_bif (fun _ => tot_some _) fun _ => tot_some _) fun x _ => Sat.bind (P := fun _ => True) (tot_bif (fun _ => tot_some _) fun _ => tot_some _) fun y _ => tot_some _
theorem none_tot (N : Nat) (v : DValue) (a : Int) : Tot (r15_none_O N v a) := by
 unfold r15_none_O
 exact Sat.bind (P := fun _ => True) (tot_bif (fun _ => tot_some _) fun _ => tot_some _) fun x _ => tot_some _
theorem tot_and {c : Bool} {m : Option Bool} (h : c = true → Tot m) : Tot (bif c then m else some false) := tot_bif h fun _ => tot_some _
theorem tot_at {l : List DValue} {i : Nat} {f : DValue → Option Bool} (hi : i < l.length) (h : ∀ v, Tot (f v)) : Tot ((getE l (i : Int)).bind f) := by
 rw [getE_n hi, bs]; exact h _
theorem tot_bind {m : Option Bool} {f : Bool → Option Bool} (h : Tot m) (k : ∀ b, Tot (f b)) : Tot (m.bind f) := Sat.bind h fun b _ => k b
theorem tot_bindP {m : Option Bool} {p : Prop} {f : Bool → Option Bool} (h : Sat m fun b => b = true → p) (k : ∀ b, (b = true → p) → Tot (f b)) : Tot (m.bind f) := Sat.bind h k
theorem slots_tot (N : Nat) (c : DCell) : Tot (r15_slots_O N c) := by
 unfold r15_slots_O
 have hp : Tot (r15_Props_O N c.Kind) := by
  unfold r15_Props_O
  iterate 6 refine tot_bind (tot_bif (fun _ => tot_some _) fun _ => tot_some _) fun _ => ?_
  exact tot_some _
 refine tot_bind hp fun y => tot_bind (tot_bif (fun _ => tot_some _) fun _ => tot_bind (tot_bif (fun _ => tot_some _) fun _ => tot_some _) fun _ => tot_some _) fun b => ?_
 refine tot_bif (fun _ => ?_) fun _ => ?_
 ·refine tot_bindP (p := 0 < c.Slots.length) (sat_dec (fun h => sat_some fun _ => by omega) fun _ => sat_some fun h => by cases h) fun b hb => tot_bind (tot_and fun h => ?_) fun _ => tot_some _
  have h0 := hb h
  refine tot_at (i := 0) h0 fun v => tot_bind (tot_bif (fun _ => tot_some _) fun _ => tot_at (i := 0) h0 fun _ => tot_some _) fun _ => tot_some _
 ·refine tot_bif (fun _ => tot_some _) fun _ => tot_bind (tot_bif (fun _ => tot_some _) fun _ => tot_some _) fun _ => tot_bif (fun _ => tot_some _) fun _ => sat_cond (fun _ => ?_) fun _ => tot_some _
  refine tot_bindP (p := 1 < c.Slots.length) (sat_dec (fun h => ?_) fun _ => sat_some fun h => by cases h) fun b hb => tot_bind (tot_and fun h => ?_) fun _ => tot_some _
  ·rw [show ((0 : Int)) = ((0 : Nat) : Int) from rfl, getE_n (by omega), bs]
   obtain ⟨x, hx, -⟩ := none_tot N c.Slots[0] 7
   rw [hx, bs]; exact sat_some fun _ => by omega
  ·refine tot_at (i := 1) (hb h) fun v => tot_bind (none_tot N v 7) fun _ => tot_some _
theorem at_tot {l : List DValue} {i : Nat} {m : DValue → Option Bool} (hi : i < l.length) (h : ∀ v, Tot (m v)) {p : Prop} (hp : p) : Sat ((getE l (i : Int)).bind fun x => (m x).bind fun y => some y) fun b => b = true → p := by
 rw [getE_n hi, bs]
 obtain ⟨x, hx, -⟩ := h l[i]
 rw [hx, bs]; exact sat_some fun _ => hp
def MoreOk (c : DCell) : Prop := (c.Kind = 8 → c.More.length % 2 = 0) ∧ (c.Kind = 10 → 1 ≤ c.More.length ∧ (c.More.length - 1) % 4 = 0)
theorem more_tot (N : Nat) (hN : 2000 < N) (c : DCell) (hc : c.More.length ≤ 1000) : Sat (r15_more_O N c) fun b => b = true → MoreOk c := by
 have j6 : ∀ p, (p = true → c.Kind = 1 ∨ c.Kind = 5) → Sat (r15_more_j6 N c p) fun b => b = true → MoreOk c := by
  intro p hp
  have other : ∀ {m : Option Bool}, c.Kind ≠ 8 → c.Kind ≠ 10 → Tot m → Sat m fun b => b = true → MoreOk c := fun h8 h10 h => h.mono fun _ _ _ => ⟨fun e => absurd e h8, fun e => absurd e h10⟩
  unfold r15_more_j6
  refine sat_cond (fun h => other (by rcases hp h with e | e <;> omega) (by rcases hp h with e | e <;> omega) (tot_some _)) fun _ => ?_
  refine sat_dec (fun hk => other (by omega) (by omega) ?_) fun _ => ?_
  ·refine tot_bindP (p := 1 < c.More.length) (sat_dec (fun h => at_tot (i := 0) (by omega) (fun v => num_tot N v _ _) (by omega)) fun _ => sat_some fun h => by cases h) fun b hb => tot_bind (tot_and fun h => tot_at (i := 1) (hb h) fun v => tot_bind (none_tot N v 9) fun _ => tot_some _) fun _ => tot_some _
  refine sat_dec (fun hk => other (by omega) (by omega) ?_) fun _ => ?_
  ·refine tot_bindP (p := 0 < c.More.length) (sat_dec (fun h => sat_some fun _ => by omega) fun _ => sat_some fun h => by cases h) fun b hb => tot_bind (tot_and fun h => tot_at (i := 0) (hb h) fun v => tot_bind (none_tot N v 9) fun _ => tot_some _) fun _ => tot_some _
  refine sat_dec (fun hk => other (by omega) (by omega) ?_) fun _ => ?_
  ·refine tot_bindP (p := 1 < c.More.length) (sat_dec (fun h => at_tot (i := 0) (by omega) (fun v => num_tot N v _ _) (by omega)) fun _ => sat_some fun h => by cases h) fun b hb => tot_bind (tot_and fun h => tot_at (i := 1) (hb h) fun v => tot_bind (none_tot N v 9) fun _ => tot_some _) fun _ => tot_some _
  refine sat_dec (fun hk => other (by omega) (by omega) ?_) fun _ => ?_
  ·refine tot_bindP (p := 3 < c.More.length) (sat_dec (fun h => at_tot (i := 2) (by omega) (fun v => num_tot N v _ _) (by omega)) fun _ => sat_some fun h => by cases h) fun b hb => tot_bind (tot_and fun h => tot_at (i := 3) (hb h) fun v => tot_bind (num_tot N v _ _) fun _ => tot_some _) fun _ => tot_some _
  refine sat_dec (fun hk => ?_) fun hk8 => ?_
  ·obtain ⟨b, -, h2, h3⟩ := entries_eq N hN 2 (.inl rfl) c.More hc
   have h2' : r15_entries_O N c.More 2 = some b := h2
   rw [h2', bs]
   exact sat_some fun hb => ⟨fun _ => h3 hb, fun e => absurd e (by omega)⟩
  refine sat_dec (fun hk => ?_) fun hk10 => ?_
  ·refine Sat.bind (P := fun b => b = true → 1 ≤ c.More.length) (sat_dec (fun h => ?_) fun _ => sat_some fun h => by cases h) fun b hb => ?_
   ·rw [show ((0 : Int)) = ((0 : Nat) : Int) from rfl, getE_n (by omega), bs]; exact sat_some fun _ => by omega
   ·refine Sat.bind (P := fun b => b = true → MoreOk c) (sat_cond (fun h => ?_) fun _ => sat_some fun h => by cases h) fun b' hb' => sat_some hb'
    have h1 := hb h
    rw [req_pos ⟨by omega, by show (1 : Int).toNat ≤ _; exact h1, Nat.le_refl _⟩]
    have hl : ((c.More.drop ((1 : Int).toNat)).take (c.More.length - (1 : Int).toNat)).length = c.More.length - 1 := by
     rw [List.length_take, List.length_drop]; show min (c.More.length - 1) (c.More.length - 1) = _; omega
    obtain ⟨b2, -, h2, h3⟩ := entries_eq N hN 4 (.inr rfl) ((c.More.drop ((1 : Int).toNat)).take (c.More.length - (1 : Int).toNat)) (by rw [hl]; omega)
    have h2' : r15_entries_O N ((c.More.drop ((1 : Int).toNat)).take (c.More.length - (1 : Int).toNat)) 4 = some b2 := h2
    rw [h2', bs]
    exact sat_some fun hb2 => ⟨fun e => absurd e (by omega), fun _ => ⟨h1, by have := h3 hb2; rw [hl] at this; exact this⟩⟩
  refine sat_dec (fun hk => other (by omega) (by omega) ?_) fun _ => other hk8 hk10 (tot_some _)
  refine tot_bind ?_ fun _ => tot_some _
  exact tot_bif (fun h => tot_at (i := 0) (by have := of_decide_eq_true h; omega) fun v => tot_bind (num_tot N v _ _) fun _ => tot_some _) fun _ => tot_some _
 unfold r15_more_O
 refine sat_dec (fun _ => sat_some fun h => by cases h) fun _ => sat_dec (fun hk => sat_some fun _ => ⟨fun e => absurd e (by omega), fun e => absurd e (by omega)⟩) fun _ => sat_dec (fun hk => j6 _ fun _ => .inl hk) fun _ => j6 _ fun h => .inr (of_decide_eq_true h)
theorem right_tot (N : Nat) (hN : 2000 < N) (c : DCell) (hS : c.Slots.length ≤ 1000) (hc : c.More.length ≤ 1000) : Sat (r15_Right_O N c) fun b => b = true → MoreOk c := by
 obtain ⟨b1, g1, -⟩ := right_slots N hN c hS hc N 0 (by omega) (by omega)
 have g1' : r15_Right_l12 N c N 0 = (bif b1 then r15_Right_j19 N c else some false) := g1
 have hj : Sat (r15_Right_j19 N c) fun b => b = true → MoreOk c := by
  unfold r15_Right_j19
  refine Sat.bind (slots_tot N c) fun y _ => ?_
  refine Sat.bind (P := fun b => b = true → MoreOk c) (sat_cond (fun _ => Sat.bind (more_tot N hN c hc) fun _ h => sat_some h) fun _ => sat_some fun h => by cases h) fun _ h => sat_some h
 unfold r15_Right_O
 rw [g1']
 iterate 6 refine Sat.bind (P := fun _ => True) (tot_bif (fun _ => tot_some _) fun _ => tot_some _) fun _ _ => ?_
 refine sat_cond (fun _ => sat_some fun h => by cases h) fun _ => sat_cond (fun _ => hj) fun _ => sat_some fun h => by cases h
end Go.Proofs.YtmbaennilhdieaaGreat
/- Plain tools for translated loops: all, folds, equal lists. Over any program. -/
namespace Go.Proofs.YtmbaennilhdieaaGreat
open Go.RowKit
theorem loop_allk {α ρ : Type} (L : Nat → Int → Option ρ) (l : List α) (p : α → Bool) (bad k : Option ρ)
  (step : ∀ m (i : Nat) (h : i < l.length), L (m + 1) (i : Int) = bif p l[i] then L m ((i : Int) + 1) else bad)
  (fin : ∀ m, L (m + 1) (l.length : Int) = k) (N : Nat) (hN : l.length < N) : L N 0 = bif l.all p then k else bad := by
 have key : ∀ m i : Nat, l.length < m + i → i ≤ l.length → L m (i : Int) = bif (l.drop i).all p then k else bad := by
  intro m
  induction m with
  | zero => intro i h1 h2; omega
  | succ m ih =>
   intro i h1 h2
   by_cases hi : i < l.length
   ·rw [step m i hi, List.drop_eq_getElem_cons hi, List.all_cons]
    have h3 := ih (i + 1) (by omega) hi
    rw [show (((i + 1 : Nat)) : Int) = (i : Int) + 1 by omega] at h3
    rw [h3]
    cases p l[i] <;> rfl
   ·have e : i = l.length := by omega
    subst e
    rw [fin, List.drop_length]; rfl
 have := key N 0 (by omega) (by omega)
 simpa using this
theorem loop_all {α : Type} (L : Nat → Int → Option Bool) (l : List α) (p : α → Bool)
  (step : ∀ m (i : Nat) (h : i < l.length), L (m + 1) (i : Int) = bif p l[i] then L m ((i : Int) + 1) else some false)
  (fin : ∀ m, L (m + 1) (l.length : Int) = some true) (N : Nat) (hN : l.length < N) : L N 0 = some (l.all p) := by
 rw [loop_allk L l p _ _ step fin N hN]; cases l.all p <;> rfl
theorem zip_loop {α β : Type} (L : Nat → Int → Option Bool) (a : List α) (b : List β) (p : α × β → Bool)
  (step : ∀ m (i : Nat) (h : i < a.length) (h' : i < b.length), L (m + 1) (i : Int) = bif p (a[i], b[i]) then L m ((i : Int) + 1) else some false)
  (fin : ∀ m, L (m + 1) (a.length : Int) = some true) (N : Nat) (hN : a.length < N) : (bif !decide ((a.length : Int) = (b.length : Int)) then some false else L N 0) = some (decide (a.length = b.length) && (a.zip b).all p) := by
 by_cases hl : a.length = b.length
 ·have hz : (a.zip b).length = a.length := by rw [List.length_zip]; omega
  rw [decide_eq_true (p := ((a.length : Int) = (b.length : Int))) (by omega), nt, cf, decide_eq_true hl, Bool.true_and]
  refine loop_all L (a.zip b) p (fun m i h => ?_) (fun m => by rw [hz]; exact fin m) N (by omega)
  rw [List.getElem_zip]
  exact step m i (by omega) (by omega)
 ·rw [decide_eq_false (p := ((a.length : Int) = (b.length : Int))) (by omega), nf, ct, decide_eq_false hl]; rfl
def upR {α β : Type} [DecidableEq α] (a : α) (b : β) : List (α × β) → List (α × β)
 | [] => [(a, b)]
 | p :: l => if p.1 = a then (a, b) :: l else p :: upR a b l
theorem upL_upR {α β : Type} [DecidableEq α] (L : List (α × β)) (a : α) (b : β) : upL L a b = upR a b L := by
 have key : ∀ (L : List (α × β)) (j : Nat), (∃ i c, fp a L j = some (i, c) ∧ j ≤ i ∧ L.set (i - j) (a, b) = upR a b L) ∨ (fp a L j = none ∧ L ++ [(a, b)] = upR a b L) := by
  intro L
  induction L with
  | nil => intro j; exact .inr ⟨rfl, rfl⟩
  | cons p l ih =>
   intro j
   obtain ⟨x, y⟩ := p
   by_cases e : a = x
   ·refine .inl ⟨j, y, by simp [fp, e], Nat.le_refl _, ?_⟩
    rw [Nat.sub_self]; simp [upR, e]
   ·have e' : ¬ x = a := fun h => e h.symm
    rcases ih (j + 1) with ⟨i, c, h1, h2, h3⟩ | ⟨h1, h2⟩
    ·refine .inl ⟨i, c, by simp [fp, e, h1], by omega, ?_⟩
     rw [show i - j = (i - (j + 1)) + 1 by omega, List.set_cons_succ, h3]
     simp [upR, e']
    ·exact .inr ⟨by simp [fp, e, h1], by simp [upR, e', h2]⟩
 unfold upL
 rcases key L 0 with ⟨i, c, h1, -, h3⟩ | ⟨h1, h2⟩
 ·rw [h1]; exact h3
 ·rw [h1]; exact h2
theorem lk_cons {α β : Type} [DecidableEq α] (p : α × β) (l : List (α × β)) (x : α) : lk (p :: l) x = if p.1 = x then some p.2 else lk l x := by
 unfold lk
 rw [List.find?_cons]
 by_cases e : p.1 = x <;> simp [e]
theorem lk_up {α β : Type} [DecidableEq α] (L : List (α × β)) (a : α) (b : β) (x : α) : lk (upL L a b) x = if a = x then some b else lk L x := by
 rw [upL_upR]
 induction L with
 | nil => rw [upR, lk_cons]
 | cons p l ih =>
  unfold upR
  by_cases e : p.1 = a
  ·rw [if_pos e, lk_cons, lk_cons, e]
   by_cases e2 : a = x <;> simp [e2]
  ·rw [if_neg e, lk_cons, lk_cons, ih]
   by_cases e2 : p.1 = x
   ·rw [if_pos e2, if_pos e2, if_neg (fun h => e (by rw [e2, h]))]
   ·rw [if_neg e2, if_neg e2]
theorem lk_app {α β : Type} [DecidableEq α] (L : List (α × β)) (a : α) (b : β) (x : α) (h : a ≠ x) : lk (L ++ [(a, b)]) x = lk L x := by
 induction L with
 | nil => rw [List.nil_append, lk_cons, if_neg h]
 | cons p l ih => rw [List.cons_append, lk_cons, lk_cons, ih]
end Go.Proofs.YtmbaennilhdieaaGreat
/- Plain: valid cells, as a plain predicate. -/
namespace Go.Proofs.YtmbaennilhdieaaGreat
open Go.RowKit
abbrev vZ : DValue := ⟨0, 0, ⟨#[]⟩⟩
def atL (l : List DValue) (i : Nat) : DValue := l.getD i vZ
theorem getE_at0 {l : List DValue} {i : Nat} (h : i < l.length) : getE l (i : Int) = some (atL l i) := by
 rw [getE_n h]; unfold atL; simp [List.getD, h]
def mayB (v : DValue) : Bool := (r15_May_O 0 v).getD false
theorem may_spec (N : Nat) (v : DValue) : r15_May_O N v = some (mayB v) := by
 obtain ⟨b, hb⟩ := may_some 0 v
 have e : r15_May_O N v = r15_May_O 0 v := Eq.trans rfl rfl
 unfold mayB
 rw [e, hb]; rfl
def numB (v : DValue) (a b : Int) : Bool := decide (v.Kind = 3) && (decide (a ≤ v.N) && decide (v.N ≤ b))
def noneB (v : DValue) (k : Int) : Bool := decide (v.Kind = 0) || decide (v.Kind = k)
theorem num_spec (N : Nat) (v : DValue) (a b : Int) : r15_num_O N v a b = some (numB v a b) := by
 unfold r15_num_O numB
 cases decide (v.Kind = 3) <;> cases decide (a ≤ v.N) <;> cases decide (v.N ≤ b) <;> rfl
theorem none_spec (N : Nat) (v : DValue) (k : Int) : r15_none_O N v k = some (noneB v k) := by
 unfold r15_none_O noneB
 cases decide (v.Kind = 0) <;> cases decide (v.Kind = k) <;> rfl
def propsB (k : Int) : Bool := decide (k = 1) || decide (k = 2) || decide (k = 3) || decide (k = 6) || decide (k = 8) || decide (k = 9) || decide (k = 10)
theorem props_spec (N : Nat) (k : Int) : r15_Props_O N k = some (propsB k) := by
 unfold r15_Props_O propsB
 cases decide (k = 1) <;> cases decide (k = 2) <;> cases decide (k = 3) <;> cases decide (k = 6) <;> cases decide (k = 8) <;> cases decide (k = 9) <;> cases decide (k = 10) <;> rfl
def slotsB (k sh fl : Int) (l : List DValue) : Bool :=
 bif propsB k || (decide (k = 7) && decide (0 < l.length)) then decide (1 ≤ l.length) && decide (l.length ≤ 1025) && (decide ((atL l 0).Kind = 1) || decide ((atL l 0).Kind = 7))
 else bif decide (k = 7) then decide (sh = 0) else bif !decide (sh = 0) || !decide (fl = 0) then false else bif decide (k = 5) then decide (l.length = 2) && noneB (atL l 0) 7 && noneB (atL l 1) 7 else decide (l.length = 0)
theorem dec_cast {p q : Prop} [Decidable p] [Decidable q] (h : p ↔ q) : decide p = decide q := by
 by_cases hp : p
 ·rw [decide_eq_true hp, decide_eq_true (h.1 hp)]
 ·rw [decide_eq_false hp, decide_eq_false fun hq => hp (h.2 hq)]
theorem slots_spec (N : Nat) (c : DCell) : r15_slots_O N c = some (slotsB c.Kind c.Shape c.Flags c.Slots) := by
 unfold r15_slots_O slotsB
 rw [props_spec, bs, dec_cast (p := (0 : Int) < (c.Slots.length : Int)) (q := 0 < c.Slots.length) (by omega), dec_cast (p := (1 : Int) ≤ (c.Slots.length : Int)) (q := 1 ≤ c.Slots.length) (by omega), dec_cast (p := (c.Slots.length : Int) ≤ 1025) (q := c.Slots.length ≤ 1025) (by omega), dec_cast (p := (c.Slots.length : Int) = 2) (q := c.Slots.length = 2) (by omega), dec_cast (p := (c.Slots.length : Int) = 0) (q := c.Slots.length = 0) (by omega)]
 have hA : ∀ b : Bool, ((bif decide (1 ≤ c.Slots.length) then some (decide (c.Slots.length ≤ 1025)) else some false).bind fun b8 => (bif b8 then ((getE c.Slots 0).bind fun x10 => (bif decide (x10.Kind = 1) then (some true) else ((getE c.Slots 0).bind fun x12 => some (decide (x12.Kind = 7)))).bind fun b11 => some b11) else (some false)).bind fun b9 => some b9) = some (decide (1 ≤ c.Slots.length) && decide (c.Slots.length ≤ 1025) && (decide ((atL c.Slots 0).Kind = 1) || decide ((atL c.Slots 0).Kind = 7))) := fun _ => by
  by_cases h : 1 ≤ c.Slots.length
  ·have g : getE c.Slots 0 = some (atL c.Slots 0) := getE_at0 (i := 0) (by omega)
   rw [decide_eq_true h, g]
   simp only [bs]
   cases decide (c.Slots.length ≤ 1025) <;> cases decide ((atL c.Slots 0).Kind = 1) <;> cases decide ((atL c.Slots 0).Kind = 7) <;> rfl
  ·rw [decide_eq_false h]; rfl
 have hB : ((bif decide (c.Slots.length = 2) then ((getE c.Slots 0).bind fun x18 => (r15_none_O N x18 7).bind fun y19 => some y19) else (some false)).bind fun b17 => (bif b17 then ((getE c.Slots 1).bind fun x21 => (r15_none_O N x21 7).bind fun y22 => some y22) else (some false)).bind fun b20 => some b20) = some (decide (c.Slots.length = 2) && noneB (atL c.Slots 0) 7 && noneB (atL c.Slots 1) 7) := by
  by_cases h : c.Slots.length = 2
  ·have g : getE c.Slots 0 = some (atL c.Slots 0) := getE_at0 (i := 0) (by omega)
   have g1 : getE c.Slots 1 = some (atL c.Slots 1) := getE_at0 (i := 1) (by omega)
   rw [decide_eq_true h, g, g1]
   simp only [bs, none_spec]
   cases noneB (atL c.Slots 0) 7 <;> cases noneB (atL c.Slots 1) 7 <;> rfl
  ·rw [decide_eq_false h]; rfl
 rw [hA true, hB]
 cases propsB c.Kind <;> cases decide (c.Kind = 7) <;> cases decide (0 < c.Slots.length) <;> cases decide (c.Shape = 0) <;> cases decide (c.Flags = 0) <;> cases decide (c.Kind = 5) <;> rfl
def entB2 : List DValue → Bool
 | k :: v :: r => decide (k.Kind = 7) && !decide (v.Kind = 8) && entB2 r
 | [_] => false
 | [] => true
def entB4 : List DValue → Bool
 | t :: h :: k :: s :: r => decide (t.Kind = 7) && !decide (h.Kind = 8) && (noneB k 7 && numB s 0 9007199254740992) && entB4 r
 | [] => true
 | _ => false
theorem entB2_cons (k v : DValue) (r : List DValue) : entB2 (k :: v :: r) = (decide (k.Kind = 7) && !decide (v.Kind = 8) && entB2 r) := Eq.trans rfl rfl
theorem entB4_cons (t h k s : DValue) (r : List DValue) : entB4 (t :: h :: k :: s :: r) = (decide (t.Kind = 7) && !decide (h.Kind = 8) && (noneB k 7 && numB s 0 9007199254740992) && entB4 r) := Eq.trans rfl rfl
theorem entB2_len : ∀ {l : List DValue}, entB2 l = true → l.length % 2 = 0
 | [], _ => rfl
 | [_], h => by cases h
 | k :: v :: r, h => by
  rw [entB2_cons] at h
  rw [Bool.and_eq_true] at h
  have := entB2_len h.2
  simp only [List.length_cons]; omega
theorem entB4_len : ∀ {l : List DValue}, entB4 l = true → l.length % 4 = 0
 | [], _ => rfl
 | [_], h => by cases h
 | [_, _], h => by cases h
 | [_, _, _], h => by cases h
 | t :: a :: k :: s :: r, h => by
  rw [entB4_cons] at h
  rw [Bool.and_eq_true] at h
  have := entB4_len h.2
  simp only [List.length_cons]; omega
theorem at_drop {l r : List DValue} {i : Nat} {v : DValue} (h : l.drop i = v :: r) : getE l (i : Int) = some v ∧ l.drop (i + 1) = r := by
 have hl : i < l.length := by
  rcases Nat.lt_or_ge i l.length with h1 | h1
  ·exact h1
  ·rw [List.drop_eq_nil_of_le h1] at h; cases h
 rw [List.drop_eq_getElem_cons hl] at h
 obtain ⟨e1, e2⟩ := List.cons.inj h
 exact ⟨by rw [getE_n hl, e1], e2⟩
theorem ent2_spec (N : Nat) (l : List DValue) (hl : l.length ≤ 1000) : ∀ (m i : Nat), l.length < m + i → i ≤ l.length → (l.length - i) % 2 = 0 → r15_entries_l5 N 2 l m (i : Int) = some (entB2 (l.drop i))
 | 0, i, h, h2, _ => by omega
 | m + 1, i, h, h2, h3 => by
  rw [r15_entries_l5_s]
  match hd : l.drop i with
  | [] =>
   have hi : l.length ≤ i := by have := congrArg List.length hd; rw [List.length_drop] at this; simp at this; omega
   rw [lt_f (by omega), cf]; rfl
  | [x] => have := congrArg List.length hd; rw [List.length_drop] at this; simp at this; omega
  | k :: v :: r =>
   have hlen := congrArg List.length hd
   rw [List.length_drop] at hlen; simp only [List.length_cons] at hlen
   obtain ⟨g1, d1⟩ := at_drop hd
   obtain ⟨g2, d2⟩ := at_drop d1
   rw [show (((i + 1 : Nat)) : Int) = (i : Int) + 1 by omega] at g2
   have ih := ent2_spec N l hl m (i + 2) (by omega) (by omega) (by omega)
   rw [show (((i + 2 : Nat)) : Int) = (i : Int) + 2 by omega, d2] at ih
   rw [lt_t (by omega), ct, g1, bs, r64 (by omega) (by omega), g2, bs, decide_eq_false (p := (2 : Int) = 4) (by decide), cf, bs, cf, r64 (by omega) (by omega), ih]
   simp only [entB2_cons]
   cases decide (k.Kind = 7) <;> cases decide (v.Kind = 8) <;> rfl
theorem ent4_spec (N : Nat) (l : List DValue) (hl : l.length ≤ 1000) : ∀ (m i : Nat), l.length < m + i → i ≤ l.length → (l.length - i) % 4 = 0 → r15_entries_l5 N 4 l m (i : Int) = some (entB4 (l.drop i))
 | 0, i, h, h2, _ => by omega
 | m + 1, i, h, h2, h3 => by
  rw [r15_entries_l5_s]
  match hd : l.drop i with
  | [] =>
   have hi : l.length ≤ i := by have := congrArg List.length hd; rw [List.length_drop] at this; simp at this; omega
   rw [lt_f (by omega), cf]; rfl
  | [x] => have := congrArg List.length hd; rw [List.length_drop] at this; simp at this; omega
  | [x, y] => have := congrArg List.length hd; rw [List.length_drop] at this; simp at this; omega
  | [x, y, z] => have := congrArg List.length hd; rw [List.length_drop] at this; simp at this; omega
  | t :: v :: k :: s :: r =>
   have hlen := congrArg List.length hd
   rw [List.length_drop] at hlen; simp only [List.length_cons] at hlen
   obtain ⟨g1, d1⟩ := at_drop hd
   obtain ⟨g2, d2⟩ := at_drop d1
   obtain ⟨g3, d3⟩ := at_drop d2
   obtain ⟨g4, d4⟩ := at_drop d3
   rw [show (((i + 1 : Nat)) : Int) = (i : Int) + 1 by omega] at g2
   rw [show (((i + 1 + 1 : Nat)) : Int) = (i : Int) + 2 by omega] at g3
   rw [show (((i + 1 + 1 + 1 : Nat)) : Int) = (i : Int) + 3 by omega] at g4
   have ih := ent4_spec N l hl m (i + 4) (by omega) (by omega) (by omega)
   rw [show (((i + 4 : Nat)) : Int) = (i : Int) + 4 by omega, d4] at ih
   rw [lt_t (by omega), ct, g1, bs, r64 (by omega) (by omega), g2, bs, decide_eq_true (p := (4 : Int) = 4) rfl, ct, r64 (by omega) (by omega), g3, bs, none_spec, bs, r64 (by omega) (by omega), g4, bs, num_spec, bs, r64 (by omega) (by omega), ih]
   simp only [entB4_cons]
   cases decide (t.Kind = 7) <;> cases decide (v.Kind = 8) <;> cases noneB k 7 <;> cases numB s 0 9007199254740992 <;> rfl
theorem entries2 (N : Nat) (hN : 2000 < N) (l : List DValue) (hl : l.length ≤ 1000) : r15_entries_O N l 2 = some (entB2 l) := by
 unfold r15_entries_O
 rw [req_t (by decide)]
 have e : (l.length : Int).tmod 2 = ((l.length % 2 : Nat) : Int) := by rw [Int.tmod_eq_emod_of_nonneg (by omega)]; omega
 rw [e]
 by_cases h : l.length % 2 = 0
 ·rw [h, decide_eq_true (p := ((0 : Nat) : Int) = 0) rfl, nt, cf]
  exact ent2_spec N l hl N 0 (by omega) (by omega) (by omega)
 ·rw [decide_eq_false (by omega), nf, ct]
  cases hb : entB2 l with
  | false => rfl
  | true => exact absurd (entB2_len hb) h
theorem entries4 (N : Nat) (hN : 2000 < N) (l : List DValue) (hl : l.length ≤ 1000) : r15_entries_O N l 4 = some (entB4 l) := by
 unfold r15_entries_O
 rw [req_t (by decide)]
 have e : (l.length : Int).tmod 4 = ((l.length % 4 : Nat) : Int) := by rw [Int.tmod_eq_emod_of_nonneg (by omega)]; omega
 rw [e]
 by_cases h : l.length % 4 = 0
 ·rw [h, decide_eq_true (p := ((0 : Nat) : Int) = 0) rfl, nt, cf]
  exact ent4_spec N l hl N 0 (by omega) (by omega) (by omega)
 ·rw [decide_eq_false (by omega), nf, ct]
  cases hb : entB4 l with
  | false => rfl
  | true => exact absurd (entB4_len hb) h
def moreB (k : Int) (l : List DValue) : Bool :=
 bif decide (k = 2) then decide (l.length ≤ 4096)
 else bif decide (k = 1) || decide (k = 5) then decide (l.length = 0)
 else bif decide (k = 3) then decide (l.length = 3) && numB (atL l 0) 0 9007199254740992 && noneB (atL l 1) 9
 else bif decide (k = 4) then decide (1 ≤ l.length) && decide (l.length ≤ 4097) && noneB (atL l 0) 9
 else bif decide (k = 6) then decide (l.length = 2) && numB (atL l 0) 0 3 && noneB (atL l 1) 9
 else bif decide (k = 7) then decide (4 ≤ l.length) && numB (atL l 2) 0 1 && numB (atL l 3) 0 9007199254740992
 else bif decide (k = 8) then entB2 l
 else bif decide (k = 10) then decide (1 ≤ l.length) && decide ((atL l 0).Kind = 7) && entB4 (l.drop 1)
 else bif decide (k = 9) then decide (2 ≤ l.length) && numB (atL l 0) 0 2
 else true
theorem more_spec (N : Nat) (hN : 2000 < N) (c : DCell) (hc : c.More.length ≤ 1000) : r15_more_O N c = some (moreB c.Kind c.More) := by
 have h6 : ∀ p : Bool, p = (decide (c.Kind = 1) || decide (c.Kind = 5)) → c.Kind ≠ 2 → r15_more_j6 N c p = some (moreB c.Kind c.More) := by
  intro p hp h2
  subst hp
  unfold r15_more_j6 moreB
  rw [eq_f h2, cf]
  rcases Bool.eq_false_or_eq_true (decide (c.Kind = 1) || decide (c.Kind = 5)) with h15 | h15
  ·rw [h15, ct, ct, dec_cast (p := (c.More.length : Int) = 0) (q := c.More.length = 0) (by omega)]
  rw [h15, cf, cf]
  by_cases k3 : c.Kind = 3
  ·rw [eq_t k3, ct, ct, dec_cast (p := (c.More.length : Int) = 3) (q := c.More.length = 3) (by omega)]
   by_cases h : c.More.length = 3
   ·have g0 : getE c.More 0 = some (atL c.More 0) := getE_at0 (i := 0) (by omega)
    have g1 : getE c.More 1 = some (atL c.More 1) := getE_at0 (i := 1) (by omega)
    rw [decide_eq_true h, g0, g1]
    simp only [bs, num_spec, none_spec]
    cases numB (atL c.More 0) 0 9007199254740992 <;> cases noneB (atL c.More 1) 9 <;> rfl
   ·rw [decide_eq_false h]; rfl
  rw [eq_f k3, cf, cf]
  by_cases k4 : c.Kind = 4
  ·rw [eq_t k4, ct, ct, dec_cast (p := (1 : Int) ≤ (c.More.length : Int)) (q := 1 ≤ c.More.length) (by omega), dec_cast (p := (c.More.length : Int) ≤ 4097) (q := c.More.length ≤ 4097) (by omega)]
   by_cases h : 1 ≤ c.More.length
   ·have g0 : getE c.More 0 = some (atL c.More 0) := getE_at0 (i := 0) (by omega)
    rw [decide_eq_true h, g0]
    simp only [bs, none_spec]
    cases decide (c.More.length ≤ 4097) <;> cases noneB (atL c.More 0) 9 <;> rfl
   ·rw [decide_eq_false h]; rfl
  rw [eq_f k4, cf, cf]
  by_cases k6 : c.Kind = 6
  ·rw [eq_t k6, ct, ct, dec_cast (p := (c.More.length : Int) = 2) (q := c.More.length = 2) (by omega)]
   by_cases h : c.More.length = 2
   ·have g0 : getE c.More 0 = some (atL c.More 0) := getE_at0 (i := 0) (by omega)
    have g1 : getE c.More 1 = some (atL c.More 1) := getE_at0 (i := 1) (by omega)
    rw [decide_eq_true h, g0, g1]
    simp only [bs, num_spec, none_spec]
    cases numB (atL c.More 0) 0 3 <;> cases noneB (atL c.More 1) 9 <;> rfl
   ·rw [decide_eq_false h]; rfl
  rw [eq_f k6, cf, cf]
  by_cases k7 : c.Kind = 7
  ·rw [eq_t k7, ct, ct, dec_cast (p := (4 : Int) ≤ (c.More.length : Int)) (q := 4 ≤ c.More.length) (by omega)]
   by_cases h : 4 ≤ c.More.length
   ·have g2 : getE c.More 2 = some (atL c.More 2) := getE_at0 (i := 2) (by omega)
    have g3 : getE c.More 3 = some (atL c.More 3) := getE_at0 (i := 3) (by omega)
    rw [decide_eq_true h, g2, g3]
    simp only [bs, num_spec]
    cases numB (atL c.More 2) 0 1 <;> cases numB (atL c.More 3) 0 9007199254740992 <;> rfl
   ·rw [decide_eq_false h]; rfl
  rw [eq_f k7, cf, cf]
  by_cases k8 : c.Kind = 8
  ·rw [eq_t k8, ct, ct, entries2 N hN _ hc, bs]
  rw [eq_f k8, cf, cf]
  by_cases k10 : c.Kind = 10
  ·rw [eq_t k10, ct, ct, dec_cast (p := (1 : Int) ≤ (c.More.length : Int)) (q := 1 ≤ c.More.length) (by omega)]
   by_cases h : 1 ≤ c.More.length
   ·have g0 : getE c.More 0 = some (atL c.More 0) := getE_at0 (i := 0) (by omega)
    have hd : ((c.More.drop ((1 : Int).toNat)).take (c.More.length - (1 : Int).toNat)) = c.More.drop 1 := List.take_of_length_le (by rw [List.length_drop]; exact Nat.le_refl _)
    rw [decide_eq_true h, g0, hd, req_t ⟨by omega, by show 1 ≤ _; omega, Nat.le_refl _⟩, entries4 N hN _ (by rw [List.length_drop]; omega)]
    simp only [bs]
    cases decide ((atL c.More 0).Kind = 7) <;> cases entB4 (c.More.drop 1) <;> rfl
   ·rw [decide_eq_false h]; rfl
  rw [eq_f k10, cf, cf]
  by_cases k9 : c.Kind = 9
  ·rw [eq_t k9, ct, ct, dec_cast (p := (2 : Int) ≤ (c.More.length : Int)) (q := 2 ≤ c.More.length) (by omega)]
   by_cases h : 2 ≤ c.More.length
   ·have g0 : getE c.More 0 = some (atL c.More 0) := getE_at0 (i := 0) (by omega)
    rw [decide_eq_true h, g0]
    simp only [bs, num_spec]
    cases numB (atL c.More 0) 0 2 <;> rfl
   ·rw [decide_eq_false h]; rfl
  rw [eq_f k9, cf, cf]
 unfold r15_more_O
 rw [lt_f (by omega), cf]
 by_cases k2 : c.Kind = 2
 ·rw [eq_t k2, ct]
  unfold moreB
  rw [eq_t k2, ct, dec_cast (p := (c.More.length : Int) ≤ 4096) (q := c.More.length ≤ 4096) (by omega)]
 rw [eq_f k2, cf]
 by_cases k1 : c.Kind = 1
 ·rw [eq_t k1, ct]; exact h6 _ (by rw [eq_t k1]; rfl) k2
 ·rw [eq_f k1, cf]; exact h6 _ (by rw [eq_f k1]; rfl) k2
def rightB (c : DCell) : Bool :=
 (!decide (c.Kind < 1) && !decide (11 < c.Kind) && !decide (c.Shape < 0) && !decide (c.Flags < 0) && !decide (63 < c.Flags) && !decide (c.Age < 0) && !decide (1 < c.Age)) && (c.Slots.all mayB && (c.More.all mayB && (slotsB c.Kind c.Shape c.Flags c.Slots && moreB c.Kind c.More)))
theorem right_spec (N : Nat) (hN : 2000 < N) (c : DCell) (hS : c.Slots.length ≤ 1000) (hc : c.More.length ≤ 1000) : r15_Right_O N c = some (rightB c) := by
 have h19 : r15_Right_j19 N c = some (slotsB c.Kind c.Shape c.Flags c.Slots && moreB c.Kind c.More) := by
  unfold r15_Right_j19
  rw [slots_spec, more_spec N hN c hc, bs]
  cases slotsB c.Kind c.Shape c.Flags c.Slots <;> rfl
 have h20 : r15_Right_l20 N c N 0 = some (c.More.all mayB && (slotsB c.Kind c.Shape c.Flags c.Slots && moreB c.Kind c.More)) := by
  rw [loop_allk (fun k i => r15_Right_l20 N c k i) c.More mayB (some false) (some (slotsB c.Kind c.Shape c.Flags c.Slots && moreB c.Kind c.More)) (fun k i h => ?_) (fun k => ?_) N (by omega)]
  ·cases c.More.all mayB <;> rfl
  ·rw [r15_Right_l20_s, lt_t (by omega), ct, getE_n h, bs, may_spec, bs, r64 (by omega) (by omega)]
   cases mayB c.More[i] <;> rfl
  ·rw [r15_Right_l20_s, lt_f (by omega), cf, h19]
 have h12 : r15_Right_l12 N c N 0 = some (c.Slots.all mayB && (c.More.all mayB && (slotsB c.Kind c.Shape c.Flags c.Slots && moreB c.Kind c.More))) := by
  rw [loop_allk (fun k i => r15_Right_l12 N c k i) c.Slots mayB (some false) (some (c.More.all mayB && (slotsB c.Kind c.Shape c.Flags c.Slots && moreB c.Kind c.More))) (fun k i h => ?_) (fun k => ?_) N (by omega)]
  ·cases c.Slots.all mayB <;> rfl
  ·rw [r15_Right_l12_s, lt_t (by omega), ct, getE_n h, bs, may_spec, bs, r64 (by omega) (by omega)]
   cases mayB c.Slots[i] <;> rfl
  ·rw [r15_Right_l12_s, lt_f (by omega), cf]
   unfold r15_Right_j11
   exact h20
 unfold r15_Right_O rightB
 rw [h12]
 cases decide (c.Kind < 1) <;> cases decide (11 < c.Kind) <;> cases decide (c.Shape < 0) <;> cases decide (c.Flags < 0) <;> cases decide (63 < c.Flags) <;> cases decide (c.Age < 0) <;> cases decide (1 < c.Age) <;> rfl
end Go.Proofs.YtmbaennilhdieaaGreat
/- Plain: what a weak map opens, on both sides. -/
namespace Go.Proofs.YtmbaennilhdieaaGreat
open Go.RowKit
theorem index_spec (N : Nat) (x : Int) (l : List Int) (hl : l.length ≤ 5000) : ∀ (m i : Nat), l.length < m + i → i ≤ l.length → Sat (slices_Index_l3 N x l m (i : Int)) fun r => decide (0 ≤ r) = decide (x ∈ l.drop i)
 | 0, i, h, h2 => by omega
 | m + 1, i, h, h2 => by
  rw [slices_Index_l3_s]
  by_cases hi : i < l.length
  ·rw [lt_t (by omega), ct, getE_n hi, bs, List.drop_eq_getElem_cons hi]
   refine sat_dec (fun e => ?_) fun e => ?_
   ·exact sat_some (by rw [decide_eq_true (by omega), decide_eq_true]; rw [e]; exact List.mem_cons_self ..)
   ·rw [r64 (by omega) (by omega)]
    have := index_spec N x l hl m (i + 1) (by omega) hi
    simp only [Int.natCast_add, Int.cast_ofNat_Int] at this
    refine this.mono fun r hr => ?_
    rw [hr]
    have : (x ∈ l[i] :: l.drop (i + 1)) ↔ x ∈ l.drop (i + 1) := ⟨fun h => (List.mem_cons.1 h).resolve_left (fun e2 => e e2), List.mem_cons_of_mem _⟩
    rw [decide_eq_decide]; exact this.symm
  ·rw [lt_f (by omega), cf, List.drop_eq_nil_of_le (by omega)]
   exact sat_some (by simp)
theorem contains_prog (N : Nat) (hN : 5000 < N) (l : List Int) (hl : l.length ≤ 5000) (x : Int) : slices_Contains_O N l x = some (decide (x ∈ l)) := by
 obtain ⟨r, h1, h2⟩ := index_spec N x l hl N 0 (by omega) (by omega)
 unfold slices_Contains_O slices_Index_O
 rw [show slices_Index_l3 N x l N 0 = some r from h1, bs, h2]
 rfl
theorem in17 (N : Nat) (hN : 5000 < N) (l : List Int) (hl : l.length ≤ 5000) (x : Int) : r17_In_O N x l = some (decide (x ∈ l)) := by
 apply Sat.eq
 unfold r17_In_O
 have key : ∀ (m i : Nat), l.length < m + i → i ≤ l.length → Sat (r17_In_l3 N x l m (i : Int)) (· = decide (x ∈ l.drop i)) := by
  intro m
  induction m with
  | zero => intro i h h2; omega
  | succ m ih =>
   intro i h h2
   rw [r17_In_l3_s]
   by_cases hi : i < l.length
   ·rw [lt_t (by omega), ct, getE_n hi, bs, List.drop_eq_getElem_cons hi]
    refine sat_dec (fun e => ?_) fun e => ?_
    ·exact sat_some (by rw [decide_eq_true]; rw [e]; exact List.mem_cons_self ..)
    ·rw [r64 (by omega) (by omega)]
     have := ih (i + 1) (by omega) hi
     simp only [Int.natCast_add, Int.cast_ofNat_Int] at this
     refine this.mono fun r hr => ?_
     rw [hr]
     have : (x ∈ l[i] :: l.drop (i + 1)) ↔ x ∈ l.drop (i + 1) := ⟨fun h => (List.mem_cons.1 h).resolve_left (fun e2 => e e2.symm), List.mem_cons_of_mem _⟩
     rw [decide_eq_decide]; exact this.symm
   ·rw [lt_f (by omega), cf, List.drop_eq_nil_of_le (by omega)]
    exact sat_some (by simp)
 exact key N 0 (by omega) (by omega)
theorem in19 (N : Nat) (hN : 5000 < N) (l : List Int) (hl : l.length ≤ 5000) (x : Int) : r19_In_O N l x = some (decide (x ∈ l)) := by
 apply Sat.eq
 unfold r19_In_O
 have key : ∀ (m i : Nat), l.length < m + i → i ≤ l.length → Sat (r19_In_l3 N x l m (i : Int)) (· = decide (x ∈ l.drop i)) := by
  intro m
  induction m with
  | zero => intro i h h2; omega
  | succ m ih =>
   intro i h h2
   rw [r19_In_l3_s]
   by_cases hi : i < l.length
   ·rw [lt_t (by omega), ct, getE_n hi, bs, List.drop_eq_getElem_cons hi]
    refine sat_dec (fun e => ?_) fun e => ?_
    ·exact sat_some (by rw [decide_eq_true]; rw [e]; exact List.mem_cons_self ..)
    ·rw [r64 (by omega) (by omega)]
     have := ih (i + 1) (by omega) hi
     simp only [Int.natCast_add, Int.cast_ofNat_Int] at this
     refine this.mono fun r hr => ?_
     rw [hr]
     have : (x ∈ l[i] :: l.drop (i + 1)) ↔ x ∈ l.drop (i + 1) := ⟨fun h => (List.mem_cons.1 h).resolve_left (fun e2 => e e2.symm), List.mem_cons_of_mem _⟩
     rw [decide_eq_decide]; exact this.symm
   ·rw [lt_f (by omega), cf, List.drop_eq_nil_of_le (by omega)]
    exact sat_some (by simp)
 exact key N 0 (by omega) (by omega)
def opens (p : Int → Bool) : List DValue → List Int
 | k :: v :: l => (bif hasB v && p k.N then [v.N] else []) ++ opens p l
 | _ => []
theorem opens_cons (p : Int → Bool) (k v : DValue) (l : List DValue) : opens p (k :: v :: l) = (bif hasB v && p k.N then [v.N] else []) ++ opens p l := rfl
theorem opens_len (p : Int → Bool) : ∀ l : List DValue, (opens p l).length ≤ l.length
 | [] => Nat.le_refl _
 | [_] => Nat.zero_le _
 | k :: v :: l => by
  have := opens_len p l
  rw [opens_cons, List.length_append]
  cases hasB v && p k.N <;> simp <;> omega
theorem opens_mem {p : Int → Bool} {x : Int} : ∀ {l : List DValue}, x ∈ opens p l → ∃ v ∈ l, v.N = x
 | [], h => by cases h
 | [_], h => by cases h
 | k :: v :: l, h => by
  rw [opens_cons, List.mem_append] at h
  rcases h with h | h
  ·cases hb : hasB v && p k.N
   ·rw [hb] at h; cases h
   ·rw [hb] at h; exact ⟨v, by simp, (List.mem_singleton.1 h).symm⟩
  ·obtain ⟨w, h1, h2⟩ := opens_mem h
   exact ⟨w, by simp [h1], h2⟩
theorem opens_congr {p q : Int → Bool} (h : ∀ x, p x = q x) (l : List DValue) : opens p l = opens q l := by rw [show p = q from funext h]
theorem kind_has (v : DValue) : ((bif decide (v.Kind = 7) then (some true) else (some (decide (v.Kind = 9)))) : Option Bool) = some (hasB v) := by unfold hasB; cases decide (v.Kind = 7) <;> rfl
def opensL (N : Nat) (c : DCell) (l : List Int) : List Int := bif isWM N c then opens (fun x => decide (x ∈ l)) c.More else []
theorem opensL_len (N : Nat) (c : DCell) (l : List Int) : (opensL N c l).length ≤ c.More.length := by
 unfold opensL
 cases isWM N c
 ·exact Nat.zero_le _
 ·exact opens_len _ _
theorem opensL_mem {N : Nat} {c : DCell} {l : List Int} {x : Int} (h : x ∈ opensL N c l) : ∃ v ∈ c.Slots ++ c.More, v.N = x := by
 unfold opensL at h
 cases hw : isWM N c
 ·rw [hw] at h; cases h
 ·rw [hw] at h
  obtain ⟨v, h1, h2⟩ := opens_mem h
  exact ⟨v, by simp [h1], h2⟩
theorem opens_body (N : Nat) (hN : 5000 < N) (l : List Int) (hl : l.length ≤ 5000) (k v : DValue) (s : List Int) (hs : s.length ≤ 5000) : liftR (fun x st => weak_Opens_b12 N l x st) (k, v) (none, s) = some (true, (none, s ++ (bif hasB v && decide (k.N ∈ l) then [v.N] else []))) := by
 unfold liftR weak_Opens_b12
 simp only [kind_has, bs, contains_prog N hN l hl]
 cases hasB v
 ·simp only [cf, bs, Bool.false_and, List.append_nil]; rfl
 ·simp only [ct, bs, Bool.true_and]
  cases decide (k.N ∈ l)
  ·simp only [cf, List.append_nil]; rfl
  ·simp only [ct]
   rw [rF (by simp; omega)]
   rfl
theorem entries_prog (N : Nat) (hN : 5000 < N) (l : List Int) (hl : l.length ≤ 5000) (c : DCell) (hc : c.More.length ≤ 1000) (he : c.More.length % 2 = 0) : ∀ (m i : Nat) (s : List Int), c.More.length < m + i → i ≤ c.More.length → i % 2 = 0 → s.length ≤ i → weak_entries_c1_l4 N (liftR (fun x st => weak_Opens_b12 N l x st)) c m (i : Int) (none, s) = some (none, s ++ opens (fun x => decide (x ∈ l)) (c.More.drop i))
 | 0, i, s, h, h2, _, _ => by omega
 | m + 1, i, s, h, h2, h3, h4 => by
  rw [weak_entries_c1_l4_s, r64 (a := (i : Int) + 1) (by omega) (by omega)]
  by_cases hi : i < c.More.length
  ·have hi1 : i + 1 < c.More.length := by omega
   have hl1 : getE c.More ((i : Int) + 1) = some c.More[i + 1] := by
    have := getE_n hi1
    simpa using this
   rw [lt_t (by omega), ct, getE_n hi, bs, r64 (a := (i : Int) + 1) (by omega) (by omega), hl1, bs, opens_body N hN l hl _ _ s (by omega), bs]
   simp only [nt, cf]
   rw [r64 (by omega) (by omega)]
   have hlen : (s ++ (bif hasB c.More[i + 1] && decide (c.More[i].N ∈ l) then [c.More[i + 1].N] else [])).length ≤ i + 2 := by
    cases hasB c.More[i + 1] && decide (c.More[i].N ∈ l) <;> simp <;> omega
   have := entries_prog N hN l hl c hc he m (i + 2) _ (by omega) (by omega) (by omega) hlen
   simp only [Int.natCast_add, Int.cast_ofNat_Int] at this
   rw [this, List.drop_eq_getElem_cons hi, List.drop_eq_getElem_cons hi1, opens_cons, List.append_assoc]
  ·rw [lt_f (by omega), cf, List.drop_eq_nil_of_le (by omega)]
   simp [opens]
theorem opens_prog (N : Nat) (hN : 5000 < N) (l : List Int) (hl : l.length ≤ 5000) (c : DCell) (hS : c.Slots.length ≤ 1000) (hc : c.More.length ≤ 1000) : weak_Opens_O N c l = some (opensL N c l) := by
 obtain ⟨-, h1, h2⟩ := is_ref N (by omega) c hS hc
 unfold weak_Opens_O opensL weak_entries_c1_O
 rw [h1, bs]
 cases hw : isWM N c
 ·rfl
 ·have e : weak_entries_O N c = some () := rfl
  have := entries_prog N hN l hl c hc (h2 hw) N 0 [] (by omega) (by omega) rfl (by simp)
  simp only [nt, cf, ct, e, bs]
  have h3 : weak_entries_c1_l4 N (liftR (fun x st => weak_Opens_b12 N l x st)) c N 0 (none, []) = some (none, [] ++ opens (fun x => decide (x ∈ l)) (c.More.drop 0)) := this
  rw [h3, bs]
  rfl
theorem opens_ref (N : Nat) (hN : 5000 < N) (l : List Int) (hl : l.length ≤ 5000) (c : DCell) (hS : c.Slots.length ≤ 1000) (hc : c.More.length ≤ 1000) : r17_Opens_O N c l = some (opensL N c l) := by
 obtain ⟨h1, -, h2⟩ := is_ref N (by omega) c hS hc
 unfold r17_Opens_O opensL
 cases hw : isWM N c
 ·obtain ⟨n, rfl⟩ : ∃ n, N = n + 1 := ⟨N - 1, by omega⟩
  rw [r17_Opens_l7_s, h1, bs, hw]
  simp only [cf, bs]
  rfl
 ·have he := h2 hw
  have key : ∀ (m i : Nat) (s : List Int), c.More.length < m + i → i ≤ c.More.length → i % 2 = 0 → s.length ≤ i → r17_Opens_l7 N l c m s (i : Int) = some (s ++ opens (fun x => decide (x ∈ l)) (c.More.drop i)) := by
   intro m
   induction m with
   | zero => intro i s h h2; omega
   | succ m ih =>
    intro i s h h2 h3 h4
    rw [r17_Opens_l7_s, h1, bs, hw, ct, bs]
    by_cases hi : i < c.More.length
    ·have hi1 : i + 1 < c.More.length := by omega
     have hl1 : getE c.More ((i : Int) + 1) = some c.More[i + 1] := by
      have := getE_n hi1
      simpa using this
     rw [lt_t (by omega), ct, r64 (a := (i : Int) + 1) (by omega) (by omega), hl1, bs, getE_n hi, bs, in17 N hN l hl, bs]
     simp only [kind_has, bs]
     have hlen : (s ++ (bif hasB c.More[i + 1] && decide (c.More[i].N ∈ l) then [c.More[i + 1].N] else [])).length ≤ i + 2 := by
      cases hasB c.More[i + 1] && decide (c.More[i].N ∈ l) <;> simp <;> omega
     have := ih (i + 2) _ (by omega) (by omega) (by omega) hlen
     simp only [Int.natCast_add, Int.cast_ofNat_Int] at this
     rw [List.drop_eq_getElem_cons hi, List.drop_eq_getElem_cons hi1, opens_cons, ← List.append_assoc, ← this]
     unfold r17_Opens_j14
     rw [r64 (a := (i : Int) + 2) (by omega) (by omega), r64 (a := (i : Int) + 2) (by omega) (by omega)]
     cases decide (c.More[i].N ∈ l)
     ·simp only [cf, bs, Bool.and_false, List.append_nil]
     ·cases hasB c.More[i + 1]
      ·simp only [ct, cf, bs, Bool.and_true, List.append_nil]
      ·simp only [ct, bs, Bool.and_true]
       rw [rF (by simp; omega)]
    ·rw [lt_f (by omega), cf, List.drop_eq_nil_of_le (by omega)]
     simp [opens, r17_Opens_j5]
  have := key N 0 [] (by omega) (by omega) rfl (by simp)
  simpa using this
end Go.Proofs.YtmbaennilhdieaaGreat
/- Plain: the traversal. -/
namespace Go.Proofs.YtmbaennilhdieaaGreat
open Go.RowKit
theorem nodup_le : ∀ (b : Nat) {l : List Int}, l.Nodup → (∀ x ∈ l, 1 ≤ x ∧ x ≤ (b : Int)) → l.length ≤ b
 | 0, l, _, h => by
  cases l with
  | nil => exact Nat.le_refl _
  | cons x l => have := h x (by simp); omega
 | b + 1, l, hn, h => by
  have h1 := nodup_le b (hn.erase ((b : Int) + 1)) fun x hx => by
   obtain ⟨h2, h3⟩ := hn.mem_erase_iff.1 hx
   have := h x h3
   omega
  have h2 := List.length_erase (a := (b : Int) + 1) (l := l)
  split at h2 <;> omega
theorem lk_mem (kv : List (Int × Unit)) (a : Int) : (lk kv a).isSome = decide (a ∈ kv.map (·.1)) := by
 unfold lk
 rw [Bool.eq_iff_iff]
 simp [List.find?_isSome, List.mem_map]
def W64 (m : DMemory) : Prop := ∀ c ∈ m.Young ++ m.Old, ∀ v ∈ c.Slots ++ c.More, in64 v.N
theorem W64.at_ {m : DMemory} (h : W64 m) (a : Int) : ∀ v ∈ (atM m a).Slots ++ (atM m a).More, in64 v.N := by
 unfold atM
 cases hc : cellAt m a with
 | none => intro v hv; simp [zeroC] at hv
 | some c => exact h c (cellAt_mem hc)
structure Tr (m : DMemory) (all : List Int) (met : List (Int × Unit)) : Prop where
 nd : all.Nodup
 mem : ∀ x, x ∈ met.map (·.1) ↔ x ∈ all
 has : ∀ x ∈ all, hasM m x = true
theorem Tr.len {m : DMemory} {roots : List DValue} (hs : Small m roots) {all : List Int} {met : List (Int × Unit)} (h : Tr m all met) : all.length ≤ 1200 := nodup_le 1200 h.nd fun x hx => ⟨by have := hasM_pos (h.has x hx); omega, by have := hasM_le hs (h.has x hx); omega⟩
theorem Tr.in64 {m : DMemory} {roots : List DValue} (hs : Small m roots) {all : List Int} {met : List (Int × Unit)} (h : Tr m all met) {x : Int} (hx : x ∈ all) : in64 x := by
 have h1 := hasM_pos (h.has x hx)
 have h2 := hasM_le hs (h.has x hx)
 unfold Go.Proofs.YtmbaennilhdieaaGreat.in64; omega
theorem Tr.add {m : DMemory} {all : List Int} {met : List (Int × Unit)} (h : Tr m all met) {x : Int} (hx : x ∉ all) (hh : hasM m x = true) : Tr m (all ++ [x]) (upL met x ()) := ⟨List.nodup_append.2 ⟨h.nd, by simp, fun a ha b hb e => by rw [List.mem_singleton] at hb; subst hb; subst e; exact hx ha⟩, fun y => by
 rw [upL_mem, List.mem_append, List.mem_singleton, h.mem y]; exact Or.comm, fun y hy => by
 rcases List.mem_append.1 hy with hy | hy
 ·exact h.has y hy
 ·rw [List.mem_singleton] at hy; subst hy; exact hh⟩
def Clo (m : DMemory) (all : List Int) (k : Nat) : Prop := ∀ (i : Nat) (a x : Int), i < k → all[i]? = some a → x ∈ leadsL (atM m a) → hasM m x = true → x ∈ all
theorem leads_ok {m : DMemory} {roots : List DValue} (hs : Small m roots) (hw : W64 m) (a : Int) : (leadsL (atM m a)).length ≤ 2000 ∧ ∀ x ∈ leadsL (atM m a), in64 x := by
 have h1 := hs.at_ a
 have h2 := leadsL_len (atM m a)
 refine ⟨by omega, fun x hx => ?_⟩
 obtain ⟨v, h3, rfl⟩ := leadsL_mem hx
 exact hw.at_ a v h3
end Go.Proofs.YtmbaennilhdieaaGreat
/- Plain: traversals of a graph with weak maps, as relations. No program in sight. -/
namespace Go.Proofs.YtmbaennilhdieaaGreat
open Go.RowKit
structure Gr where
 has : Int → Bool
 leads : Int → List Int
 opens : List Int → Int → List Int
def layL (has : Int → Bool) : List Int → List Int → List Int
 | row, [] => row
 | row, x :: l => layL has (bif has x && !decide (x ∈ row) then row ++ [x] else row) l
inductive Thr (g : Gr) : List Int → Nat → List Int → Prop
 | done {row : List Int} {k : Nat} : row.length ≤ k → Thr g row k row
 | step {row : List Int} {k : Nat} {a : Int} {r : List Int} : row[k]? = some a → Thr g (layL g.has row (g.leads a)) (k + 1) r → Thr g row k r
def passL (g : Gr) : List Int → List Int → List Int
 | row, [] => row
 | row, a :: avs => passL g (layL g.has row (g.opens row a)) avs
inductive Ord (g : Gr) : List Int → List Int → Prop
 | done {row : List Int} : passL g row row = row → Ord g row row
 | step {row r1 r : List Int} : passL g row row ≠ row → Thr g (passL g row row) row.length r1 → Ord g r1 r → Ord g row r
structure IsOrder (g : Gr) (roots : List Int) (b l : List Int) : Prop where
 strong : Thr g (layL g.has [] roots) 0 b
 all : Ord g b l
theorem layL_app (has : Int → Bool) : ∀ (row l : List Int), ∃ t, layL has row l = row ++ t ∧ (∀ x ∈ t, has x = true ∧ x ∈ l)
 | row, [] => ⟨[], by simp [layL], by simp⟩
 | row, x :: l => by
  unfold layL
  cases h : has x && !decide (x ∈ row) with
  | false =>
   obtain ⟨t, h1, h2⟩ := layL_app has row l
   exact ⟨t, h1, fun y hy => ⟨(h2 y hy).1, by simp [(h2 y hy).2]⟩⟩
  | true =>
   obtain ⟨t, h1, h2⟩ := layL_app has (row ++ [x]) l
   refine ⟨x :: t, by rw [cond_true, h1]; simp, fun y hy => ?_⟩
   rw [Bool.and_eq_true] at h
   rcases List.mem_cons.1 hy with e | hy
   ·subst e; exact ⟨h.1, by simp⟩
   ·exact ⟨(h2 y hy).1, by simp [(h2 y hy).2]⟩
theorem layL_two (has : Int → Bool) : ∀ (row l l' : List Int), layL has row (l ++ l') = layL has (layL has row l) l'
 | _, [], _ => rfl
 | row, x :: l, l' => by
  show layL has _ (l ++ l') = _
  rw [layL_two has _ l l']; rfl
theorem layL_nodup {has : Int → Bool} : ∀ {row : List Int} (l : List Int), row.Nodup → (layL has row l).Nodup
 | _, [], h => h
 | row, x :: l, h => by
  unfold layL
  cases h2 : has x && !decide (x ∈ row) with
  | false => exact layL_nodup l h
  | true =>
   rw [Bool.and_eq_true] at h2
   have hx : x ∉ row := by simpa using h2.2
   exact layL_nodup l (List.nodup_append.2 ⟨h, by simp, fun a ha b hb e => by rw [List.mem_singleton] at hb; subst hb; subst e; exact hx ha⟩)
theorem layL_mem {has : Int → Bool} : ∀ (row l : List Int) {x : Int}, x ∈ l → has x = true → x ∈ layL has row l
 | row, y :: l, x, h, hx => by
  unfold layL
  rcases List.mem_cons.1 h with e | h
  ·subst e
   obtain ⟨t, h1, -⟩ := layL_app has (bif has x && !decide (x ∈ row) then row ++ [x] else row) l
   rw [h1]
   refine List.mem_append_left _ ?_
   rw [hx, Bool.true_and]
   by_cases hm : x ∈ row <;> simp [hm]
  ·exact layL_mem _ l h hx
theorem layL_new {has : Int → Bool} {row l : List Int} {x : Int} (h : x ∈ layL has row l) : x ∈ row ∨ (has x = true ∧ x ∈ l) := by
 obtain ⟨t, h1, h2⟩ := layL_app has row l
 rw [h1] at h
 rcases List.mem_append.1 h with h | h
 ·exact .inl h
 ·exact .inr (h2 x h)
theorem passL_app (g : Gr) : ∀ (row avs : List Int), ∃ t, passL g row avs = row ++ t
 | row, [] => ⟨[], by simp [passL]⟩
 | row, a :: avs => by
  obtain ⟨t, h1, -⟩ := layL_app g.has row (g.opens row a)
  obtain ⟨t2, h2⟩ := passL_app g (layL g.has row (g.opens row a)) avs
  exact ⟨t ++ t2, by unfold passL; rw [h2, h1, List.append_assoc]⟩
theorem passL_two (g : Gr) : ∀ (row avs bs : List Int), passL g row (avs ++ bs) = passL g (passL g row avs) bs
 | _, [], _ => rfl
 | row, a :: avs, bs => by
  show passL g _ (avs ++ bs) = _
  rw [passL_two g _ avs bs]; rfl
theorem passL_nodup {g : Gr} : ∀ {row : List Int} (avs : List Int), row.Nodup → (passL g row avs).Nodup
 | _, [], h => h
 | _, _ :: avs, h => passL_nodup avs (layL_nodup _ h)
theorem passL_has {g : Gr} : ∀ {row : List Int} (avs : List Int), (∀ x ∈ row, g.has x = true) → ∀ x ∈ passL g row avs, g.has x = true
 | _, [], h => h
 | _, _ :: avs, h => passL_has avs fun x hx => (layL_new hx).elim (h x) (·.1)
theorem Thr.app {g : Gr} {row r : List Int} {k : Nat} (h : Thr g row k r) : ∃ t, r = row ++ t := by
 induction h with
 | done _ => exact ⟨[], by simp⟩
 | step _ _ ih =>
  rename_i row _ a _ _ _
  obtain ⟨t, rfl⟩ := ih
  obtain ⟨t2, h1, -⟩ := layL_app g.has row (g.leads a)
  exact ⟨t2 ++ t, by rw [h1, List.append_assoc]⟩
theorem Thr.nodup {g : Gr} {row r : List Int} {k : Nat} (h : Thr g row k r) (hn : row.Nodup) : r.Nodup := by
 induction h with
 | done _ => exact hn
 | step _ _ ih => exact ih (layL_nodup _ hn)
theorem Thr.has {g : Gr} {row r : List Int} {k : Nat} (h : Thr g row k r) (hn : ∀ x ∈ row, g.has x = true) : ∀ x ∈ r, g.has x = true := by
 induction h with
 | done _ => exact hn
 | step _ _ ih => exact ih fun x hx => (layL_new hx).elim (hn x) (·.1)
theorem Thr.det {g : Gr} {row r r' : List Int} {k : Nat} (h : Thr g row k r) (h' : Thr g row k r') : r = r' := by
 induction h with
 | done hk =>
  cases h' with
  | done _ => rfl
  | step ha _ => rw [List.getElem?_eq_none hk] at ha; cases ha
 | step ha _ ih =>
  cases h' with
  | done hk => rw [List.getElem?_eq_none hk] at ha; cases ha
  | step ha' h2 => rw [ha] at ha'; cases ha'; exact ih h2
theorem Ord.det {g : Gr} {row r r' : List Int} (h : Ord g row r) (h' : Ord g row r') : r = r' := by
 induction h with
 | done hk =>
  cases h' with
  | done _ => rfl
  | step ha _ _ => exact absurd hk ha
 | step ha h1 _ ih =>
  cases h' with
  | done hk => exact absurd hk ha
  | step _ h1' h2 => exact ih (h1.det h1' ▸ h2)
theorem IsOrder.det {g : Gr} {roots b l b' l' : List Int} (h : IsOrder g roots b l) (h' : IsOrder g roots b' l') : b = b' ∧ l = l' := by
 obtain ⟨h1, h2⟩ := h
 obtain ⟨h3, h4⟩ := h'
 have e := h1.det h3
 subst e
 exact ⟨rfl, h2.det h4⟩
theorem Ord.app {g : Gr} {row r : List Int} (h : Ord g row r) : ∃ t, r = row ++ t := by
 induction h with
 | done _ => exact ⟨[], by simp⟩
 | step _ h1 _ ih =>
  rename_i row r1 _ _ _
  obtain ⟨t, rfl⟩ := ih
  obtain ⟨t1, rfl⟩ := h1.app
  obtain ⟨t2, h2⟩ := passL_app g row row
  exact ⟨t2 ++ t1 ++ t, by rw [h2]; simp [List.append_assoc]⟩
theorem Ord.nodup {g : Gr} {row r : List Int} (h : Ord g row r) (hn : row.Nodup) : r.Nodup := by
 induction h with
 | done _ => exact hn
 | step _ h1 _ ih => exact ih (h1.nodup (passL_nodup _ hn))
theorem Ord.has {g : Gr} {row r : List Int} (h : Ord g row r) (hn : ∀ x ∈ row, g.has x = true) : ∀ x ∈ r, g.has x = true := by
 induction h with
 | done _ => exact hn
 | step _ h1 _ ih => exact ih (h1.has (passL_has _ hn))
theorem IsOrder.nodup {g : Gr} {roots b l : List Int} (h : IsOrder g roots b l) : b.Nodup ∧ l.Nodup :=
 have hb := h.strong.nodup (layL_nodup _ List.nodup_nil)
 ⟨hb, h.all.nodup hb⟩
theorem IsOrder.has {g : Gr} {roots b l : List Int} (h : IsOrder g roots b l) : (∀ x ∈ b, g.has x = true) ∧ ∀ x ∈ l, g.has x = true :=
 have hb := h.strong.has fun x hx => (layL_new hx).elim (fun h => by cases h) (·.1)
 ⟨hb, h.all.has hb⟩
theorem IsOrder.sub {g : Gr} {roots b l : List Int} (h : IsOrder g roots b l) {x : Int} (hx : x ∈ b) : x ∈ l := by
 obtain ⟨t, e⟩ := h.all.app
 rw [e]; exact List.mem_append_left _ hx
theorem IsOrder.roots {g : Gr} {roots b l : List Int} (h : IsOrder g roots b l) {x : Int} (hx : x ∈ roots) (hh : g.has x = true) : x ∈ b := by
 obtain ⟨t, e⟩ := h.strong.app
 rw [e]; exact List.mem_append_left _ (layL_mem _ _ hx hh)
def CloG (g : Gr) (row : List Int) (k : Nat) : Prop := ∀ (i : Nat) (a x : Int), i < k → row[i]? = some a → x ∈ g.leads a → g.has x = true → x ∈ row
theorem CloG.app {g : Gr} {row t : List Int} {k : Nat} (hk : k ≤ row.length) (h : CloG g row k) : CloG g (row ++ t) k := fun i a x hi ha hx hh => by
 rw [List.getElem?_append_left (by omega)] at ha
 exact List.mem_append_left _ (h i a x hi ha hx hh)
theorem Thr.clo {g : Gr} {row r : List Int} {k : Nat} (h : Thr g row k r) (hk : k ≤ row.length) (hc : CloG g row k) : CloG g r r.length := by
 induction h with
 | done hk2 => intro i a x hi ha hx hh; exact hc i a x (by omega) ha hx hh
 | step ha _ ih =>
  rename_i row k a _ _
  have hlt := (List.getElem?_eq_some_iff.1 ha).1
  obtain ⟨t, h1, -⟩ := layL_app g.has row (g.leads a)
  refine ih (by rw [h1, List.length_append]; omega) fun i b x hi hb hx hh => ?_
  by_cases e : i = k
  ·subst e
   rw [h1, List.getElem?_append_left hlt, ha] at hb
   cases hb
   exact layL_mem _ _ hx hh
  ·rw [h1] at hb ⊢
   exact (CloG.app hk hc (t := t)) i b x (by omega) hb hx hh
theorem passL_fix {g : Gr} : ∀ {row avs : List Int}, passL g row avs = row → ∀ a ∈ avs, ∀ x ∈ g.opens row a, g.has x = true → x ∈ row
 | row, b :: avs, h, a, ha, x, hx, hh => by
  have h1 : layL g.has row (g.opens row b) = row := by
   obtain ⟨t, e1, -⟩ := layL_app g.has row (g.opens row b)
   obtain ⟨t2, e2⟩ := passL_app g (layL g.has row (g.opens row b)) avs
   have h3 : row ++ t ++ t2 = row := by rw [← e1, ← e2]; exact h
   have h4 := congrArg List.length h3
   simp only [List.length_append] at h4
   have h5 : t = [] := List.eq_nil_of_length_eq_zero (by omega)
   rw [e1, h5, List.append_nil]
  rcases List.mem_cons.1 ha with e | ha
  ·subst e; have := layL_mem row _ hx hh; rwa [h1] at this
  ·refine passL_fix (avs := avs) ?_ a ha x hx hh
   unfold passL at h; rw [h1] at h; exact h
theorem Ord.closed {g : Gr} {row r : List Int} (h : Ord g row r) (hc : CloG g row row.length) : CloG g r r.length ∧ ∀ a ∈ r, ∀ x ∈ g.opens r a, g.has x = true → x ∈ r := by
 induction h with
 | done hp => exact ⟨hc, passL_fix hp⟩
 | step _ h1 _ ih =>
  rename_i row _ _ _ _
  obtain ⟨t, e⟩ := passL_app g row row
  refine ih (h1.clo (by rw [e, List.length_append]; omega) ?_)
  rw [e]; exact hc.app (Nat.le_refl _)
theorem IsOrder.closed {g : Gr} {roots b l : List Int} (h : IsOrder g roots b l) : (∀ a ∈ l, ∀ x ∈ g.leads a, g.has x = true → x ∈ l) ∧ ∀ a ∈ l, ∀ x ∈ g.opens l a, g.has x = true → x ∈ l := by
 obtain ⟨h1, h2⟩ := h.all.closed (h.strong.clo (Nat.zero_le _) fun i _ _ hi => absurd hi (by omega))
 refine ⟨fun a ha x hx hh => ?_, h2⟩
 obtain ⟨i, hi, e⟩ := List.getElem_of_mem ha
 exact h1 i a x hi (by rw [List.getElem?_eq_getElem hi, e]) hx hh
structure ClosedS (g : Gr) (S : Int → Prop) : Prop where
 leads : ∀ a, S a → ∀ x ∈ g.leads a, g.has x = true → S x
 opens : ∀ row : List Int, (∀ x ∈ row, S x) → ∀ a, S a → ∀ x ∈ g.opens row a, g.has x = true → S x
end Go.Proofs.YtmbaennilhdieaaGreat
/- Plain: the program's traversal is the one of the relation. -/
namespace Go.Proofs.YtmbaennilhdieaaGreat
open Go.RowKit
def grM (N : Nat) (m : DMemory) : Gr := ⟨hasM m, fun a => leadsL (atM m a), fun row a => opensL N (atM m a) row⟩
def addrL (l : List DValue) : List Int := (l.filter hasB).map (·.N)
theorem addrL_app (l l' : List DValue) : addrL (l ++ l') = addrL l ++ addrL l' := by unfold addrL; simp
theorem addrL_mem {l : List DValue} {x : Int} : x ∈ addrL l ↔ ∃ v ∈ l, hasB v = true ∧ v.N = x := by
 unfold addrL; simp only [List.mem_map, List.mem_filter]
 constructor
 ·rintro ⟨v, ⟨h1, h2⟩, h3⟩; exact ⟨v, h1, h2, h3⟩
 ·rintro ⟨v, h1, h2, h3⟩; exact ⟨v, ⟨h1, h2⟩, h3⟩
theorem lay_fun (N : Nat) {m : DMemory} {roots : List DValue} (hN : 5000 < N) (hs : Small m roots) (d : Int) (l : List Int) (hl : l.length ≤ 2000) (h64 : ∀ x ∈ l, in64 x) {all : List Int} {met : List (Int × Unit)} (ht : Tr m all met) :
  Sat (reach_row_lay_O N ⟨m, all, met, d⟩ l) fun r => r.m_ = m ∧ r.done_ = d ∧ Tr m r.all_ r.met_ ∧ r.all_ = layL (hasM m) all l := by
 unfold reach_row_lay_O
 refine loop_inv (fun k i (s : List Int × List (Int × Unit)) => reach_row_lay_l7 N l ⟨m, all, met, d⟩ k (i : Int) s.1 s.2) l.length (fun i s => Tr m s.1 s.2 ∧ s.1 = layL (hasM m) all (l.take i)) _ ?_ ?_ N 0 (all, met) (by omega) (by omega) ⟨ht, rfl⟩
 ·rintro k i ⟨al, mt⟩ hi ⟨h1, h2⟩ go
  show Sat (reach_row_lay_l7 N l ⟨m, all, met, d⟩ (k + 1) i al mt) _
  simp only at h1 h2
  have hx64 := h64 l[i] (List.getElem_mem _)
  have hnext : layL (hasM m) all (l.take (i + 1)) = (bif hasM m l[i] && !decide (l[i] ∈ al) then al ++ [l[i]] else al) := by
   rw [take_succ_get hi, layL_two, ← h2]; rfl
  rw [reach_row_lay_l7_s, lt_t (by omega), ct, getE_n hi, bs, lk_mem]
  unfold reach_row_lay_j12
  rw [r64 (a := (i : Int) + 1) (by omega) (by omega), r64 (a := (i : Int) + 1) (by omega) (by omega)]
  by_cases hm : l[i] ∈ al
  ·rw [decide_eq_true ((h1.mem _).2 hm)]
   simp only [nt, cf, bs]
   exact go (al, mt) ⟨h1, by rw [hnext, decide_eq_true hm]; simp⟩
  ·rw [decide_eq_false (fun h => hm ((h1.mem _).1 h))]
   simp only [nf, ct, bs, has_prog N m _ hx64]
   cases hh : hasM m l[i]
   ·simp only [cf]
    exact go (al, mt) ⟨h1, by rw [hnext, hh]; rfl⟩
   ·simp only [ct]
    have hlen := h1.len hs
    rw [rF (by simp; omega)]
    exact go (al ++ [l[i]], upL mt l[i] ()) ⟨h1.add hm hh, by rw [hnext, hh, decide_eq_false hm]; rfl⟩
 ·rintro k ⟨al, mt⟩ ⟨h1, h2⟩
  show Sat (reach_row_lay_l7 N l ⟨m, all, met, d⟩ (k + 1) _ al mt) _
  rw [reach_row_lay_l7_s, lt_f (by omega), cf]
  exact sat_some ⟨rfl, rfl, h1, by simpa using h2⟩
theorem through_fun (N : Nat) (hN : 5000 < N) {m : DMemory} {roots : List DValue} (hs : Small m roots) (hw : W64 m) {all : List Int} {met : List (Int × Unit)} (ht : Tr m all met) (k : Nat) (hk : k ≤ all.length) :
  Sat (reach_row_through_O N ⟨m, all, met, (k : Int)⟩) fun r => r.m_ = m ∧ r.done_ = (r.all_.length : Int) ∧ Tr m r.all_ r.met_ ∧ Thr (grM N m) all k r.all_ := by
 unfold reach_row_through_O
 refine loop_dec (fun f (s : List Int × List (Int × Unit) × Nat) => reach_row_through_l6 N f m.Young m.Old s.1 s.2.1 (s.2.2 : Int)) (fun s => 1300 - s.2.2) (fun s => Tr m s.1 s.2.1 ∧ s.2.2 ≤ s.1.length ∧ ∀ r, Thr (grM N m) s.1 s.2.2 r → Thr (grM N m) all k r) _ ?_ N (all, met, k) (by show 1300 - k < N; omega) ⟨ht, hk, fun _ h => h⟩
 rintro f ⟨al, mt, j⟩ ⟨h1, h3, h4⟩ go
 show Sat (reach_row_through_l6 N (f + 1) m.Young m.Old al mt (j : Int)) _
 simp only at h1 h3 h4
 have hlen := h1.len hs
 rw [reach_row_through_l6_s]
 by_cases hj : j < al.length
 ·have hx := List.getElem_mem hj
  have hat := at_prog N hs al[j] (h1.in64 hs hx)
  have hsm := hs.at_ al[j]
  obtain ⟨hl1, hl2⟩ := leads_ok hs hw al[j]
  rw [lt_t (by omega), ct, getE_n hj, bs]
  have hat' : reach_At_O N ⟨m.Young, m.Old⟩ al[j] = some (atM m al[j]) := hat
  rw [hat', bs, leads_prog N (by omega) _ (by omega) (by omega), bs]
  refine Sat.bind (lay_fun N hN hs (j : Int) _ hl1 hl2 h1) ?_
  rintro ⟨m', al', mt', d'⟩ ⟨e1, e2, h5, h6⟩
  simp only at e1 e2 h5 h6
  subst e1 e2
  have hlen' := h5.len hs
  dsimp only
  rw [r64 (by omega) (by omega)]
  have hge : al.length ≤ al'.length := by
   obtain ⟨t, e, -⟩ := layL_app (hasM m') al (leadsL (atM m' al[j]))
   rw [h6, e, List.length_append]; omega
  have hgo := go (al', mt', j + 1) (by show 1300 - (j + 1) < 1300 - j; omega) ⟨h5, by show j + 1 ≤ al'.length; omega, fun r hr => h4 r (.step (List.getElem?_eq_getElem hj) (by rw [h6] at hr; exact hr))⟩
  simpa using hgo
 ·have : j = al.length := by omega
  subst this
  rw [lt_f (by omega), cf]
  exact sat_some ⟨rfl, rfl, h1, h4 _ (.done (Nat.le_refl _))⟩
theorem begin_fun (N : Nat) (hN : 5000 < N) {m : DMemory} {roots : List DValue} (hs : Small m roots) (hw : W64 m) (hr : ∀ v ∈ roots, in64 v.N) :
  Sat (reach_begin_O N m roots) fun r => r.m_ = m ∧ r.done_ = (r.all_.length : Int) ∧ Tr m r.all_ r.met_ ∧ Thr (grM N m) (layL (hasM m) [] (addrL roots)) 0 r.all_ := by
 have hrl := hs.roots
 unfold reach_begin_O
 refine loop_inv (fun k i (s : List Int × List (Int × Unit)) => reach_begin_l14 N roots k (i : Int) m.Young m.Old s.1 s.2 0) roots.length (fun i s => Tr m s.1 s.2 ∧ s.1 = layL (hasM m) [] (addrL (roots.take i))) _ ?_ ?_ N 0 ([], []) (by omega) (by omega) ⟨⟨by simp, by simp, by simp⟩, rfl⟩
 ·rintro k i ⟨al, mt⟩ hi ⟨h1, h2⟩ go
  show Sat (reach_begin_l14 N roots (k + 1) (i : Int) m.Young m.Old al mt 0) _
  simp only at h1 h2
  have hx64 := hr roots[i] (List.getElem_mem _)
  have ha : reach_address_O N roots[i] = some (roots[i].N, hasB roots[i]) := by
   unfold reach_address_O; rw [kind_has, bs]
  have hnext : layL (hasM m) [] (addrL (roots.take (i + 1))) = layL (hasM m) al (addrL [roots[i]]) := by
   rw [take_succ_get hi, addrL_app, layL_two, ← h2]
  rw [reach_begin_l14_s, lt_t (by omega), ct, getE_n hi, bs]
  unfold reach_begin_c1_O
  rw [ha, bs]
  cases hb : hasB roots[i]
  ·simp only [cf, bs]
   rw [r64 (by omega) (by omega)]
   refine go (al, mt) ⟨h1, ?_⟩
   rw [hnext]; simp [addrL, hb, layL]
  ·simp only [ct]
   obtain ⟨⟨m', al', mt', d'⟩, e0, e1, e2, h5, h6⟩ := lay_fun N hN hs 0 [roots[i].N] (by simp) (by intro x hx; rw [List.mem_singleton] at hx; subst hx; exact hx64) h1
   simp only at e1 e2 h5 h6
   subst e1 e2
   have e0' : reach_row_lay_O N ⟨⟨m'.Young, m'.Old⟩, al, mt, 0⟩ [roots[i].N] = some ⟨m', al', mt', 0⟩ := e0
   rw [e0', bs, bs]
   dsimp only
   rw [r64 (by omega) (by omega)]
   refine go (al', mt') ⟨h5, ?_⟩
   show al' = _
   rw [hnext, h6]; simp [addrL, hb]
 ·rintro k ⟨al, mt⟩ ⟨h1, h2⟩
  show Sat (reach_begin_l14 N roots (k + 1) _ m.Young m.Old al mt 0) _
  rw [reach_begin_l14_s, lt_f (by omega), cf]
  unfold reach_begin_j8
  refine Sat.bind (through_fun N hN hs hw h1 0 (Nat.zero_le _)) ?_
  rintro r ⟨e1, e2, h5, h6⟩
  simp only [List.take_length] at h2
  exact sat_some ⟨e1, e2, h5, by rw [← h2]; exact h6⟩
theorem opens_ok (N : Nat) {m : DMemory} {roots : List DValue} (hs : Small m roots) (hw : W64 m) (a : Int) (l : List Int) : (opensL N (atM m a) l).length ≤ 2000 ∧ ∀ x ∈ opensL N (atM m a) l, in64 x := by
 have h1 := hs.at_ a
 have h2 := opensL_len N (atM m a) l
 refine ⟨by omega, fun x hx => ?_⟩
 obtain ⟨v, h3, rfl⟩ := opensL_mem hx
 exact hw.at_ a v h3
theorem pass_fun (N : Nat) (hN : 5000 < N) {m : DMemory} {roots : List DValue} (hs : Small m roots) (hw : W64 m) {all : List Int} {met : List (Int × Unit)} (ht : Tr m all met) (d : Int) :
  Sat (reach_row_pass_O N ⟨m, all, met, d⟩) fun r => r.2.m_ = m ∧ r.2.done_ = d ∧ Tr m r.2.all_ r.2.met_ ∧ r.1 = decide ((all.length : Int) < (r.2.all_.length : Int)) ∧ r.2.all_ = passL (grM N m) all all := by
 have hlen := ht.len hs
 unfold reach_row_pass_O
 refine loop_inv (fun k i (s : List Int × List (Int × Unit)) => reach_row_pass_l13 N ⟨m, all, met, d⟩ k (i : Int) m.Young m.Old s.1 s.2 d) all.length (fun i s => Tr m s.1 s.2 ∧ (∃ t, s.1 = all ++ t) ∧ s.1 = passL (grM N m) all (all.take i)) _ ?_ ?_ N 0 (all, met) (by omega) (by omega) ⟨ht, ⟨[], by simp⟩, rfl⟩
 ·rintro k i ⟨al, mt⟩ hi ⟨h1, ⟨t, h2⟩, h3⟩ go
  show Sat (reach_row_pass_l13 N ⟨m, all, met, d⟩ (k + 1) (i : Int) m.Young m.Old al mt d) _
  simp only at h1 h2 h3
  have hlen1 := h1.len hs
  have htk : List.take all.length al = all := by rw [h2, List.take_left']; rfl
  have hx := List.getElem_mem hi
  have hsm := hs.at_ all[i]
  have hat : reach_At_O N ⟨m.Young, m.Old⟩ all[i] = some (atM m all[i]) := at_prog N hs all[i] (ht.in64 hs hx)
  have hnext : passL (grM N m) all (all.take (i + 1)) = layL (hasM m) al (opensL N (atM m all[i]) al) := by
   rw [take_succ_get hi, passL_two, ← h3]; rfl
  rw [reach_row_pass_l13_s]
  simp only [List.take_length]
  rw [lt_t (by omega), ct, htk, getE_n hi, bs, hat, bs]
  unfold reach_row_pass_j21
  by_cases h8 : (atM m all[i]).Kind = 8
  ·rw [eq_t h8, ct, opens_prog N hN al (by omega) _ (by omega) (by omega), bs]
   obtain ⟨hl1, hl2⟩ := opens_ok N hs hw all[i] al
   obtain ⟨⟨m', al', mt', d'⟩, e0, e1, e2, h5, h6⟩ := lay_fun N hN hs d _ hl1 hl2 h1
   simp only at e1 e2 h5 h6
   subst e1 e2
   have e0' : reach_row_lay_O N ⟨⟨m'.Young, m'.Old⟩, al, mt, d'⟩ (opensL N (atM m' all[i]) al) = some ⟨m', al', mt', d'⟩ := e0
   rw [e0', bs]
   dsimp only
   rw [r64 (by omega) (by omega)]
   obtain ⟨t', e', -⟩ := layL_app (hasM m') al (opensL N (atM m' all[i]) al)
   exact go (al', mt') ⟨h5, ⟨t ++ t', by show al' = _; rw [h6, e', h2, List.append_assoc]⟩, by show al' = _; rw [hnext, h6]⟩
  ·rw [eq_f h8, cf, r64 (by omega) (by omega)]
   refine go (al, mt) ⟨h1, ⟨t, h2⟩, ?_⟩
   have h0 : opensL N (atM m all[i]) al = [] := by
    unfold opensL isWM
    rw [eq_f h8]; rfl
   show al = _
   rw [hnext, h0]; rfl
 ·rintro k ⟨al, mt⟩ ⟨h1, ⟨t, h2⟩, h3⟩
  show Sat (reach_row_pass_l13 N ⟨m, all, met, d⟩ (k + 1) _ m.Young m.Old al mt d) _
  rw [reach_row_pass_l13_s]
  simp only [List.take_length] at h3 ⊢
  rw [lt_f (by omega), cf]
  exact sat_some ⟨rfl, rfl, h1, rfl, h3⟩
theorem order_fun (N : Nat) (hN : 5000 < N) {m : DMemory} {roots : List DValue} (hs : Small m roots) (hw : W64 m) (hr : ∀ v ∈ roots, in64 v.N) :
  ∃ b all, IsOrder (grM N m) (addrL roots) b.all_ all ∧ all.length ≤ 1200 ∧ b.all_.length ≤ 1200 ∧ reach_begin_O N m roots = some b ∧ reach_Order_O N m roots = some all := by
 obtain ⟨⟨m', al0, mt0, d0⟩, e0, e1, e2, h1, h2⟩ := begin_fun N hN hs hw hr
 simp only at e1 e2 h1 h2
 subst e1 e2
 have hlen0 := h1.len hs
 have key : Sat (reach_Order_O N m' roots) fun all => Ord (grM N m') al0 all ∧ all.length ≤ 1200 := by
  unfold reach_Order_O
  rw [e0, bs]
  refine loop_dec (fun f (s : List Int × List (Int × Unit)) => reach_Order_l17 N f m'.Young m'.Old s.1 s.2 (s.1.length : Int)) (fun s => 1300 - s.1.length) (fun s => Tr m' s.1 s.2 ∧ ∀ r, Ord (grM N m') s.1 r → Ord (grM N m') al0 r) _ ?_ N (al0, mt0) (by show 1300 - al0.length < N; omega) ⟨h1, fun _ h => h⟩
  rintro f ⟨al, mt⟩ ⟨h4, h5⟩ go
  show Sat (reach_Order_l17 N (f + 1) m'.Young m'.Old al mt (al.length : Int)) _
  simp only at h4 h5
  have hlen := h4.len hs
  rw [reach_Order_l17_s]
  obtain ⟨⟨b, m2, al2, mt2, d2⟩, g0, g1, g2, g3, g5, g6⟩ := pass_fun N hN hs hw h4 (al.length : Int)
  simp only at g1 g2 g3 g5 g6
  subst g1 g2
  have hlen2 := g3.len hs
  have g0' : reach_row_pass_O N ⟨⟨m2.Young, m2.Old⟩, al, mt, (al.length : Int)⟩ = some (b, ⟨m2, al2, mt2, (al.length : Int)⟩) := g0
  obtain ⟨t2, ht2⟩ := passL_app (grM N m2) al al
  rw [g0', bs]
  dsimp only
  rw [g5]
  refine sat_dec (fun hlt => ?_) fun hge => ?_
  ·refine Sat.bind (through_fun N hN hs hw g3 al.length (by omega)) ?_
   rintro ⟨m3, al3, mt3, d3⟩ ⟨k1, k2, k3, k4⟩
   simp only at k1 k2 k3 k4
   subst k1 k2
   have hlen3 := k3.len hs
   refine go (al3, mt3) ?_ ⟨k3, fun r h => h5 r (.step ?_ (by rw [← g6]; exact k4) h)⟩
   ·show 1300 - al3.length < 1300 - al.length
    obtain ⟨t3, e3⟩ := k4.app
    have : al2.length ≤ al3.length := by rw [e3, List.length_append]; omega
    omega
   ·rw [← g6]; intro e; rw [e] at hlt; omega
  ·have e : al2 = al := by
    rw [ht2] at g6
    have h0 : t2 = [] := List.eq_nil_of_length_eq_zero (by rw [g6, List.length_append] at hge; omega)
    rw [g6, h0, List.append_nil]
   subst e
   unfold reach_Order_j11
   exact sat_some ⟨h5 _ (.done g6.symm), by omega⟩
 obtain ⟨all, k1, k2, k3⟩ := key
 exact ⟨⟨m', al0, mt0, (al0.length : Int)⟩, all, ⟨h2, k2⟩, k3, hlen0, e0, k1⟩
end Go.Proofs.YtmbaennilhdieaaGreat
/- Plain: sorted addresses, the examples, small memories. -/
namespace Go.Proofs.YtmbaennilhdieaaGreat
open Go.RowKit
theorem sortL_mem (l : List Int) (x : Int) : x ∈ sortL l ↔ x ∈ l := by unfold sortL; exact List.mem_mergeSort
theorem sortL_asc {l : List Int} (h : l.Nodup) : (sortL l).Pairwise (· < ·) := by
 have h1 : (sortL l).Pairwise fun a b => decide (a ≤ b) = true := List.pairwise_mergeSort (by intro a b c h1 h2; simp at *; omega) (by intro a b; simp; omega) l
 have h2 : (sortL l).Nodup := (List.mergeSort_perm l _).nodup_iff.2 h
 rw [List.nodup_iff_pairwise_ne] at h2
 exact h1.imp₂ (fun a b h3 h4 => by simp at h3; omega) h2
theorem sortL_eq {l s : List Int} (h : l.Nodup) (hs : s.Pairwise (· < ·)) (he : ∀ x, x ∈ l ↔ x ∈ s) : sortL l = s := asc_ext (sortL_asc h) hs fun x => (sortL_mem l x).trans (he x)
theorem sort_spec (N : Nat) (l : List Int) (h : l.length ≤ 5000) : slices_Sort_O N l = some (sortL l) := by
 unfold slices_Sort_O; rw [rF (by omega)]
def obj (n : Int) : DValue := ⟨7, n, ⟨#[]⟩⟩
def boxC' (l : List DValue) : DCell := ⟨11, 0, 0, 0, [], l⟩
def exM : DMemory := ⟨[⟨11, 0, 0, 0, [], [⟨7, 3, ⟨#[]⟩⟩, ⟨7, 2, ⟨#[]⟩⟩]⟩, ⟨11, 0, 0, 0, [], []⟩], [⟨11, 0, 0, 0, [], []⟩]⟩
def exW : DMemory := ⟨[⟨8, 0, 0, 0, [⟨1, 0, ⟨#[]⟩⟩], [⟨7, 3, ⟨#[]⟩⟩, ⟨7, 5, ⟨#[]⟩⟩]⟩, ⟨11, 0, 0, 0, [], []⟩, ⟨11, 0, 0, 0, [], []⟩], []⟩
theorem live_of {N : Nat} {m : DMemory} {roots : List DValue} {l s : List Int} (h : reach_Order_O N m roots = some l) (hl : l.length ≤ 5000) (hs : sortL l = s) : reach_Live_O N m roots = some s := by
 unfold reach_Live_O
 rw [h, bs, sort_spec N l hl, bs, hs]
end Go.Proofs.YtmbaennilhdieaaGreat
/- Plain: the reference's traversal is the one of the relation. -/
namespace Go.Proofs.YtmbaennilhdieaaGreat
open Go.RowKit
structure Tq (m : DMemory) (all : List Int) : Prop where
 nd : all.Nodup
 has : ∀ x ∈ all, hasM m x = true
theorem Tq.len {m : DMemory} {roots : List DValue} (hs : Small m roots) {all : List Int} (h : Tq m all) : all.length ≤ 1200 := nodup_le 1200 h.nd fun x hx => ⟨by have := hasM_pos (h.has x hx); omega, by have := hasM_le hs (h.has x hx); omega⟩
theorem Tq.in64 {m : DMemory} {roots : List DValue} (hs : Small m roots) {all : List Int} (h : Tq m all) {x : Int} (hx : x ∈ all) : in64 x := by
 have h1 := hasM_pos (h.has x hx)
 have h2 := hasM_le hs (h.has x hx)
 unfold Go.Proofs.YtmbaennilhdieaaGreat.in64; omega
theorem Tq.lay {m : DMemory} {all : List Int} (h : Tq m all) (l : List Int) : Tq m (layL (hasM m) all l) := ⟨layL_nodup l h.nd, fun x hx => (layL_new hx).elim (h.has x) (·.1)⟩
theorem rlay_fun (N : Nat) {m : DMemory} {roots : List DValue} (hN : 5000 < N) (hs : Small m roots) (l : List Int) (hl : l.length ≤ 2000) (h64 : ∀ x ∈ l, in64 x) {all : List Int} (ht : Tq m all) : r19_lay_O N m all l = some (layL (hasM m) all l) := by
 apply Sat.eq
 unfold r19_lay_O
 refine loop_inv (fun k i (s : List Int) => r19_lay_l8 N l m k s (i : Int)) l.length (fun i s => Tq m s ∧ s = layL (hasM m) all (l.take i)) _ ?_ ?_ N 0 all (by omega) (by omega) ⟨ht, rfl⟩
 ·rintro k i s hi ⟨h0, h1⟩ go
  show Sat (r19_lay_l8 N l m (k + 1) s (i : Int)) _
  have hx64 := h64 l[i] (List.getElem_mem _)
  have hsl := h0.len hs
  have hnext : layL (hasM m) all (l.take (i + 1)) = (bif hasM m l[i] && !decide (l[i] ∈ s) then s ++ [l[i]] else s) := by
   rw [take_succ_get hi, layL_two, ← h1]; rfl
  have hT : Tq m (layL (hasM m) all (l.take (i + 1))) := ht.lay _
  rw [r19_lay_l8_s, lt_t (by omega), ct]
  simp only [getE_n hi, bs, has_ref N m _ hx64, in19 N hN s (by omega) l[i]]
  unfold r19_lay_j12
  cases hh : hasM m l[i]
  ·simp only [cf, bs]
   rw [r64 (by omega) (by omega)]
   exact go s ⟨h0, by rw [hnext, hh]; rfl⟩
  ·simp only [ct, bs]
   by_cases hm : l[i] ∈ s
   ·rw [decide_eq_true hm]
    simp only [nt, cf]
    rw [r64 (by omega) (by omega)]
    exact go s ⟨h0, by rw [hnext, hh, decide_eq_true hm]; rfl⟩
   ·have e : layL (hasM m) all (l.take (i + 1)) = s ++ [l[i]] := by rw [hnext, hh, decide_eq_false hm]; rfl
    rw [decide_eq_false hm]
    simp only [nf, ct]
    rw [rF (by simp; omega), r64 (by omega) (by omega)]
    exact go (s ++ [l[i]]) ⟨e ▸ hT, e.symm⟩
 ·rintro k s ⟨h0, h1⟩
  show Sat (r19_lay_l8 N l m (k + 1) s _) _
  rw [r19_lay_l8_s, lt_f (by omega), cf]
  exact sat_some (by simpa using h1)
theorem raddr_fun (N : Nat) (hN : 5000 < N) (l : List DValue) (hl : l.length ≤ 2000) : r19_addresses_O N l = some (addrL l) := by
 apply Sat.eq
 unfold r19_addresses_O
 refine loop_inv (fun k i (s : List Int) => r19_addresses_l5 N l k s (i : Int)) l.length (fun i s => s = addrL (l.take i)) _ ?_ ?_ N 0 [] (by omega) (by omega) rfl
 ·rintro k i s hi h1 go
  show Sat (r19_addresses_l5 N l (k + 1) s (i : Int)) _
  have hsl : s.length ≤ 2000 := by
   rw [h1]; unfold addrL; rw [List.length_map]
   exact Nat.le_trans (List.length_filter_le _ _) (by rw [List.length_take]; omega)
  have hnext : addrL (l.take (i + 1)) = s ++ addrL [l[i]] := by rw [take_succ_get hi, addrL_app, h1]
  rw [r19_addresses_l5_s, lt_t (by omega), ct]
  simp only [getE_n hi, bs, kind_has]
  unfold r19_addresses_j9
  cases hb : hasB l[i]
  ·simp only [cf]
   rw [r64 (by omega) (by omega)]
   exact go s (by rw [hnext]; simp [addrL, hb])
  ·simp only [ct]
   rw [rF (by simp; omega), r64 (by omega) (by omega)]
   exact go (s ++ [l[i].N]) (by rw [hnext]; simp [addrL, hb])
 ·rintro k s h1
  show Sat (r19_addresses_l5 N l (k + 1) s _) _
  rw [r19_addresses_l5_s, lt_f (by omega), cf]
  exact sat_some (by simpa using h1)
theorem rthrough_fun (N : Nat) (hN : 5000 < N) {m : DMemory} {roots : List DValue} (hs : Small m roots) (hw : W64 m) {all : List Int} (ht : Tq m all) (k : Nat) (hk : k ≤ all.length) :
  Sat (r19_through_O N m all (k : Int)) fun r => Tq m r ∧ Thr (grM N m) all k r := by
 unfold r19_through_O
 refine loop_dec (fun f (s : List Int × Nat) => r19_through_l7 N m f s.1 (s.2 : Int)) (fun s => 1300 - s.2) (fun s => Tq m s.1 ∧ s.2 ≤ s.1.length ∧ ∀ r, Thr (grM N m) s.1 s.2 r → Thr (grM N m) all k r) _ ?_ N (all, k) (by show 1300 - k < N; omega) ⟨ht, hk, fun _ h => h⟩
 rintro f ⟨al, j⟩ ⟨h1, h3, h4⟩ go
 show Sat (r19_through_l7 N m (f + 1) al (j : Int)) _
 simp only at h1 h3 h4
 have hlen := h1.len hs
 rw [r19_through_l7_s]
 by_cases hj : j < al.length
 ·have hx := List.getElem_mem hj
  have hsm := hs.at_ al[j]
  obtain ⟨hl1, hl2⟩ := leads_ok hs hw al[j]
  rw [lt_t (by omega), ct, getE_n hj, bs, at_ref N m _ (h1.in64 hs hx), bs, leads_ref N (by omega) _ (by omega) (by omega), bs, rlay_fun N hN hs _ hl1 hl2 h1, bs, r64 (by omega) (by omega)]
  have hge : al.length ≤ (layL (hasM m) al (leadsL (atM m al[j]))).length := by
   obtain ⟨t, e, -⟩ := layL_app (hasM m) al (leadsL (atM m al[j]))
   rw [e, List.length_append]; omega
  exact go (layL (hasM m) al (leadsL (atM m al[j])), j + 1) (by show 1300 - (j + 1) < 1300 - j; omega) ⟨h1.lay _, by show j + 1 ≤ (layL (hasM m) al (leadsL (atM m al[j]))).length; omega, fun r hr => h4 r (.step (List.getElem?_eq_getElem hj) hr)⟩
 ·have : j = al.length := by omega
  subst this
  rw [lt_f (by omega), cf]
  exact sat_some ⟨h1, h4 _ (.done (Nat.le_refl _))⟩
theorem rorder_fun (N : Nat) (hN : 5000 < N) {m : DMemory} {roots : List DValue} (hs : Small m roots) (hw : W64 m) (hr : ∀ v ∈ roots, in64 v.N) :
  ∃ b all, IsOrder (grM N m) (addrL roots) b all ∧ r19_Order_O N m roots = some all ∧ ((r19_addresses_O N roots).bind fun y5 => (r19_lay_O N m ([] : List Int) y5).bind fun y8 => r19_through_O N m y8 0) = some b := by
 have hrl := hs.roots
 have ha := raddr_fun N hN roots (by omega)
 have h64 : ∀ x ∈ addrL roots, in64 x := fun x hx => by
  obtain ⟨v, h1, -, rfl⟩ := addrL_mem.1 hx
  exact hr v h1
 have hal : (addrL roots).length ≤ 2000 := by
  unfold addrL; rw [List.length_map]; exact Nat.le_trans (List.length_filter_le _ _) (by omega)
 have hT0 : Tq m [] := ⟨List.nodup_nil, by simp⟩
 have hlay := rlay_fun N hN hs (addrL roots) hal h64 hT0
 obtain ⟨b, b0, b1, b2⟩ := rthrough_fun N hN hs hw (hT0.lay (addrL roots)) 0 (Nat.zero_le _)
 have b0' : r19_through_O N m (layL (hasM m) [] (addrL roots)) 0 = some b := b0
 have key : Sat (r19_Order_O N m roots) fun all => Ord (grM N m) b all := by
  unfold r19_Order_O
  rw [ha, bs, hlay, bs, b0', bs]
  refine loop_dec (fun f (s : List Int) => r19_Order_l12 N m f s) (fun s => 1300 - s.length) (fun s => Tq m s ∧ ∀ r, Ord (grM N m) s r → Ord (grM N m) b r) _ ?_ N b (by show 1300 - b.length < N; omega) ⟨b1, fun _ h => h⟩
  rintro f al ⟨h4, h5⟩ go
  show Sat (r19_Order_l12 N m (f + 1) al) _
  have hlen := h4.len hs
  rw [r19_Order_l12_s]
  refine loop_inv (fun k i (s : List Int) => r19_Order_l16 N (r19_Order_l12 N m f) al m k s (i : Int)) al.length (fun i s => Tq m s ∧ (∃ t, s = al ++ t) ∧ s = passL (grM N m) al (al.take i)) _ ?_ ?_ N 0 al (by omega) (by omega) ⟨h4, ⟨[], by simp⟩, rfl⟩
  ·rintro k i s hi ⟨h0, ⟨t, h1⟩, h2⟩ go2
   show Sat (r19_Order_l16 N (r19_Order_l12 N m f) al m (k + 1) s (i : Int)) _
   have hsl := h0.len hs
   have hg : getE s (i : Int) = some al[i] := by
    rw [getE_nat, h1, List.getElem?_append_left hi, List.getElem?_eq_getElem hi]
   have hx := List.getElem_mem hi
   have hsm := hs.at_ al[i]
   obtain ⟨hl1, hl2⟩ := opens_ok N hs hw al[i] s
   have hnext : passL (grM N m) al (al.take (i + 1)) = layL (hasM m) s (opensL N (atM m al[i]) s) := by
    rw [take_succ_get hi, passL_two, ← h2]; rfl
   rw [r19_Order_l16_s, lt_t (by omega), ct, hg, bs, at_ref N m _ (h4.in64 hs hx), bs, opens_ref N hN s (by omega) _ (by omega) (by omega), bs, rlay_fun N hN hs _ hl1 hl2 h0, bs, r64 (by omega) (by omega)]
   obtain ⟨t', e', -⟩ := layL_app (hasM m) s (opensL N (atM m al[i]) s)
   exact go2 _ ⟨h0.lay _, ⟨t ++ t', by rw [e', h1, List.append_assoc]⟩, hnext.symm⟩
  ·rintro k s ⟨h0, ⟨t, h1⟩, h2⟩
   show Sat (r19_Order_l16 N (r19_Order_l12 N m f) al m (k + 1) s _) _
   have hsl := h0.len hs
   simp only [List.take_length] at h2
   rw [r19_Order_l16_s, lt_f (by omega), cf]
   unfold r19_Order_j14
   refine sat_dec (fun he => ?_) fun hne => ?_
   ·have h6 : t = [] := List.eq_nil_of_length_eq_zero (by rw [h1, List.length_append] at he; omega)
    have h7 : s = al := by rw [h1, h6, List.append_nil]
    exact sat_some (by rw [h7] at h2 ⊢; exact h5 _ (.done h2.symm))
   ·have hle : al.length ≤ s.length := by rw [h1, List.length_append]; omega
    refine Sat.bind (rthrough_fun N hN hs hw h0 al.length hle) fun r ⟨r1, r2⟩ => ?_
    obtain ⟨t3, e3⟩ := r2.app
    have hl3 := r1.len hs
    refine go r ?_ ⟨r1, fun r' hr' => h5 r' (.step ?_ (by rw [← h2]; exact r2) hr')⟩
    ·show 1300 - r.length < 1300 - al.length
     have : s.length ≤ r.length := by rw [e3, List.length_append]; omega
     omega
    ·rw [← h2]; intro e; rw [e] at hne; omega
 obtain ⟨all, k1, k2⟩ := key
 exact ⟨b, all, ⟨b2, k2⟩, k1, by rw [ha, bs, hlay, bs]; exact b0'⟩
end Go.Proofs.YtmbaennilhdieaaGreat
/- Plain: the reference's sorted copies. -/
namespace Go.Proofs.YtmbaennilhdieaaGreat
open Go.RowKit
theorem swap_perm : ∀ {s : List Int} {k : Nat} (h : k + 1 < s.length), ((s.set (k + 1) (s[k]'(by omega))).set k s[k + 1]).Perm s
 | a :: b :: r, 0, _ => List.Perm.swap a b r
 | a :: r, k + 1, h => by
  have ih := swap_perm (s := r) (k := k) (by simpa using h)
  simp only [List.set_cons_succ, List.getElem_cons_succ]
  exact ih.cons a
def Ins (s : List Int) (i k : Nat) : Prop := ∀ a b : Nat, a < b → b ≤ i → b ≠ k → s.getD a 0 ≤ s.getD b 0
theorem getD_set (s : List Int) (i j : Nat) (x : Int) (hi : i < s.length) : (s.set i x).getD j 0 = if j = i then x else s.getD j 0 := by
 by_cases e : j = i
 ·subst e; simp [List.getD, hi]
 ·rw [if_neg e]
  simp only [List.getD]
  rw [List.getElem?_set_ne (fun h => e h.symm)]
theorem getD_at (s : List Int) (i : Nat) (hi : i < s.length) : s.getD i 0 = s[i] := by simp [List.getD, hi]
theorem rising_fun (N : Nat) (hN : 5000 < N) (l : List Int) (hl : l.length ≤ 2000) (hn : l.Nodup) : r19_rising_O N l = some (sortL l) := by
 apply Sat.eq
 unfold r19_rising_O
 rw [rF (by simp; omega), List.nil_append]
 have fin : ∀ s : List Int, s.Perm l → Ins s (l.length - 1) l.length → s = sortL l := fun s hp hi => by
  have hlen := hp.length_eq
  have hnd : s.Nodup := hp.nodup_iff.2 hn
  refine (sortL_eq hn (List.pairwise_iff_getElem.2 fun a b ha hb hab => ?_) fun x => (hp.mem_iff).symm).symm
  have h1 := hi a b hab (by omega) (by omega)
  rw [getD_at s a ha, getD_at s b hb] at h1
  have h2 := List.pairwise_iff_getElem.1 (List.nodup_iff_pairwise_ne.1 hnd) a b ha hb hab
  omega
 by_cases h0 : l.length = 0
 ·have e : l = [] := List.eq_nil_of_length_eq_zero h0
  subst e
  obtain ⟨n, rfl⟩ : ∃ n, N = n + 1 := ⟨N - 1, by omega⟩
  rw [r19_rising_l7_s, lt_f (by simp), cf]
  exact sat_some (by unfold sortL; simp)
 refine loop_inv (fun k i (s : List Int) => r19_rising_l7 N k s (i : Int)) l.length (fun i s => s.Perm l ∧ Ins s (i - 1) l.length) _ ?_ ?_ N 1 l (by omega) (by omega) ⟨List.Perm.refl _, fun a b h1 h2 => absurd h2 (by omega)⟩
 ·rintro f i s hi ⟨h1, h2⟩ go
  show Sat (r19_rising_l7 N (f + 1) s (i : Int)) _
  have hlen := h1.length_eq
  rw [r19_rising_l7_s, hlen, lt_t (by omega), ct]
  have hi0 : i ≤ l.length := by omega
  refine loop_dec (fun k (st : List Int × Nat) => r19_rising_l13 N (r19_rising_l7 N f) (i : Int) k st.1 (st.2 : Int)) (fun st => st.2) (fun st => st.1.Perm l ∧ st.2 ≤ i ∧ Ins st.1 i st.2) _ ?_ N (s, i) (by show i < N; omega) ⟨h1, Nat.le_refl _, fun a b q1 q2 q3 => h2 a b q1 (by show b ≤ i - 1; simp only at q3; omega) (by omega)⟩
  rintro k ⟨t, j⟩ ⟨g1, g2, g3⟩ go2
  simp only at g1 g2 g3
  show Sat (r19_rising_l13 N (r19_rising_l7 N f) (i : Int) (k + 1) t (j : Int)) _
  have hlt := g1.length_eq
  have stop : (j = 0 ∨ t.getD (j - 1) 0 ≤ t.getD j 0) → Sat (r19_rising_j11 N (r19_rising_l7 N f) (i : Int) t) (· = sortL l) := fun hst => by
   unfold r19_rising_j11
   rw [r64 (by omega) (by omega)]
   refine go t ⟨g1, fun a b q1 q2 q3 => ?_⟩
   have q2' : b ≤ i := by omega
   by_cases e : b = j
   ·subst e
    rcases hst with h | h
    ·omega
    ·by_cases e2 : a = b - 1
     ·subst e2; exact h
     ·have := g3 a (b - 1) (by omega) (by omega) (by omega); omega
   ·exact g3 a b q1 q2' e
  rw [r19_rising_l13_s]
  by_cases hj : 0 < j
  ·have hp : getE t ((j : Int) - 1) = some (t[j - 1]'(by omega)) := by
    have := getE_n (xs := t) (i := j - 1) (by omega)
    rw [show (((j - 1 : Nat)) : Int) = (j : Int) - 1 by omega] at this
    exact this
   have hq : getE t (j : Int) = some (t[j]'(by omega)) := getE_n (by omega)
   rw [lt_t (by omega), ct, r64 (by omega) (by omega), hp, bs, hq, bs, bs]
   by_cases hc : t[j]'(by omega) < t[j - 1]'(by omega)
   ·rw [lt_t hc, ct, bs, r64 (a := (j : Int) - 1) (by omega) (by omega), bs, bs, r64 (a := (j : Int) - 1) (by omega) (by omega)]
    have hs2 : getE (List.set t (j : Int).toNat (t[j - 1]'(by omega))) ((j : Int) - 1) = some ((List.set t (j : Int).toNat (t[j - 1]'(by omega)))[j - 1]'(by simp; omega)) := by
     have := getE_n (xs := List.set t (j : Int).toNat (t[j - 1]'(by omega))) (i := j - 1) (by simp; omega)
     rw [show (((j - 1 : Nat)) : Int) = (j : Int) - 1 by omega] at this
     exact this
    rw [hs2, bs, r64 (a := (j : Int) - 1) (by omega) (by omega), Int.toNat_natCast, show ((j : Int) - 1).toNat = j - 1 by omega, show (j : Int) - 1 = ((j - 1 : Nat) : Int) by omega]
    obtain ⟨q, rfl⟩ : ∃ q, j = q + 1 := ⟨j - 1, by omega⟩
    simp only [Nat.add_sub_cancel] at *
    refine go2 ((t.set (q + 1) (t[q]'(by omega))).set q (t[q + 1]'(by omega)), q) (by show q < q + 1; omega) ⟨(swap_perm (by omega)).trans g1, by show q ≤ i; omega, fun a b q1 q2 q3 => ?_⟩
    have q3' : b ≠ q := q3
    have hqa := getD_at t q (by omega)
    have hqb := getD_at t (q + 1) (by omega)
    show ((t.set (q + 1) (t[q]'(by omega))).set q (t[q + 1]'(by omega))).getD a 0 ≤ ((t.set (q + 1) (t[q]'(by omega))).set q (t[q + 1]'(by omega))).getD b 0
    rw [getD_set _ q _ _ (by simp; omega), getD_set _ q _ _ (by simp; omega), getD_set t (q + 1) _ _ (by omega), getD_set t (q + 1) _ _ (by omega), if_neg q3']
    by_cases b1 : b = q + 1
    ·rw [if_pos b1]
     by_cases a1 : a = q
     ·rw [if_pos a1]; omega
     ·rw [if_neg a1, if_neg (by omega), ← hqa]
      exact g3 a q (by omega) (by omega) (by omega)
    ·rw [if_neg b1]
     by_cases a1 : a = q
     ·rw [if_pos a1, ← hqb]; exact g3 (q + 1) b (by omega) q2 b1
     ·rw [if_neg a1]
      by_cases a2 : a = q + 1
      ·rw [if_pos a2, ← hqa]; exact g3 q b (by omega) q2 b1
      ·rw [if_neg a2]; exact g3 a b q1 q2 b1
   ·rw [lt_f (by omega), cf]
    refine stop (.inr ?_)
    rw [getD_at t (j - 1) (by omega), getD_at t j (by omega)]; omega
  ·rw [lt_f (by omega), cf, bs, cf]
   exact stop (.inl (by omega))
 ·rintro f s ⟨h1, h2⟩
  show Sat (r19_rising_l7 N (f + 1) s _) _
  rw [r19_rising_l7_s, h1.length_eq, lt_f (by omega), cf]
  unfold r19_rising_j5
  exact sat_some (fin s h1 h2)
end Go.Proofs.YtmbaennilhdieaaGreat
/- Plain: weak references; equal lists, cells, memories; valid memories, on both sides. -/
namespace Go.Proofs.YtmbaennilhdieaaGreat
open Go.RowKit
def weaklyL (c : DCell) : List Int := pick (fun i v => weakB c.Kind i && hasB v) 0 c.More
theorem weakly_prog (N : Nat) (hN : 2000 < N) (c : DCell) (hS : c.Slots.length ≤ 1000) (hc : c.More.length ≤ 1000) : cell_Weakly_O N c = some (weaklyL c) := by
 unfold cell_Weakly_O weaklyL
 rw [addresses_spec N hN false c hS hc, bs]
 have e1 : (fun (_ : Nat) (v : DValue) => (true == false) && hasB v) = fun _ _ => false := by funext i v; rfl
 have e2 : (fun (i : Nat) (v : DValue) => (strongB c.Kind i == false) && hasB v) = fun i v => weakB c.Kind i && hasB v := by funext i v; rw [strong_weak]; cases weakB c.Kind i <;> rfl
 rw [e1, e2, pick_none, List.nil_append]
theorem weaklyL_len (c : DCell) : (weaklyL c).length ≤ c.More.length := pick_len _ 0 c.More
theorem weaklyL_mem {c : DCell} {x : Int} (h : x ∈ weaklyL c) : ∃ v ∈ c.Slots ++ c.More, v.N = x := by
 obtain ⟨v, h1, h2⟩ := pick_mem h
 exact ⟨v, List.mem_append_right _ h1, h2⟩
theorem weakly_ref (N : Nat) (hN : 2000 < N) (c : DCell) (hc : c.More.length ≤ 1000) : r15_Weakly_O N c = some (weaklyL c) := by
 apply Sat.eq
 unfold r15_Weakly_O weaklyL
 refine loop_inv (fun m i s => r15_Weakly_l6 N c m s (i : Int)) c.More.length (fun i t => t ++ pick (fun i v => weakB c.Kind i && hasB v) i (c.More.drop i) = pick (fun i v => weakB c.Kind i && hasB v) 0 c.More ∧ t.length ≤ i) _ ?_ ?_ N 0 [] (by omega) (by omega) ⟨by simp, by simp⟩
 ·rintro m i s hi ⟨h1, h2⟩ k
  show Sat (r15_Weakly_l6 N c (m + 1) s i) _
  rw [List.drop_eq_getElem_cons hi, pick_cons] at h1
  rw [r15_Weakly_l6_s, lt_t (by omega), ct, getE_n hi, bs, ref_has_spec, bs, weak_spec _ _ _ (by omega)]
  unfold r15_Weakly_j11
  simp only [bs]
  rw [r64 (a := (i : Int) + 1) (by omega) (by omega)]
  cases hh : hasB c.More[i] <;> cases hw : weakB c.Kind i <;> simp only [hh, hw, Bool.and_true, Bool.and_false, Bool.and_self, ct, cf, bs, List.nil_append] at h1 ⊢
  ·rw [r64 (by omega) (by omega)]; exact k s ⟨h1, by omega⟩
  ·rw [r64 (by omega) (by omega)]; exact k s ⟨h1, by omega⟩
  ·rw [r64 (by omega) (by omega)]; exact k s ⟨h1, by omega⟩
  ·rw [rF (by simp; omega)]
   exact k _ ⟨by rw [List.append_assoc]; exact h1, by simp; omega⟩
 ·rintro m s ⟨h1, h2⟩
  show Sat (r15_Weakly_l6 N c (m + 1) s _) _
  rw [List.drop_length] at h1
  rw [r15_Weakly_l6_s, lt_f (by omega), cf]
  exact sat_some (by rw [← h1]; simp [pick])
def wholeB (m : DMemory) (l : List Int) : Bool := l.all (hasM m)
def fineC (N : Nat) (m : DMemory) (c : DCell) : Bool := (r15_Right_O N c).getD false && (wholeB m (leadsL c) && wholeB m (weaklyL c))
def rightM (N : Nat) (m : DMemory) (roots : List DValue) : Bool := m.Young.all (fineC N m) && (m.Old.all (fineC N m) && wholeB m (addrL roots))
theorem whole_ref (N : Nat) (m : DMemory) (l : List Int) (hl : l.length < N) (hl2 : l.length ≤ 5000) (h64 : ∀ x ∈ l, in64 x) : r19_whole_O N m l = some (wholeB m l) := by
 unfold r19_whole_O wholeB
 refine loop_all _ l _ (fun k i h => ?_) (fun k => ?_) N hl
 ·rw [r19_whole_l6_s, lt_t (by omega), ct, getE_n h, bs, has_ref N m _ (h64 _ (List.getElem_mem _)), bs, r64 (by omega) (by omega)]
  cases hasM m l[i] <;> rfl
 ·rw [r19_whole_l6_s, lt_f (by omega), cf]; rfl
theorem weakly_ok {m : DMemory} {roots : List DValue} (hs : Small m roots) (hw : W64 m) {c : DCell} (hc : c ∈ m.Young ++ m.Old) : ((leadsL c).length ≤ 1200 ∧ ∀ x ∈ leadsL c, in64 x) ∧ (weaklyL c).length ≤ 1200 ∧ ∀ x ∈ weaklyL c, in64 x := by
 have h1 := hs.cells c hc
 have h2 := leadsL_len c
 have h3 := weaklyL_len c
 refine ⟨⟨by omega, fun x hx => ?_⟩, by omega, fun x hx => ?_⟩
 ·obtain ⟨v, h4, rfl⟩ := leadsL_mem hx
  exact hw c hc v h4
 ·obtain ⟨v, h4, rfl⟩ := weaklyL_mem hx
  exact hw c hc v h4
theorem fine_ref (N : Nat) (hN : 5000 < N) {m : DMemory} {roots : List DValue} (hs : Small m roots) (hw : W64 m) (l : List DCell) (hl : l.length ≤ 600) (hl2 : ∀ c ∈ l, c ∈ m.Young ++ m.Old) : r19_fine_O N m l = some (l.all (fineC N m)) := by
 unfold r19_fine_O
 refine loop_all _ l _ (fun k i h => ?_) (fun k => ?_) N (by omega)
 ·have hm := hl2 l[i] (List.getElem_mem _)
  have hc := hs.cells _ hm
  obtain ⟨⟨a1, a2⟩, a3, a4⟩ := weakly_ok hs hw hm
  obtain ⟨b, hb, -⟩ := right_tot N (by omega) l[i] (by omega) (by omega)
  rw [r19_fine_l6_s, lt_t (by omega), ct, getE_n h, bs, hb, bs]
  simp only [bs]
  rw [leads_ref N (by omega) _ (by omega) (by omega), weakly_ref N (by omega) _ (by omega), bs, bs, whole_ref N m _ (by omega) (by omega) a2, whole_ref N m _ (by omega) (by omega) a4, bs, bs, r64 (by omega) (by omega)]
  unfold fineC
  rw [hb]
  cases b <;> cases wholeB m (leadsL l[i]) <;> cases wholeB m (weaklyL l[i]) <;> rfl
 ·rw [r19_fine_l6_s, lt_f (by omega), cf]; rfl
theorem right_ref (N : Nat) (hN : 5000 < N) {m : DMemory} {roots : List DValue} (hs : Small m roots) (hw : W64 m) (hr : ∀ v ∈ roots, in64 v.N) : r19_Right_O N m roots = some (rightM N m roots) := by
 have h1 := hs.young; have h2 := hs.old; have h3 := hs.roots
 have hal : (addrL roots).length ≤ 2000 := by
  unfold addrL; rw [List.length_map]; exact Nat.le_trans (List.length_filter_le _ _) (by omega)
 have h64 : ∀ x ∈ addrL roots, in64 x := fun x hx => by
  obtain ⟨v, h1, -, rfl⟩ := addrL_mem.1 hx
  exact hr v h1
 unfold r19_Right_O rightM
 rw [r64 (by omega) (by omega), le_t (by omega), ct, fine_ref N hN hs hw m.Young h1 fun c hc => List.mem_append_left _ hc, fine_ref N hN hs hw m.Old h2 fun c hc => List.mem_append_right _ hc, raddr_fun N hN roots (by omega), bs]
 simp only [bs]
 rw [whole_ref N m _ (by omega) (by omega) h64]
 simp only [bs]
 cases m.Young.all (fineC N m) <;> cases m.Old.all (fineC N m) <;> cases wholeB m (addrL roots) <;> rfl
end Go.Proofs.YtmbaennilhdieaaGreat
/- Plain: memories of a bounded size. -/
namespace Go.Proofs.YtmbaennilhdieaaGreat
open Go.RowKit
structure Bnd (B : Nat) (m : DMemory) (roots : List DValue) : Prop where
 young : m.Young.length ≤ B
 old : m.Old.length ≤ B
 roots : roots.length ≤ B
 cells : ∀ c ∈ m.Young ++ m.Old, c.Slots.length ≤ B ∧ c.More.length ≤ B
end Go.Proofs.YtmbaennilhdieaaGreat