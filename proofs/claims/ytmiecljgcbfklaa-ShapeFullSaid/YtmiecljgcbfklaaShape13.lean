/- Shapes: the example (walk printed by shape13.py). -/
import Derived.Test.YtmiecljgcbfklaaShape12
namespace Go.Proofs.Ytmiecljgcbfklaa
open Go.RowKit
theorem awake_any (w : World) : Calls Try.prog 6 #[] w fun e w' => e = .returned (.bool true) ∧ Ext w w' := by
  refine calls_E Try.func6 rfl rfl ?_
  simp only [envOf]
  refine W_seq ?_
  refine W_region ?_
  refine R_ev (ev_assign rfl) rfl rfl ?_
  refine R_nil ?_
  refine nxt_n ?_
  refine W_seq ?_
  refine W_region ?_
  refine R_call call7 rfl rfl rfl ?_
  refine (new_law w _ (Ext.refl w)).mono ?_
  rintro e w1_0 ⟨p, rfl, hT0, x1_0⟩
  refine ⟨_, rfl, ?_⟩
  refine R_ev (ev_assign rfl) rfl rfl ?_
  refine R_nil ?_
  refine nxt_n ?_
  refine W_seq ?_
  refine W_region ?_
  refine R_ev (ev_build rfl (bld_31_0_2 _ _)) rfl rfl ?_
  refine R_ev (ev_build rfl (bld_31_0_2 _ _)) rfl rfl ?_
  refine A_alloc zero31 rfl rfl (fun w2_2 x2_2 b2_2 => ?_)
  refine A_alloc zero31 rfl rfl (fun w2_3 x2_3 b2_3 => ?_)
  have ne1 : w2_2.heap.size ≠ w1_0.heap.size := Nat.ne_of_gt b2_2.lt
  refine A_storeRow rfl rfl (b2_2.ext x2_3) size31 rfl rfl rfl (fun w2_4 x2_4 b2_4 => ?_)
  replace b2_3 := b2_3.fr x2_4 ne1
  refine A_storeRow rfl rfl b2_3 size31 rfl rfl rfl (fun w2_5 x2_5 b2_5 => ?_)
  replace b2_4 := b2_4.fr x2_5 ne1.symm
  refine R_nil ?_
  refine nxt_n ?_
  refine W_seq ?_
  refine W_region ?_
  refine R_ev (ev_move rfl) rfl rfl ?_
  refine R_ev (ev_loadS rfl (here b2_4.all) agg31) rfl rfl ?_
  have e1_3_2 : Ext w1_0 w2_3 := x2_2.trans x2_3
  have e1_4_3 : Ext w1_0 w2_4 := x2_4.ext e1_3_2 (fun q e => e ▸ Nat.le_refl _)
  have e1_5_4 : Ext w1_0 w2_5 := x2_5.ext e1_4_3 (fun q e => e ▸ x2_2.size)
  refine R_call call12 rfl rfl rfl ?_
  refine (next_law 0 kA 7 (hT0.more e1_5_4)).mono ?_
  rintro e w3_2 ⟨rfl, hT1, hR3_2⟩
  refine ⟨_, rfl, ?_⟩
  replace b2_4 := hR3_2.blk b2_4 (by decide) (by decide)
  replace b2_5 := hR3_2.blk b2_5 (by decide) (by decide)
  rw [n1] at hT1 ⊢
  refine R_ev (ev_move rfl) rfl rfl ?_
  refine R_ev (ev_extract rfl rfl) rfl rfl ?_
  refine R_ev (ev_extract rfl rfl) rfl rfl ?_
  refine R_ev (ev_assign rfl) rfl rfl ?_
  refine R_ev (ev_assign rfl) rfl rfl ?_
  refine R_nil ?_
  refine nxt_n ?_
  refine W_seq ?_
  refine W_region ?_
  refine R_ev (ev_move rfl) rfl rfl ?_
  refine R_ev (ev_loadS rfl (here b2_5.all) agg31) rfl rfl ?_
  refine R_call call12 rfl rfl rfl ?_
  refine (next_law 1 kB 7 hT1).mono ?_
  rintro e w4_2 ⟨rfl, hT2, hR4_2⟩
  refine ⟨_, rfl, ?_⟩
  replace b2_4 := hR4_2.blk b2_4 (by decide) (by decide)
  replace b2_5 := hR4_2.blk b2_5 (by decide) (by decide)
  rw [n2] at hT2 ⊢
  refine R_ev (ev_move rfl) rfl rfl ?_
  refine R_ev (ev_extract rfl rfl) rfl rfl ?_
  refine R_ev (ev_extract rfl rfl) rfl rfl ?_
  refine R_ev (ev_assign rfl) rfl rfl ?_
  refine R_ev (ev_assign rfl) rfl rfl ?_
  refine R_nil ?_
  refine nxt_n ?_
  refine W_seq ?_
  refine W_region ?_
  refine R_ev (ev_move rfl) rfl rfl ?_
  refine R_ev (ev_loadS rfl (here b2_4.all) agg31) rfl rfl ?_
  refine R_call call13 rfl rfl rfl ?_
  refine (without_law 2 kA hT2).mono ?_
  rintro e w5_2 ⟨rfl, hT3, hR5_2⟩
  refine ⟨_, rfl, ?_⟩
  replace b2_4 := hR5_2.blk b2_4 (by decide) (by decide)
  replace b2_5 := hR5_2.blk b2_5 (by decide) (by decide)
  rw [n3] at hT3 ⊢
  refine R_ev (ev_move rfl) rfl rfl ?_
  refine R_ev (ev_extract rfl rfl) rfl rfl ?_
  refine R_ev (ev_extract rfl rfl) rfl rfl ?_
  refine R_ev (ev_assign rfl) rfl rfl ?_
  refine R_ev (ev_assign rfl) rfl rfl ?_
  refine R_nil ?_
  refine nxt_n ?_
  refine W_seq ?_
  refine W_region ?_
  refine R_ev (ev_move rfl) rfl rfl ?_
  refine R_ev (ev_loadS rfl (here b2_4.all) agg31) rfl rfl ?_
  refine R_call call14 rfl rfl rfl ?_
  refine (change_law 2 kA 6 hT3).mono ?_
  rintro e w6_2 ⟨rfl, hT4, hR6_2⟩
  refine ⟨_, rfl, ?_⟩
  replace b2_4 := hR6_2.blk b2_4 (by decide) (by decide)
  replace b2_5 := hR6_2.blk b2_5 (by decide) (by decide)
  rw [n4] at hT4 ⊢
  refine R_ev (ev_move rfl) rfl rfl ?_
  refine R_ev (ev_extract rfl rfl) rfl rfl ?_
  refine R_ev (ev_extract rfl rfl) rfl rfl ?_
  refine R_ev (ev_assign rfl) rfl rfl ?_
  refine R_ev (ev_assign rfl) rfl rfl ?_
  refine R_nil ?_
  refine nxt_n ?_
  refine W_seq ?_
  refine W_region ?_
  refine R_ev (ev_move rfl) rfl rfl ?_
  refine R_ev (ev_eq rfl rfl) rfl rfl ?_
  refine R_ev (ev_move rfl) rfl rfl ?_
  refine R_ev (ev_move rfl) rfl rfl ?_
  refine R_ev (ev_eq rfl rfl) rfl rfl ?_
  refine R_ev (ev_pick rfl rfl rfl) rfl rfl ?_
  refine R_ev (ev_move rfl) rfl rfl ?_
  refine R_ev (ev_move rfl) rfl rfl ?_
  refine R_ev (ev_eq rfl rfl) rfl rfl ?_
  refine R_ev (ev_pick rfl rfl rfl) rfl rfl ?_
  refine R_ev (ev_move rfl) rfl rfl ?_
  refine R_ev (ev_move rfl) rfl rfl ?_
  refine R_ev (ev_eq rfl rfl) rfl rfl ?_
  refine R_ev (ev_pick rfl rfl rfl) rfl rfl ?_
  refine R_ev (ev_move rfl) rfl rfl ?_
  refine R_ev (ev_move rfl) rfl rfl ?_
  refine R_ev (ev_eq rfl rfl) rfl rfl ?_
  refine R_ev (ev_pick rfl rfl rfl) rfl rfl ?_
  refine R_ev (ev_move rfl) rfl rfl ?_
  refine R_ev (ev_move rfl) rfl rfl ?_
  refine R_ev (ev_eq rfl rfl) rfl rfl ?_
  refine R_ev (ev_pick rfl rfl rfl) rfl rfl ?_
  refine R_ev (ev_move rfl) rfl rfl ?_
  refine R_ev (ev_move rfl) rfl rfl ?_
  refine R_ev (ev_eq rfl rfl) rfl rfl ?_
  refine R_ev (ev_pick rfl rfl rfl) rfl rfl ?_
  refine R_ev (ev_move rfl) rfl rfl ?_
  refine R_ev (ev_move rfl) rfl rfl ?_
  refine R_ev (ev_eq rfl rfl) rfl rfl ?_
  refine R_ev (ev_pick rfl rfl rfl) rfl rfl ?_
  refine R_ev (ev_move rfl) rfl rfl ?_
  refine R_ev (ev_move rfl) rfl rfl ?_
  refine R_call call9 rfl rfl rfl ?_
  refine (count_law hT4).mono ?_
  rintro e w7_32 ⟨rfl, rfl⟩
  refine ⟨_, rfl, ?_⟩
  refine R_ev (ev_eq rfl rfl) rfl rfl ?_
  refine R_ev (ev_pick rfl rfl rfl) rfl rfl ?_
  refine R_ev (ev_assign rfl) rfl rfl ?_
  refine R_nil ?_
  refine nxt_n ?_
  refine W_ret ?_
  exact end1 rfl rfl ⟨rfl, hT4.ext⟩
end Go.Proofs.Ytmiecljgcbfklaa

