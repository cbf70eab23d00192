/- Shapes: the law of a table that is nil (walk printed by shape15.py). -/
import Derived.Test.YtmiecljgcbfklaaShape14
namespace Go.Proofs.Ytmiecljgcbfklaa
open Go.RowKit
theorem none_law (x : ActD) (w : World) : Calls Try.prog 5 #[.agg (enA x).toArray] w fun e w' => e = .returned (.bool true) ∧ Ext w w' := by
  refine calls_E Try.func5 rfl rfl ?_
  simp only [envOf]
  refine W_seq ?_
  refine W_region ?_
  refine A_box rfl rfl rfl (fun w0_0 x0_0 b0_0 => ?_)
  refine R_ev (ev_assign rfl) rfl rfl ?_
  refine R_nil ?_
  refine nxt_n ?_
  refine W_seq ?_
  refine W_seq ?_
  refine W_region ?_
  refine R_call call6 rfl rfl rfl ?_
  refine (awake_any _).mono ?_
  rintro e w1_0 ⟨rfl, x1_0⟩
  refine ⟨_, rfl, ?_⟩
  refine R_ev (ev_not rfl) rfl rfl ?_
  refine R_nil ?_
  refine nxt_n ?_
  refine W_cond_f rfl ?_
  refine W_skip ?_
  refine nxt_n ?_
  refine W_seq ?_
  refine W_region ?_
  refine R_ev (ev_assign rfl) rfl rfl ?_
  refine R_nil ?_
  refine nxt_n ?_
  refine W_seq ?_
  refine W_region ?_
  refine R_ev (ev_move rfl) rfl rfl ?_
  refine R_ev (ev_loadS rfl (here (b0_0.ext x1_0).all) agg33) rfl rfl ?_
  refine R_call call8 rfl rfl rfl ?_
  refine (do_nil x _).mono ?_
  rintro e w4_2 ⟨rfl, x4_2⟩
  refine ⟨_, rfl, ?_⟩
  refine R_ev (ev_move rfl) rfl rfl ?_
  refine R_ev (ev_extract rfl rfl) rfl rfl ?_
  refine R_ev (ev_extract rfl rfl) rfl rfl ?_
  refine R_ev (ev_assign rfl) rfl rfl ?_
  refine R_ev (ev_assign rfl) rfl rfl ?_
  refine R_nil ?_
  refine nxt_n ?_
  refine W_seq ?_
  refine W_region ?_
  refine R_ev (ev_move rfl) rfl rfl ?_
  refine R_ev (ev_fa rfl fa_33_1) rfl rfl ?_
  have e1_3_1 : Ext w0_0 w4_2 := x1_0.trans x4_2
  refine R_ev (ev_load1 rfl one3 (here ((b0_0.ext e1_3_1).at rfl))) rfl rfl ?_
  refine R_ev (ev_fa rfl fa_33_2) rfl rfl ?_
  refine R_ev (ev_loadS rfl (here ((b0_0.ext e1_3_1).all.part 2 3)) agg31) rfl rfl ?_
  refine R_call call15 rfl rfl rfl ?_
  refine (find_nil _ x.key _).mono ?_
  rintro e w5_5 ⟨rfl, x5_5⟩
  refine ⟨_, rfl, ?_⟩
  refine R_ev (ev_move rfl) rfl rfl ?_
  refine R_ev (ev_extract rfl rfl) rfl rfl ?_
  refine R_ev (ev_extract rfl rfl) rfl rfl ?_
  refine R_ev (ev_extract rfl rfl) rfl rfl ?_
  refine R_ev (ev_assign rfl) rfl rfl ?_
  refine R_ev (ev_assign rfl) rfl rfl ?_
  refine R_ev (ev_assign rfl) rfl rfl ?_
  refine R_nil ?_
  refine nxt_n ?_
  refine W_seq ?_
  refine W_region ?_
  refine R_ev (ev_move rfl) rfl rfl ?_
  refine R_ev (ev_fa rfl fa_33_1) rfl rfl ?_
  have e1_4_2 : Ext w0_0 w5_5 := e1_3_1.trans x5_5
  refine R_ev (ev_load1 rfl one3 (here ((b0_0.ext e1_4_2).at rfl))) rfl rfl ?_
  refine R_call call10 rfl rfl rfl ?_
  refine (at_nil _ _).mono ?_
  rintro e w6_3 ⟨rfl, x6_3⟩
  refine ⟨_, rfl, ?_⟩
  refine R_ev (ev_move rfl) rfl rfl ?_
  refine R_ev (ev_extract rfl rfl) rfl rfl ?_
  refine R_ev (ev_extract rfl rfl) rfl rfl ?_
  refine A_alloc zero37 rfl rfl (fun w6_7 x6_7 b6_7 => ?_)
  refine A_storeRow rfl rfl b6_7 size37 rfl rfl rfl (fun w6_8 x6_8 b6_8 => ?_)
  refine R_ev (ev_assign rfl) rfl rfl ?_
  refine R_nil ?_
  refine nxt_n ?_
  refine W_seq ?_
  refine W_region ?_
  refine R_ev (ev_move rfl) rfl rfl ?_
  refine R_ev (ev_eq rfl rfl) rfl rfl ?_
  refine R_ev (ev_move rfl) rfl rfl ?_
  refine R_ev (ev_move rfl) rfl rfl ?_
  refine R_ev (ev_eq rfl rfl) rfl rfl ?_
  refine R_ev (ev_pick rfl rfl rfl) rfl rfl ?_
  refine R_ev (ev_move rfl) rfl rfl ?_
  refine R_ev (ev_move rfl) rfl rfl ?_
  refine R_ev (ev_not rfl) rfl rfl ?_
  refine R_ev (ev_pick rfl rfl rfl) rfl rfl ?_
  refine R_ev (ev_move rfl) rfl rfl ?_
  refine R_ev (ev_move rfl) rfl rfl ?_
  refine R_ev (ev_not rfl) rfl rfl ?_
  refine R_ev (ev_pick rfl rfl rfl) rfl rfl ?_
  refine R_ev (ev_move rfl) rfl rfl ?_
  refine R_ev (ev_loadS rfl (here b6_8.all) agg37) rfl rfl ?_
  refine R_ev (ev_build rfl (bld_37_)) rfl rfl ?_
  refine R_ev (ev_shsame (k := zeroS) rfl rfl) rfl rfl ?_
  refine R_ev (ev_pick rfl rfl rfl) rfl rfl ?_
  refine R_ev (ev_move rfl) rfl rfl ?_
  refine R_ev (ev_move rfl) rfl rfl ?_
  refine R_call call16 rfl rfl rfl ?_
  refine (keys_nil _ _).mono ?_
  rintro e w7_21 ⟨rfl, x7_21⟩
  refine ⟨_, rfl, ?_⟩
  refine R_ev (ev_len rfl Try.underlying48) rfl rfl ?_
  refine R_ev (ev_eq rfl rfl) rfl rfl ?_
  refine R_ev (ev_pick rfl rfl rfl) rfl rfl ?_
  refine R_ev (ev_move rfl) rfl rfl ?_
  refine R_ev (ev_move rfl) rfl rfl ?_
  refine R_call call17 rfl rfl rfl ?_
  refine (attrs_nil _ _).mono ?_
  rintro e w7_27 ⟨rfl, x7_27⟩
  refine ⟨_, rfl, ?_⟩
  refine R_ev (ev_len rfl Try.underlying26) rfl rfl ?_
  refine R_ev (ev_eq rfl rfl) rfl rfl ?_
  refine R_ev (ev_pick rfl rfl rfl) rfl rfl ?_
  refine R_ev (ev_move rfl) rfl rfl ?_
  refine R_ev (ev_move rfl) rfl rfl ?_
  refine R_call call11 rfl rfl rfl ?_
  refine (len_nil _ _).mono ?_
  rintro e w7_33 ⟨rfl, x7_33⟩
  refine ⟨_, rfl, ?_⟩
  refine R_ev (ev_eq rfl rfl) rfl rfl ?_
  refine R_ev (ev_pick rfl rfl rfl) rfl rfl ?_
  refine R_ev (ev_move rfl) rfl rfl ?_
  refine R_ev (ev_move rfl) rfl rfl ?_
  refine R_call call9 rfl rfl rfl ?_
  refine (count_nil _).mono ?_
  rintro e w7_38 ⟨rfl, rfl⟩
  refine ⟨_, rfl, ?_⟩
  refine R_ev (ev_eq rfl rfl) rfl rfl ?_
  refine R_ev (ev_pick rfl rfl rfl) rfl rfl ?_
  refine R_ev (ev_assign rfl) rfl rfl ?_
  refine R_nil ?_
  refine nxt_n ?_
  refine W_ret ?_
  have e0_2_3 : Ext w w1_0 := x0_0.trans x1_0
  have e0_3_4 : Ext w w4_2 := e0_2_3.trans x4_2
  have e0_4_5 : Ext w w5_5 := e0_3_4.trans x5_5
  have e0_5_6 : Ext w w6_3 := e0_4_5.trans x6_3
  have e0_6_7 : Ext w w6_7 := e0_5_6.trans x6_7
  have e0_7_8 : Ext w w6_8 := x6_8.ext e0_6_7 (fun q e => e ▸ e0_5_6.size)
  have e0_8_9 : Ext w w7_21 := e0_7_8.trans x7_21
  have e0_9_10 : Ext w w7_27 := e0_8_9.trans x7_27
  have e0_10_11 : Ext w w7_33 := e0_9_10.trans x7_33
  exact end1 rfl rfl ⟨rfl, e0_10_11⟩
end Go.Proofs.Ytmiecljgcbfklaa

