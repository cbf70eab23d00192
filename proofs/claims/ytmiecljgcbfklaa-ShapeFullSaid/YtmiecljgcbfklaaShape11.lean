/- Shapes: New, an act, a table that is nil (walks printed by shape11.py). -/
import Derived.Test.YtmiecljgcbfklaaShape10
namespace Go.Proofs.Ytmiecljgcbfklaa
open Go.RowKit
theorem new_any (w : World) : Calls Try.prog 7 #[] w fun e w' => ∃ p b m, e = .returned (.pointer (some ⟨p, 0, none⟩)) ∧ Tab w' p b m [root] ∧ Ext w w' ∧ w.heap.size ≤ p ∧ w.heap.size ≤ b ∧ w.heap.size ≤ m := by
  refine calls_E Try.func7 rfl rfl ?_
  simp only [envOf]
  refine W_seq ?_
  refine W_region ?_
  refine R_ev (ev_assign rfl) rfl rfl ?_
  refine R_nil ?_
  refine nxt_n ?_
  refine W_seq ?_
  refine W_region ?_
  refine R_ev (ev_build rfl (bld_37_0 _)) rfl rfl ?_
  refine A_bslice rfl (bsl_35_1 _ _ _ _ _ _ _) rfl rfl (fun w1_1 x1_1 b1_1 => ?_)
  refine A_makeMap rfl rfl (fun w1_2 x1_2 m1_2 => ?_)
  replace m1_2 : Mp w1_2 w1_1.heap.size stepE natE [] := mp_new m1_2
  refine R_ev (ev_build rfl (bld_54_0_1 _ _ _ _)) rfl rfl ?_
  refine A_box rfl rfl rfl (fun w1_4 x1_4 b1_4 => ?_)
  refine R_ev (ev_assign rfl) rfl rfl ?_
  refine R_nil ?_
  refine nxt_n ?_
  refine W_ret ?_
  have e0_2_1 : Ext w w1_2 := x1_1.trans x1_2
  have e0_3_2 : Ext w w1_4 := e0_2_1.trans x1_4
  have hE := e0_3_2
  have h1 := x1_1.size
  have h2 := x1_2.size
  have e1_3_3 : Ext w1_1 w1_4 := x1_2.trans x1_4
  exact end1 rfl rfl ⟨_, _, _, rfl, ⟨1, _, b1_4, (b1_1.ext e1_3_3), Nat.le_refl _, by unfold maxLen; omega, rfl, rfl, (m1_2.ext x1_4)⟩, hE, by omega, by omega, by omega⟩
theorem row_nil (n : Int) (w : World) : Calls Try.prog 22 #[.pointer none, .int .i64 n] w fun e w' => ∃ g, e = .returned (.slice (some ⟨g, 0, none⟩) 0 0) ∧ Ext w w' := by
  refine calls_E Try.func22 rfl rfl ?_
  simp only [envOf]
  refine W_seq ?_
  refine W_region ?_
  refine R_ev (ev_assign rfl) rfl rfl ?_
  refine R_nil ?_
  refine nxt_n ?_
  refine W_seq ?_
  refine W_region ?_
  refine R_ev (ev_move rfl) rfl rfl ?_
  refine R_ev (ev_move rfl) rfl rfl ?_
  refine R_call call11 rfl rfl rfl ?_
  refine (len_nil _ _).mono ?_
  rintro e w1_2 ⟨rfl, x1_2⟩
  refine ⟨_, rfl, ?_⟩
  refine A_make (l := 0) (sz := 6) rfl rfl Try.underlying35 rfl rfl rfl (by show 56 * _ ≤ _; omega) (by omega) rfl rfl (fun w1_3 x1_3 b1_3 => ?_)
  replace b1_3 : Rw w1_3 w1_2.heap.size 37 enS (List.replicate 0 zeroS) := by have h := made_rows (en := enS) zeroS (z := (enS zeroS).toArray) rfl 0 (by decide); unfold Rw; rw [← h]; exact b1_3
  refine R_ev (ev_assign rfl) rfl rfl ?_
  refine R_nil ?_
  refine nxt_n ?_
  refine W_seq ?_
  refine W_seq ?_
  refine W_region ?_
  refine R_ev (ev_move rfl) rfl rfl ?_
  refine R_ev (ev_len rfl Try.underlying35) rfl rfl ?_
  refine R_ev (ev_sub rfl rfl (by omega) (by omega)) rfl rfl ?_
  refine R_ev (ev_assign rfl) rfl rfl ?_
  refine R_nil ?_
  refine nxt_n ?_
  refine W_block ?_
  have e0_2_1 : Ext w w1_3 := x1_2.trans x1_3
  refine W_loop (ι := Unit) (fun z => [(0, .pointer none), (1, .int .i64 n), (5, .slice (some ⟨w1_2.heap.size, 0, none⟩) 0 0), (6, .int .i64 (-1))]) (fun z => fun w' => Ext w w') (fun z => 0) () (sub_cons rfl (sub_cons rfl (sub_cons rfl (sub_cons rfl sub_nil)))) ?_ ?_
  · exact e0_2_1
  rintro _ wl0 hl0
  try dsimp only
  refine W_seq ?_
  refine W_seq ?_
  refine W_region ?_
  refine R_ev (ev_move rfl) rfl rfl ?_
  refine R_ev (ev_ge rfl rfl) rfl rfl ?_
  refine R_nil ?_
  refine nxt_n ?_
  refine W_cond rfl (fun c0 => ?_) (fun c0 => ?_)
  · first | replace c0 := of_decide_eq_true c0 | replace c0 := of_decide_eq_false c0 | replace c0 := nd_true c0 | replace c0 := nd_false c0 | replace c0 := nb_true c0 | replace c0 := nb_false c0 | skip
    exact absurd c0 (by decide)
  · first | replace c0 := of_decide_eq_true c0 | replace c0 := of_decide_eq_false c0 | replace c0 := nd_true c0 | replace c0 := nd_false c0 | replace c0 := nb_true c0 | replace c0 := nb_false c0 | skip
    refine W_exit ?_
    refine nxt_e ?_
    refine nxt_e ?_
    refine blk_x ?_
    refine nxt_n ?_
    refine W_seq ?_
    refine W_region ?_
    refine R_ev (ev_move rfl) rfl rfl ?_
    refine R_ev (ev_assign rfl) rfl rfl ?_
    refine R_nil ?_
    refine nxt_n ?_
    refine W_ret ?_
    exact end1 rfl rfl ⟨_, rfl, hl0⟩
theorem keys_nil (n : Int) (w : World) : Calls Try.prog 16 #[.pointer none, .int .i64 n] w fun e w' => e = .returned (.slice none 0 0) ∧ Ext w w' := by
  refine calls_E Try.func16 rfl rfl ?_
  simp only [envOf]
  refine W_seq ?_
  refine W_region ?_
  refine R_ev (ev_assign rfl) rfl rfl ?_
  refine R_nil ?_
  refine nxt_n ?_
  refine W_seq ?_
  refine W_region ?_
  refine R_ev (ev_assign rfl) rfl rfl ?_
  refine R_nil ?_
  refine nxt_n ?_
  refine W_seq ?_
  refine W_seq ?_
  refine W_region ?_
  refine R_ev (ev_move rfl) rfl rfl ?_
  refine R_ev (ev_move rfl) rfl rfl ?_
  refine R_call call22 rfl rfl rfl ?_
  refine (row_nil _ _).mono ?_
  rintro e w2_2 ⟨g, rfl, x2_2⟩
  refine ⟨_, rfl, ?_⟩
  refine R_ev (ev_len rfl Try.underlying35) rfl rfl ?_
  refine R_ev (ev_move rfl) rfl rfl ?_
  refine R_nil ?_
  refine nxt_n ?_
  refine W_block ?_
  refine W_loop (ι := Unit) (fun z => [(5, .slice none 0 0), (10, .slice (some ⟨g, 0, none⟩) 0 0), (11, .int .i64 0), (12, .int .i64 0)]) (fun z => fun w' => Ext w w') (fun z => 0) () (sub_cons rfl (sub_cons rfl (sub_cons rfl (sub_cons rfl sub_nil)))) ?_ ?_
  · exact x2_2
  rintro _ wl0 hl0
  try dsimp only
  refine W_seq ?_
  refine W_region ?_
  refine R_ev (ev_lt rfl rfl) rfl rfl ?_
  refine R_nil ?_
  refine nxt_n ?_
  refine W_seq ?_
  refine W_cond rfl (fun c0 => ?_) (fun c0 => ?_)
  · first | replace c0 := of_decide_eq_true c0 | replace c0 := of_decide_eq_false c0 | replace c0 := nd_true c0 | replace c0 := nd_false c0 | replace c0 := nb_true c0 | replace c0 := nb_false c0 | skip
    exact absurd c0 (by decide)
  · first | replace c0 := of_decide_eq_true c0 | replace c0 := of_decide_eq_false c0 | replace c0 := nd_true c0 | replace c0 := nd_false c0 | replace c0 := nb_true c0 | replace c0 := nb_false c0 | skip
    refine W_exit ?_
    refine nxt_e ?_
    refine nxt_e ?_
    refine blk_x ?_
    refine nxt_n ?_
    refine W_seq ?_
    refine W_region ?_
    refine R_ev (ev_move rfl) rfl rfl ?_
    refine R_ev (ev_assign rfl) rfl rfl ?_
    refine R_nil ?_
    refine nxt_n ?_
    refine W_ret ?_
    exact end1 rfl rfl ⟨rfl, hl0⟩
theorem attrs_nil (n : Int) (w : World) : Calls Try.prog 17 #[.pointer none, .int .i64 n] w fun e w' => e = .returned (.slice none 0 0) ∧ Ext w w' := by
  refine calls_E Try.func17 rfl rfl ?_
  simp only [envOf]
  refine W_seq ?_
  refine W_region ?_
  refine R_ev (ev_assign rfl) rfl rfl ?_
  refine R_nil ?_
  refine nxt_n ?_
  refine W_seq ?_
  refine W_region ?_
  refine R_ev (ev_assign rfl) rfl rfl ?_
  refine R_nil ?_
  refine nxt_n ?_
  refine W_seq ?_
  refine W_seq ?_
  refine W_region ?_
  refine R_ev (ev_move rfl) rfl rfl ?_
  refine R_ev (ev_move rfl) rfl rfl ?_
  refine R_call call22 rfl rfl rfl ?_
  refine (row_nil _ _).mono ?_
  rintro e w2_2 ⟨g, rfl, x2_2⟩
  refine ⟨_, rfl, ?_⟩
  refine R_ev (ev_len rfl Try.underlying35) rfl rfl ?_
  refine R_ev (ev_move rfl) rfl rfl ?_
  refine R_nil ?_
  refine nxt_n ?_
  refine W_block ?_
  refine W_loop (ι := Unit) (fun z => [(5, .slice none 0 0), (10, .slice (some ⟨g, 0, none⟩) 0 0), (11, .int .i64 0), (12, .int .i64 0)]) (fun z => fun w' => Ext w w') (fun z => 0) () (sub_cons rfl (sub_cons rfl (sub_cons rfl (sub_cons rfl sub_nil)))) ?_ ?_
  · exact x2_2
  rintro _ wl0 hl0
  try dsimp only
  refine W_seq ?_
  refine W_region ?_
  refine R_ev (ev_lt rfl rfl) rfl rfl ?_
  refine R_nil ?_
  refine nxt_n ?_
  refine W_seq ?_
  refine W_cond rfl (fun c0 => ?_) (fun c0 => ?_)
  · first | replace c0 := of_decide_eq_true c0 | replace c0 := of_decide_eq_false c0 | replace c0 := nd_true c0 | replace c0 := nd_false c0 | replace c0 := nb_true c0 | replace c0 := nb_false c0 | skip
    exact absurd c0 (by decide)
  · first | replace c0 := of_decide_eq_true c0 | replace c0 := of_decide_eq_false c0 | replace c0 := nd_true c0 | replace c0 := nd_false c0 | replace c0 := nb_true c0 | replace c0 := nb_false c0 | skip
    refine W_exit ?_
    refine nxt_e ?_
    refine nxt_e ?_
    refine blk_x ?_
    refine nxt_n ?_
    refine W_seq ?_
    refine W_region ?_
    refine R_ev (ev_move rfl) rfl rfl ?_
    refine R_ev (ev_assign rfl) rfl rfl ?_
    refine R_nil ?_
    refine nxt_n ?_
    refine W_ret ?_
    exact end1 rfl rfl ⟨rfl, hl0⟩
theorem do_any {p b m : Nat} {T : List ShD} (x : ActD) (w : World) (hT : Tab w p b m T) (hw : WF T) : Calls Try.prog 8 #[.pointer (some ⟨p, 0, none⟩), .agg (enA x).toArray] w (TabPost p b m w (doT T x)) := by
  refine calls_E Try.func8 rfl rfl ?_
  simp only [envOf]
  refine W_seq ?_
  refine W_region ?_
  refine A_box rfl rfl rfl (fun w0_0 x0_0 b0_0 => ?_)
  refine R_ev (ev_assign rfl) rfl rfl ?_
  refine R_ev (ev_assign rfl) rfl rfl ?_
  refine R_nil ?_
  refine nxt_n ?_
  refine W_seq ?_
  refine W_seq ?_
  refine W_region ?_
  refine R_ev (ev_fa0 rfl fa_33_0) rfl rfl ?_
  refine R_ev (ev_load1 rfl one3 (here (b0_0.at rfl))) rfl rfl ?_
  refine R_nil ?_
  refine nxt_n ?_
  refine W_block ?_
  refine W_seq ?_
  refine W_region ?_
  refine R_ev (ev_eq rfl rfl) rfl rfl ?_
  refine R_ev (ev_assign rfl) rfl rfl ?_
  refine R_nil ?_
  refine nxt_n ?_
  refine W_cond rfl (fun c0 => ?_) (fun c0 => ?_)
  · first | replace c0 := of_decide_eq_true c0 | replace c0 := of_decide_eq_false c0 | replace c0 := nd_true c0 | replace c0 := nd_false c0 | replace c0 := nb_true c0 | replace c0 := nb_false c0 | skip
    refine W_seq ?_
    refine W_region ?_
    refine R_ev (ev_move rfl) rfl rfl ?_
    refine R_ev (ev_fa rfl fa_33_1) rfl rfl ?_
    refine R_ev (ev_load1 rfl one3 (here (b0_0.at rfl))) rfl rfl ?_
    refine R_ev (ev_fa rfl fa_33_2) rfl rfl ?_
    refine R_ev (ev_loadS rfl (here (b0_0.all.part 2 3)) agg31) rfl rfl ?_
    refine R_ev (ev_fa rfl fa_33_3) rfl rfl ?_
    refine R_ev (ev_load1 rfl one3 (here (b0_0.at rfl))) rfl rfl ?_
    refine R_call call12 rfl rfl rfl ?_
    refine (next_any x.shape x.key x.attrs _ (hT.ext x0_0) hw).mono ?_
    rintro e w3_7 ⟨b1, rfl, hT1, hw1, hF1, hb1⟩
    refine ⟨_, rfl, ?_⟩
    refine R_ev (ev_extract rfl rfl) rfl rfl ?_
    refine R_ev (ev_extract rfl rfl) rfl rfl ?_
    refine R_ev (ev_assign rfl) rfl rfl ?_
    refine R_ev (ev_assign rfl) rfl rfl ?_
    refine R_nil ?_
    refine nxt_n ?_
    refine W_ret ?_
    refine blk_r ?_
    refine nxt_r ?_
    have hq : doT T x = nextT T x.shape x.key x.attrs := if_pos c0
    rw [hq]
    exact end2 rfl rfl rfl (TabPost.ext ⟨b1, rfl, hT1, hw1, hF1, hb1⟩ x0_0)
  · first | replace c0 := of_decide_eq_true c0 | replace c0 := of_decide_eq_false c0 | replace c0 := nd_true c0 | replace c0 := nd_false c0 | replace c0 := nb_true c0 | replace c0 := nb_false c0 | skip
    refine W_seq ?_
    refine W_region ?_
    refine R_ev (ev_eq rfl rfl) rfl rfl ?_
    refine R_ev (ev_assign rfl) rfl rfl ?_
    refine R_nil ?_
    refine nxt_n ?_
    refine W_cond rfl (fun c1 => ?_) (fun c1 => ?_)
    · first | replace c1 := of_decide_eq_true c1 | replace c1 := of_decide_eq_false c1 | replace c1 := nd_true c1 | replace c1 := nd_false c1 | replace c1 := nb_true c1 | replace c1 := nb_false c1 | skip
      refine W_seq ?_
      refine W_region ?_
      refine R_ev (ev_move rfl) rfl rfl ?_
      refine R_ev (ev_fa rfl fa_33_1) rfl rfl ?_
      refine R_ev (ev_load1 rfl one3 (here (b0_0.at rfl))) rfl rfl ?_
      refine R_ev (ev_fa rfl fa_33_2) rfl rfl ?_
      refine R_ev (ev_loadS rfl (here (b0_0.all.part 2 3)) agg31) rfl rfl ?_
      refine R_ev (ev_fa rfl fa_33_3) rfl rfl ?_
      refine R_ev (ev_load1 rfl one3 (here (b0_0.at rfl))) rfl rfl ?_
      refine R_call call14 rfl rfl rfl ?_
      refine (change_any x.shape x.key x.attrs _ (hT.ext x0_0) hw).mono ?_
      rintro e w5_7 ⟨b1, rfl, hT1, hw1, hF1, hb1⟩
      refine ⟨_, rfl, ?_⟩
      refine R_ev (ev_extract rfl rfl) rfl rfl ?_
      refine R_ev (ev_extract rfl rfl) rfl rfl ?_
      refine R_ev (ev_assign rfl) rfl rfl ?_
      refine R_ev (ev_assign rfl) rfl rfl ?_
      refine R_nil ?_
      refine nxt_n ?_
      refine W_ret ?_
      refine blk_r ?_
      refine nxt_r ?_
      have hq : doT T x = changeT T x.shape x.key x.attrs := by unfold doT; rw [if_neg c0, if_pos c1]
      rw [hq]
      exact end2 rfl rfl rfl (TabPost.ext ⟨b1, rfl, hT1, hw1, hF1, hb1⟩ x0_0)
    · first | replace c1 := of_decide_eq_true c1 | replace c1 := of_decide_eq_false c1 | replace c1 := nd_true c1 | replace c1 := nd_false c1 | replace c1 := nb_true c1 | replace c1 := nb_false c1 | skip
      refine W_skip ?_
      refine blk_n ?_
      refine nxt_n ?_
      refine W_seq ?_
      refine W_region ?_
      refine R_ev (ev_move rfl) rfl rfl ?_
      refine R_ev (ev_fa rfl fa_33_1) rfl rfl ?_
      refine R_ev (ev_load1 rfl one3 (here (b0_0.at rfl))) rfl rfl ?_
      refine R_ev (ev_fa rfl fa_33_2) rfl rfl ?_
      refine R_ev (ev_loadS rfl (here (b0_0.all.part 2 3)) agg31) rfl rfl ?_
      refine R_call call13 rfl rfl rfl ?_
      refine (without_any x.shape x.key _ (hT.ext x0_0) hw).mono ?_
      rintro e w6_5 ⟨b1, rfl, hT1, hw1, hF1, hb1⟩
      refine ⟨_, rfl, ?_⟩
      refine R_ev (ev_extract rfl rfl) rfl rfl ?_
      refine R_ev (ev_extract rfl rfl) rfl rfl ?_
      refine R_ev (ev_assign rfl) rfl rfl ?_
      refine R_ev (ev_assign rfl) rfl rfl ?_
      refine R_nil ?_
      refine nxt_n ?_
      refine W_ret ?_
      have hq : doT T x = withoutT T x.shape x.key := by unfold doT; rw [if_neg c0, if_neg c1]
      rw [hq]
      exact end2 rfl rfl rfl (TabPost.ext ⟨b1, rfl, hT1, hw1, hF1, hb1⟩ x0_0)
theorem do_nil (x : ActD) (w : World) : Calls Try.prog 8 #[.pointer none, .agg (enA x).toArray] w fun e w' => e = .returned (.tuple #[.int .i64 0, .int .i64 1]) ∧ Ext w w' := by
  refine calls_E Try.func8 rfl rfl ?_
  simp only [envOf]
  refine W_seq ?_
  refine W_region ?_
  refine A_box rfl rfl rfl (fun w0_0 x0_0 b0_0 => ?_)
  refine R_ev (ev_assign rfl) rfl rfl ?_
  refine R_ev (ev_assign rfl) rfl rfl ?_
  refine R_nil ?_
  refine nxt_n ?_
  refine W_seq ?_
  refine W_seq ?_
  refine W_region ?_
  refine R_ev (ev_fa0 rfl fa_33_0) rfl rfl ?_
  refine R_ev (ev_load1 rfl one3 (here (b0_0.at rfl))) rfl rfl ?_
  refine R_nil ?_
  refine nxt_n ?_
  refine W_block ?_
  refine W_seq ?_
  refine W_region ?_
  refine R_ev (ev_eq rfl rfl) rfl rfl ?_
  refine R_ev (ev_assign rfl) rfl rfl ?_
  refine R_nil ?_
  refine nxt_n ?_
  refine W_cond rfl (fun c0 => ?_) (fun c0 => ?_)
  · first | replace c0 := of_decide_eq_true c0 | replace c0 := of_decide_eq_false c0 | replace c0 := nd_true c0 | replace c0 := nd_false c0 | replace c0 := nb_true c0 | replace c0 := nb_false c0 | skip
    refine W_seq ?_
    refine W_region ?_
    refine R_ev (ev_move rfl) rfl rfl ?_
    refine R_ev (ev_fa rfl fa_33_1) rfl rfl ?_
    refine R_ev (ev_load1 rfl one3 (here (b0_0.at rfl))) rfl rfl ?_
    refine R_ev (ev_fa rfl fa_33_2) rfl rfl ?_
    refine R_ev (ev_loadS rfl (here (b0_0.all.part 2 3)) agg31) rfl rfl ?_
    refine R_ev (ev_fa rfl fa_33_3) rfl rfl ?_
    refine R_ev (ev_load1 rfl one3 (here (b0_0.at rfl))) rfl rfl ?_
    refine R_call call12 rfl rfl rfl ?_
    refine (next_nil x.shape x.key x.attrs _).mono ?_
    rintro e w3_7 ⟨rfl, x3_7⟩
    refine ⟨_, rfl, ?_⟩
    refine R_ev (ev_extract rfl rfl) rfl rfl ?_
    refine R_ev (ev_extract rfl rfl) rfl rfl ?_
    refine R_ev (ev_assign rfl) rfl rfl ?_
    refine R_ev (ev_assign rfl) rfl rfl ?_
    refine R_nil ?_
    refine nxt_n ?_
    refine W_ret ?_
    refine blk_r ?_
    refine nxt_r ?_
    have e0_2_1 : Ext w w3_7 := x0_0.trans x3_7
    exact end2 rfl rfl rfl ⟨rfl, e0_2_1⟩
  · first | replace c0 := of_decide_eq_true c0 | replace c0 := of_decide_eq_false c0 | replace c0 := nd_true c0 | replace c0 := nd_false c0 | replace c0 := nb_true c0 | replace c0 := nb_false c0 | skip
    refine W_seq ?_
    refine W_region ?_
    refine R_ev (ev_eq rfl rfl) rfl rfl ?_
    refine R_ev (ev_assign rfl) rfl rfl ?_
    refine R_nil ?_
    refine nxt_n ?_
    refine W_cond rfl (fun c1 => ?_) (fun c1 => ?_)
    · first | replace c1 := of_decide_eq_true c1 | replace c1 := of_decide_eq_false c1 | replace c1 := nd_true c1 | replace c1 := nd_false c1 | replace c1 := nb_true c1 | replace c1 := nb_false c1 | skip
      refine W_seq ?_
      refine W_region ?_
      refine R_ev (ev_move rfl) rfl rfl ?_
      refine R_ev (ev_fa rfl fa_33_1) rfl rfl ?_
      refine R_ev (ev_load1 rfl one3 (here (b0_0.at rfl))) rfl rfl ?_
      refine R_ev (ev_fa rfl fa_33_2) rfl rfl ?_
      refine R_ev (ev_loadS rfl (here (b0_0.all.part 2 3)) agg31) rfl rfl ?_
      refine R_ev (ev_fa rfl fa_33_3) rfl rfl ?_
      refine R_ev (ev_load1 rfl one3 (here (b0_0.at rfl))) rfl rfl ?_
      refine R_call call14 rfl rfl rfl ?_
      refine (change_nil x.shape x.key x.attrs _).mono ?_
      rintro e w5_7 ⟨rfl, x5_7⟩
      refine ⟨_, rfl, ?_⟩
      refine R_ev (ev_extract rfl rfl) rfl rfl ?_
      refine R_ev (ev_extract rfl rfl) rfl rfl ?_
      refine R_ev (ev_assign rfl) rfl rfl ?_
      refine R_ev (ev_assign rfl) rfl rfl ?_
      refine R_nil ?_
      refine nxt_n ?_
      refine W_ret ?_
      refine blk_r ?_
      refine nxt_r ?_
      have e0_2_2 : Ext w w5_7 := x0_0.trans x5_7
      exact end2 rfl rfl rfl ⟨rfl, e0_2_2⟩
    · first | replace c1 := of_decide_eq_true c1 | replace c1 := of_decide_eq_false c1 | replace c1 := nd_true c1 | replace c1 := nd_false c1 | replace c1 := nb_true c1 | replace c1 := nb_false c1 | skip
      refine W_skip ?_
      refine blk_n ?_
      refine nxt_n ?_
      refine W_seq ?_
      refine W_region ?_
      refine R_ev (ev_move rfl) rfl rfl ?_
      refine R_ev (ev_fa rfl fa_33_1) rfl rfl ?_
      refine R_ev (ev_load1 rfl one3 (here (b0_0.at rfl))) rfl rfl ?_
      refine R_ev (ev_fa rfl fa_33_2) rfl rfl ?_
      refine R_ev (ev_loadS rfl (here (b0_0.all.part 2 3)) agg31) rfl rfl ?_
      refine R_call call13 rfl rfl rfl ?_
      refine (without_nil x.shape x.key _).mono ?_
      rintro e w6_5 ⟨rfl, x6_5⟩
      refine ⟨_, rfl, ?_⟩
      refine R_ev (ev_extract rfl rfl) rfl rfl ?_
      refine R_ev (ev_extract rfl rfl) rfl rfl ?_
      refine R_ev (ev_assign rfl) rfl rfl ?_
      refine R_ev (ev_assign rfl) rfl rfl ?_
      refine R_nil ?_
      refine nxt_n ?_
      refine W_ret ?_
      have e0_2_3 : Ext w w6_5 := x0_0.trans x6_5
      exact end2 rfl rfl rfl ⟨rfl, e0_2_3⟩
end Go.Proofs.Ytmiecljgcbfklaa

