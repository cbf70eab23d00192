/- Shapes: what the functions that only read answer (walks printed by shape2.py). -/
import Derived.Test.YtmiecljgcbfklaaShape1
namespace Go.Proofs.Ytmiecljgcbfklaa
open Go.RowKit
theorem may_any (a : Int) (w : World) : Calls Try.prog 24 #[.int .i64 a] w fun e w' => e = .returned (.bool (mayB a)) ∧ w = w' := by
  refine calls_E Try.func24 rfl rfl ?_
  simp only [envOf]
  refine W_seq ?_
  refine W_region ?_
  refine R_ev (ev_assign rfl) rfl rfl ?_
  refine R_nil ?_
  refine nxt_n ?_
  refine W_seq ?_
  refine W_region ?_
  refine R_ev (ev_move rfl) rfl rfl ?_
  refine R_ev (ev_ge rfl rfl) rfl rfl ?_
  refine R_ev (ev_move rfl) rfl rfl ?_
  apply R_and 3 8 5 rfl (fun g1_2 => ?t1_2) (fun g1_2 => ?f1_2) ?k1_2
  case t1_2 =>
    refine R_ev (ev_move rfl) (g_tt g1_2 rfl) rfl ?_
    refine R_ev (ev_le rfl rfl) (g_tt g1_2 rfl) rfl ?_
    refine R_ev (ev_pick_t' g1_2 rfl rfl) rfl rfl ?_
    exact R_joined rfl (sub_skip (sub_skip (sub_skip sub_refl rfl) rfl) rfl)
  case f1_2 =>
    refine R_skip (g_tf g1_2 rfl) rfl ?_
    refine R_skip (g_tf g1_2 rfl) rfl ?_
    refine R_ev (ev_pick_f' g1_2 rfl rfl) rfl rfl ?_
    exact R_joined rfl (sub_skip (sub_skip (sub_skip sub_refl rfl) rfl) rfl)
  refine R_ev (ev_move rfl) rfl rfl ?_
  apply R_and 4 13 9 rfl (fun g1_6 => ?t1_6) (fun g1_6 => ?f1_6) ?k1_6
  case t1_6 =>
    refine R_ev (ev_move rfl) (g_tt g1_6 rfl) rfl ?_
    refine R_ev (ev_and rfl rfl) (g_tt g1_6 rfl) rfl ?_
    refine R_ev (ev_ne rfl rfl) (g_tt g1_6 rfl) rfl ?_
    refine R_ev (ev_pick_t' g1_6 rfl rfl) rfl rfl ?_
    exact R_joined rfl (sub_skip (sub_skip (sub_skip (sub_skip sub_refl rfl) rfl) rfl) rfl)
  case f1_6 =>
    refine R_skip (g_tf g1_6 rfl) rfl ?_
    refine R_skip (g_tf g1_6 rfl) rfl ?_
    refine R_skip (g_tf g1_6 rfl) rfl ?_
    refine R_ev (ev_pick_f' g1_6 rfl rfl) rfl rfl ?_
    exact R_joined rfl (sub_skip (sub_skip (sub_skip (sub_skip sub_refl rfl) rfl) rfl) rfl)
  refine R_ev (ev_assign rfl) rfl rfl ?_
  refine R_nil ?_
  refine nxt_n ?_
  refine W_ret ?_
  exact end1 rfl rfl ⟨rfl, rfl⟩
theorem has_nil (n : Int) (w : World) : Calls Try.prog 18 #[.pointer none, .int .i64 n] w fun e w' => e = .returned (.bool false) ∧ w = w' := by
  refine calls_E Try.func18 rfl rfl ?_
  simp only [envOf]
  refine W_seq ?_
  refine W_region ?_
  refine R_ev (ev_assign rfl) rfl rfl ?_
  refine R_nil ?_
  refine nxt_n ?_
  refine W_seq ?_
  refine W_region ?_
  refine R_ev (ev_move rfl) rfl rfl ?_
  refine R_ev (ev_nil_ne rfl Try.underlying24) rfl rfl ?_
  refine R_ev (ev_move rfl) rfl rfl ?_
  refine R_skip rfl rfl ?_
  refine R_skip rfl rfl ?_
  refine R_ev (ev_pick rfl rfl rfl) rfl rfl ?_
  refine R_ev (ev_move rfl) rfl rfl ?_
  refine R_skip rfl rfl ?_
  refine R_skip rfl rfl ?_
  refine R_skip rfl rfl ?_
  refine R_skip rfl rfl ?_
  refine R_skip rfl rfl ?_
  refine R_skip rfl rfl ?_
  refine R_skip rfl rfl ?_
  refine R_ev (ev_pick rfl rfl rfl) rfl rfl ?_
  refine R_ev (ev_assign rfl) rfl rfl ?_
  refine R_nil ?_
  refine nxt_n ?_
  refine W_ret ?_
  exact end1 rfl rfl ⟨rfl, rfl⟩
theorem has_any {p b m : Nat} {T : List ShD} (n : Int) (w : World) (hT : Tab w p b m T) : Calls Try.prog 18 #[.pointer (some ⟨p, 0, none⟩), .int .i64 n] w fun e w' => e = .returned (.bool (decide (0 ≤ n) && decide (n < T.length))) ∧ w = w' := by
  obtain ⟨cap, hc1, hc2, hP⟩ := hT.row
  refine calls_E Try.func18 rfl rfl ?_
  simp only [envOf]
  refine W_seq ?_
  refine W_region ?_
  refine R_ev (ev_assign rfl) rfl rfl ?_
  refine R_nil ?_
  refine nxt_n ?_
  refine W_seq ?_
  refine W_region ?_
  refine R_ev (ev_move rfl) rfl rfl ?_
  refine R_ev (ev_nil_ne rfl Try.underlying24) rfl rfl ?_
  refine R_ev (ev_move rfl) rfl rfl ?_
  refine R_ev (ev_move rfl) rfl rfl ?_
  refine R_ev (ev_ge rfl rfl) rfl rfl ?_
  refine R_ev (ev_pick rfl rfl rfl) rfl rfl ?_
  refine R_ev (ev_move rfl) rfl rfl ?_
  apply R_and 8 19 11 rfl (fun g1_6 => ?t1_6) (fun g1_6 => ?f1_6) ?k1_6
  case t1_6 =>
    refine R_ev (ev_move rfl) (g_tt g1_6 rfl) rfl ?_
    refine R_ev (ev_move rfl) (g_tt g1_6 rfl) rfl ?_
    refine R_ev (ev_nilCheck rfl) (g_tt g1_6 rfl) rfl ?_
    refine R_ev (ev_fa0 rfl fa_54_0) (g_tt g1_6 rfl) rfl ?_
    refine R_ev (ev_load1 rfl one35 (here (hP.at rfl))) (g_tt g1_6 rfl) rfl ?_
    refine R_ev (ev_len rfl Try.underlying35) (g_tt g1_6 rfl) rfl ?_
    refine R_ev (ev_lt rfl rfl) (g_tt g1_6 rfl) rfl ?_
    refine R_ev (ev_pick_t' g1_6 rfl rfl) rfl rfl ?_
    exact R_joined rfl (sub_skip (sub_skip (sub_skip (sub_skip (sub_skip (sub_skip (sub_skip (sub_skip sub_refl rfl) rfl) rfl) rfl) rfl) rfl) rfl) rfl)
  case f1_6 =>
    refine R_skip (g_tf g1_6 rfl) rfl ?_
    refine R_skip (g_tf g1_6 rfl) rfl ?_
    refine R_skip (g_tf g1_6 rfl) rfl ?_
    refine R_skip (g_tf g1_6 rfl) rfl ?_
    refine R_skip (g_tf g1_6 rfl) rfl ?_
    refine R_skip (g_tf g1_6 rfl) rfl ?_
    refine R_skip (g_tf g1_6 rfl) rfl ?_
    refine R_ev (ev_pick_f' g1_6 rfl rfl) rfl rfl ?_
    exact R_joined rfl (sub_skip (sub_skip (sub_skip (sub_skip (sub_skip (sub_skip (sub_skip (sub_skip sub_refl rfl) rfl) rfl) rfl) rfl) rfl) rfl) rfl)
  refine R_ev (ev_assign rfl) rfl rfl ?_
  refine R_nil ?_
  refine nxt_n ?_
  refine W_ret ?_
  exact end1 rfl rfl ⟨rfl, rfl⟩
theorem count_nil (w : World) : Calls Try.prog 9 #[.pointer none] w fun e w' => e = .returned (.int .i64 0) ∧ w = w' := by
  refine calls_E Try.func9 rfl rfl ?_
  simp only [envOf]
  refine W_seq ?_
  refine W_region ?_
  refine R_ev (ev_assign rfl) rfl rfl ?_
  refine R_nil ?_
  refine nxt_n ?_
  refine W_seq ?_
  refine W_seq ?_
  refine W_region ?_
  refine R_ev (ev_move rfl) rfl rfl ?_
  refine R_ev (ev_nil_eq rfl Try.underlying24) rfl rfl ?_
  refine R_nil ?_
  refine nxt_n ?_
  refine W_cond_t rfl ?_
  refine W_seq ?_
  refine W_region ?_
  refine R_ev (ev_assign rfl) rfl rfl ?_
  refine R_nil ?_
  refine nxt_n ?_
  refine W_ret ?_
  refine nxt_r ?_
  exact end1 rfl rfl ⟨rfl, rfl⟩
theorem count_any {p b m : Nat} {T : List ShD} (w : World) (hT : Tab w p b m T) : Calls Try.prog 9 #[.pointer (some ⟨p, 0, none⟩)] w fun e w' => e = .returned (.int .i64 T.length) ∧ w = w' := by
  obtain ⟨cap, hc1, hc2, hP⟩ := hT.row
  refine calls_E Try.func9 rfl rfl ?_
  simp only [envOf]
  refine W_seq ?_
  refine W_region ?_
  refine R_ev (ev_assign rfl) rfl rfl ?_
  refine R_nil ?_
  refine nxt_n ?_
  refine W_seq ?_
  refine W_seq ?_
  refine W_region ?_
  refine R_ev (ev_move rfl) rfl rfl ?_
  refine R_ev (ev_nil_eq rfl Try.underlying24) rfl rfl ?_
  refine R_nil ?_
  refine nxt_n ?_
  refine W_cond_f rfl ?_
  refine W_skip ?_
  refine nxt_n ?_
  refine W_seq ?_
  refine W_region ?_
  refine R_ev (ev_move rfl) rfl rfl ?_
  refine R_ev (ev_nilCheck rfl) rfl rfl ?_
  refine R_ev (ev_fa0 rfl fa_54_0) rfl rfl ?_
  refine R_ev (ev_load1 rfl one35 (here (hP.at rfl))) rfl rfl ?_
  refine R_ev (ev_len rfl Try.underlying35) rfl rfl ?_
  refine R_ev (ev_assign rfl) rfl rfl ?_
  refine R_nil ?_
  refine nxt_n ?_
  refine W_ret ?_
  exact end1 rfl rfl ⟨rfl, rfl⟩
theorem at_nil (n : Int) (w : World) : Calls Try.prog 10 #[.pointer none, .int .i64 n] w fun e w' => e = .returned (.tuple #[.agg #[.int .i64 0, .int .i64 0, .int .i64 0, .string ⟨#[]⟩, .int .i64 0, .int .i64 0], .bool false]) ∧ Ext w w' := by
  refine calls_E Try.func10 rfl rfl ?_
  simp only [envOf]
  refine W_seq ?_
  refine W_region ?_
  refine A_alloc zero37 rfl rfl (fun w0_0 x0_0 b0_0 => ?_)
  refine R_ev (ev_assign rfl) rfl rfl ?_
  refine R_nil ?_
  refine nxt_n ?_
  refine W_seq ?_
  refine W_seq ?_
  refine W_region ?_
  refine R_ev (ev_move rfl) rfl rfl ?_
  refine R_ev (ev_move rfl) rfl rfl ?_
  refine R_call call18 rfl rfl rfl ?_
  refine (has_nil _ _).mono ?_
  rintro e w1_2 ⟨rfl, rfl⟩
  refine ⟨_, rfl, ?_⟩
  refine R_ev (ev_not rfl) rfl rfl ?_
  refine R_nil ?_
  refine nxt_n ?_
  refine W_cond_t rfl ?_
  refine W_seq ?_
  refine W_region ?_
  refine R_ev (ev_build rfl (bld_37_)) rfl rfl ?_
  refine A_storeRow rfl rfl b0_0 size37 rfl rfl rfl (fun w2_1 x2_1 b2_1 => ?_)
  have hE := x2_1.ext x0_0 (fun q e => e ▸ Nat.le_refl _)
  refine R_ev (ev_assign rfl) rfl rfl ?_
  refine R_nil ?_
  refine nxt_n ?_
  refine W_ret ?_
  refine nxt_r ?_
  exact endC2 rfl rfl (Blk.all b2_1) agg37 rfl ⟨rfl, hE⟩
theorem at_out {p b m : Nat} {T : List ShD} (n : Int) (w : World) (hT : Tab w p b m T) (hn : ¬ (0 ≤ n ∧ n < T.length)) : Calls Try.prog 10 #[.pointer (some ⟨p, 0, none⟩), .int .i64 n] w fun e w' => e = .returned (.tuple #[.agg #[.int .i64 0, .int .i64 0, .int .i64 0, .string ⟨#[]⟩, .int .i64 0, .int .i64 0], .bool false]) ∧ Ext w w' := by
  refine calls_E Try.func10 rfl rfl ?_
  simp only [envOf]
  refine W_seq ?_
  refine W_region ?_
  refine A_alloc zero37 rfl rfl (fun w0_0 x0_0 b0_0 => ?_)
  replace hT := hT.ext x0_0
  refine R_ev (ev_assign rfl) rfl rfl ?_
  refine R_nil ?_
  refine nxt_n ?_
  refine W_seq ?_
  refine W_seq ?_
  refine W_region ?_
  refine R_ev (ev_move rfl) rfl rfl ?_
  refine R_ev (ev_move rfl) rfl rfl ?_
  refine R_call call18 rfl rfl rfl ?_
  refine (has_any _ _ hT).mono ?_
  rintro e w1_2 ⟨rfl, rfl⟩
  refine ⟨_, rfl, ?_⟩
  refine R_ev (ev_not rfl) rfl rfl ?_
  refine R_nil ?_
  refine nxt_n ?_
  have hq : (decide (0 ≤ n) && decide (n < (T.length : Int))) = false := by rw [Bool.and_eq_false_iff, decide_eq_false_iff_not, decide_eq_false_iff_not]; omega
  rw [hq]
  refine W_cond_t rfl ?_
  refine W_seq ?_
  refine W_region ?_
  refine R_ev (ev_build rfl (bld_37_)) rfl rfl ?_
  refine A_storeRow rfl rfl b0_0 size37 rfl rfl rfl (fun w2_1 x2_1 b2_1 => ?_)
  have hE := x2_1.ext x0_0 (fun q e => e ▸ Nat.le_refl _)
  refine R_ev (ev_assign rfl) rfl rfl ?_
  refine R_nil ?_
  refine nxt_n ?_
  refine W_ret ?_
  refine nxt_r ?_
  exact endC2 rfl rfl (Blk.all b2_1) agg37 rfl ⟨rfl, hE⟩
theorem at_in {p b m : Nat} {T : List ShD} (n : Nat) (x : ShD) (w : World) (hT : Tab w p b m T) (hn : T[n]? = some x) : Calls Try.prog 10 #[.pointer (some ⟨p, 0, none⟩), .int .i64 n] w fun e w' => e = .returned (.tuple #[.agg (enS x).toArray, .bool true]) ∧ Ext w w' := by
  have hlt : n < T.length := (List.getElem?_eq_some_iff.1 hn).1
  obtain ⟨cap, hc1, hc2, hP⟩ := hT.row
  refine calls_E Try.func10 rfl rfl ?_
  simp only [envOf]
  refine W_seq ?_
  refine W_region ?_
  refine A_alloc zero37 rfl rfl (fun w0_0 x0_0 b0_0 => ?_)
  replace hT := hT.ext x0_0
  replace hP := hP.ext x0_0
  refine R_ev (ev_assign rfl) rfl rfl ?_
  refine R_nil ?_
  refine nxt_n ?_
  refine W_seq ?_
  refine W_seq ?_
  refine W_region ?_
  refine R_ev (ev_move rfl) rfl rfl ?_
  refine R_ev (ev_move rfl) rfl rfl ?_
  refine R_call call18 rfl rfl rfl ?_
  refine (has_any _ _ hT).mono ?_
  rintro e w1_2 ⟨rfl, rfl⟩
  refine ⟨_, rfl, ?_⟩
  refine R_ev (ev_not rfl) rfl rfl ?_
  refine R_nil ?_
  refine nxt_n ?_
  have hq : (decide (0 ≤ (n : Int)) && decide ((n : Int) < (T.length : Int))) = true := by rw [Bool.and_eq_true, decide_eq_true_eq, decide_eq_true_eq]; omega
  rw [hq]
  refine W_cond_f rfl ?_
  refine W_skip ?_
  refine nxt_n ?_
  refine W_seq ?_
  refine W_region ?_
  refine R_ev (ev_move rfl) rfl rfl ?_
  refine R_ev (ev_nilCheck rfl) rfl rfl ?_
  refine R_ev (ev_fa0 rfl fa_54_0) rfl rfl ?_
  refine R_ev (ev_load1 rfl one35 (here (hP.at rfl))) rfl rfl ?_
  refine R_ev (ev_move rfl) rfl rfl ?_
  refine R_ev (ev_idx rfl rfl Try.underlying35 size37 (by omega) (by omega)) rfl rfl ?_
  refine R_ev (ev_loadS rfl (here (hT.get hn)) agg37) rfl rfl ?_
  refine A_storeRow rfl rfl b0_0 size37 rfl rfl rfl (fun w3_7 x3_7 b3_7 => ?_)
  have hE := x3_7.ext x0_0 (fun q e => e ▸ Nat.le_refl _)
  refine R_ev (ev_assign rfl) rfl rfl ?_
  refine R_nil ?_
  refine nxt_n ?_
  refine W_ret ?_
  exact endC2 rfl rfl (Blk.all b3_7) agg37 rfl ⟨rfl, hE⟩
theorem len_nil (n : Int) (w : World) : Calls Try.prog 11 #[.pointer none, .int .i64 n] w fun e w' => e = .returned (.int .i64 0) ∧ Ext w w' := by
  refine calls_E Try.func11 rfl rfl ?_
  simp only [envOf]
  refine W_seq ?_
  refine W_region ?_
  refine R_ev (ev_assign rfl) rfl rfl ?_
  refine R_nil ?_
  refine nxt_n ?_
  refine W_seq ?_
  refine W_region ?_
  refine R_ev (ev_move rfl) rfl rfl ?_
  refine R_ev (ev_move rfl) rfl rfl ?_
  refine R_call call10 rfl rfl rfl ?_
  refine (at_nil _ _).mono ?_
  rintro e w1_2 ⟨rfl, x1_2⟩
  refine ⟨_, rfl, ?_⟩
  refine R_ev (ev_move rfl) rfl rfl ?_
  refine R_ev (ev_extract rfl rfl) rfl rfl ?_
  refine R_ev (ev_extract rfl rfl) rfl rfl ?_
  refine A_alloc zero37 rfl rfl (fun w1_6 x1_6 b1_6 => ?_)
  refine A_storeRow rfl rfl b1_6 size37 rfl rfl rfl (fun w1_7 x1_7 b1_7 => ?_)
  have hE := x1_7.ext (x1_2.trans x1_6) (fun q e => e ▸ x1_2.size)
  refine R_ev (ev_assign rfl) rfl rfl ?_
  refine R_nil ?_
  refine nxt_n ?_
  refine W_seq ?_
  refine W_region ?_
  refine R_ev (ev_fa rfl fa_37_3) rfl rfl ?_
  refine R_ev (ev_load1 rfl one3 (here (b1_7.at rfl))) rfl rfl ?_
  refine R_ev (ev_assign rfl) rfl rfl ?_
  refine R_nil ?_
  refine nxt_n ?_
  refine W_ret ?_
  exact end1 rfl rfl ⟨rfl, hE⟩
theorem len_out {p b m : Nat} {T : List ShD} (n : Int) (w : World) (hT : Tab w p b m T) (hn : ¬ (0 ≤ n ∧ n < T.length)) : Calls Try.prog 11 #[.pointer (some ⟨p, 0, none⟩), .int .i64 n] w fun e w' => e = .returned (.int .i64 0) ∧ Ext w w' := by
  refine calls_E Try.func11 rfl rfl ?_
  simp only [envOf]
  refine W_seq ?_
  refine W_region ?_
  refine R_ev (ev_assign rfl) rfl rfl ?_
  refine R_nil ?_
  refine nxt_n ?_
  refine W_seq ?_
  refine W_region ?_
  refine R_ev (ev_move rfl) rfl rfl ?_
  refine R_ev (ev_move rfl) rfl rfl ?_
  refine R_call call10 rfl rfl rfl ?_
  refine (at_out _ _ hT hn).mono ?_
  rintro e w1_2 ⟨rfl, x1_2⟩
  refine ⟨_, rfl, ?_⟩
  refine R_ev (ev_move rfl) rfl rfl ?_
  refine R_ev (ev_extract rfl rfl) rfl rfl ?_
  refine R_ev (ev_extract rfl rfl) rfl rfl ?_
  refine A_alloc zero37 rfl rfl (fun w1_6 x1_6 b1_6 => ?_)
  refine A_storeRow rfl rfl b1_6 size37 rfl rfl rfl (fun w1_7 x1_7 b1_7 => ?_)
  have hE := x1_7.ext (x1_2.trans x1_6) (fun q e => e ▸ x1_2.size)
  refine R_ev (ev_assign rfl) rfl rfl ?_
  refine R_nil ?_
  refine nxt_n ?_
  refine W_seq ?_
  refine W_region ?_
  refine R_ev (ev_fa rfl fa_37_3) rfl rfl ?_
  refine R_ev (ev_load1 rfl one3 (here (b1_7.at rfl))) rfl rfl ?_
  refine R_ev (ev_assign rfl) rfl rfl ?_
  refine R_nil ?_
  refine nxt_n ?_
  refine W_ret ?_
  exact end1 rfl rfl ⟨rfl, hE⟩
theorem len_in {p b m : Nat} {T : List ShD} (n : Nat) (x : ShD) (w : World) (hT : Tab w p b m T) (hn : T[n]? = some x) : Calls Try.prog 11 #[.pointer (some ⟨p, 0, none⟩), .int .i64 n] w fun e w' => e = .returned (.int .i64 x.len) ∧ Ext w w' := by
  refine calls_E Try.func11 rfl rfl ?_
  simp only [envOf]
  refine W_seq ?_
  refine W_region ?_
  refine R_ev (ev_assign rfl) rfl rfl ?_
  refine R_nil ?_
  refine nxt_n ?_
  refine W_seq ?_
  refine W_region ?_
  refine R_ev (ev_move rfl) rfl rfl ?_
  refine R_ev (ev_move rfl) rfl rfl ?_
  refine R_call call10 rfl rfl rfl ?_
  refine (at_in _ x _ hT hn).mono ?_
  rintro e w1_2 ⟨rfl, x1_2⟩
  refine ⟨_, rfl, ?_⟩
  refine R_ev (ev_move rfl) rfl rfl ?_
  refine R_ev (ev_extract rfl rfl) rfl rfl ?_
  refine R_ev (ev_extract rfl rfl) rfl rfl ?_
  refine A_alloc zero37 rfl rfl (fun w1_6 x1_6 b1_6 => ?_)
  refine A_storeRow rfl rfl b1_6 size37 rfl rfl rfl (fun w1_7 x1_7 b1_7 => ?_)
  have hE := x1_7.ext (x1_2.trans x1_6) (fun q e => e ▸ x1_2.size)
  refine R_ev (ev_assign rfl) rfl rfl ?_
  refine R_nil ?_
  refine nxt_n ?_
  refine W_seq ?_
  refine W_region ?_
  refine R_ev (ev_fa rfl fa_37_3) rfl rfl ?_
  refine R_ev (ev_load1 rfl one3 (here (b1_7.at rfl))) rfl rfl ?_
  refine R_ev (ev_assign rfl) rfl rfl ?_
  refine R_nil ?_
  refine nxt_n ?_
  refine W_ret ?_
  exact end1 rfl rfl ⟨rfl, hE⟩
end Go.Proofs.Ytmiecljgcbfklaa

