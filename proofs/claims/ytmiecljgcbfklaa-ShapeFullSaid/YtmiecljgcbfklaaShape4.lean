/- Shapes: asked, before, Find (walks printed by shape4.py). -/
import Derived.Test.YtmiecljgcbfklaaShape3
namespace Go.Proofs.Ytmiecljgcbfklaa
open Go.RowKit
theorem asked_nil (n : Int) (k : V3) (a : Int) (w : World) : Calls Try.prog 19 #[.pointer none, .int .i64 n, .agg (en3 k).toArray, .int .i64 a] w fun e w' => e = .returned (.int .i64 1) ∧ Ext w w' := by
  refine calls_E Try.func19 rfl rfl ?_
  simp only [envOf]
  refine W_seq ?_
  refine W_region ?_
  refine A_box rfl rfl rfl (fun w0_0 x0_0 b0_0 => ?_)
  refine R_ev (ev_assign rfl) rfl rfl ?_
  refine R_nil ?_
  refine nxt_n ?_
  refine W_seq ?_
  refine W_block ?_
  refine W_seq ?_
  refine W_region ?_
  refine R_ev (ev_move rfl) rfl rfl ?_
  refine R_ev (ev_nil_eq rfl Try.underlying24) rfl rfl ?_
  refine R_ev (ev_assign rfl) rfl rfl ?_
  refine R_nil ?_
  refine nxt_n ?_
  refine W_cond_t rfl ?_
  refine W_seq ?_
  refine W_region ?_
  refine R_ev (ev_assign rfl) rfl rfl ?_
  refine R_nil ?_
  refine nxt_n ?_
  refine W_ret ?_
  refine blk_r ?_
  refine nxt_r ?_
  exact end1 rfl rfl ⟨rfl, x0_0⟩
theorem asked_out {p b m : Nat} {T : List ShD} (n : Int) (k : V3) (a : Int) (w : World) (hT : Tab w p b m T) (hi : inT T n = false) : Calls Try.prog 19 #[.pointer (some ⟨p, 0, none⟩), .int .i64 n, .agg (en3 k).toArray, .int .i64 a] w fun e w' => e = .returned (.int .i64 2) ∧ Ext w w' := by
  unfold inT at hi
  refine calls_E Try.func19 rfl rfl ?_
  simp only [envOf]
  refine W_seq ?_
  refine W_region ?_
  refine A_box rfl rfl rfl (fun w0_0 x0_0 b0_0 => ?_)
  have hK : Blk w0_0 w.heap.size 31 (en3 k).toArray := b0_0
  replace hT := hT.ext x0_0
  refine R_ev (ev_assign rfl) rfl rfl ?_
  refine R_nil ?_
  refine nxt_n ?_
  refine W_seq ?_
  refine W_block ?_
  refine W_seq ?_
  refine W_region ?_
  refine R_ev (ev_move rfl) rfl rfl ?_
  refine R_ev (ev_nil_eq rfl Try.underlying24) rfl rfl ?_
  refine R_ev (ev_assign rfl) rfl rfl ?_
  refine R_nil ?_
  refine nxt_n ?_
  refine W_cond_f rfl ?_
  refine W_seq ?_
  refine W_region ?_
  refine R_ev (ev_move rfl) rfl rfl ?_
  refine R_ev (ev_move rfl) rfl rfl ?_
  refine R_call call18 rfl rfl rfl ?_
  refine (has_any _ _ hT).mono ?_
  rintro e w3_2 ⟨rfl, rfl⟩
  refine ⟨_, rfl, ?_⟩
  rw [hi]
  refine R_ev (ev_not rfl) rfl rfl ?_
  refine R_ev (ev_assign rfl) rfl rfl ?_
  refine R_nil ?_
  refine nxt_n ?_
  refine W_cond_t rfl ?_
  refine W_seq ?_
  refine W_region ?_
  refine R_ev (ev_assign rfl) rfl rfl ?_
  refine R_nil ?_
  refine nxt_n ?_
  refine W_ret ?_
  refine blk_r ?_
  refine nxt_r ?_
  exact end1 rfl rfl ⟨rfl, x0_0⟩
theorem asked_key {p b m : Nat} {T : List ShD} (n : Int) (k : V3) (a : Int) (w : World) (hT : Tab w p b m T) (hi : inT T n = true) (hk : keyB k = false) : Calls Try.prog 19 #[.pointer (some ⟨p, 0, none⟩), .int .i64 n, .agg (en3 k).toArray, .int .i64 a] w fun e w' => e = .returned (.int .i64 1) ∧ Ext w w' := by
  unfold inT at hi
  refine calls_E Try.func19 rfl rfl ?_
  simp only [envOf]
  refine W_seq ?_
  refine W_region ?_
  refine A_box rfl rfl rfl (fun w0_0 x0_0 b0_0 => ?_)
  have hK : Blk w0_0 w.heap.size 31 (en3 k).toArray := b0_0
  replace hT := hT.ext x0_0
  refine R_ev (ev_assign rfl) rfl rfl ?_
  refine R_nil ?_
  refine nxt_n ?_
  refine W_seq ?_
  refine W_block ?_
  refine W_seq ?_
  refine W_region ?_
  refine R_ev (ev_move rfl) rfl rfl ?_
  refine R_ev (ev_nil_eq rfl Try.underlying24) rfl rfl ?_
  refine R_ev (ev_assign rfl) rfl rfl ?_
  refine R_nil ?_
  refine nxt_n ?_
  refine W_cond_f rfl ?_
  refine W_seq ?_
  refine W_region ?_
  refine R_ev (ev_move rfl) rfl rfl ?_
  refine R_ev (ev_move rfl) rfl rfl ?_
  refine R_call call18 rfl rfl rfl ?_
  refine (has_any _ _ hT).mono ?_
  rintro e w3_2 ⟨rfl, rfl⟩
  refine ⟨_, rfl, ?_⟩
  rw [hi]
  refine R_ev (ev_not rfl) rfl rfl ?_
  refine R_ev (ev_assign rfl) rfl rfl ?_
  refine R_nil ?_
  refine nxt_n ?_
  refine W_cond_f rfl ?_
  refine W_seq ?_
  refine W_region ?_
  refine R_ev (ev_loadS rfl (here (hK.all)) agg31) rfl rfl ?_
  refine R_call call23 rfl rfl rfl ?_
  refine (keyRight_any k _).mono ?_
  rintro e w5_1 ⟨rfl, x5_1⟩
  refine ⟨_, rfl, ?_⟩
  rw [hk]
  refine R_ev (ev_not rfl) rfl rfl ?_
  refine R_ev (ev_move rfl) rfl rfl ?_
  refine R_skip rfl rfl ?_
  refine R_skip rfl rfl ?_
  refine R_skip rfl rfl ?_
  refine R_ev (ev_pick rfl rfl rfl) rfl rfl ?_
  refine R_ev (ev_assign rfl) rfl rfl ?_
  refine R_nil ?_
  refine nxt_n ?_
  refine W_cond_t rfl ?_
  refine W_seq ?_
  refine W_region ?_
  refine R_ev (ev_assign rfl) rfl rfl ?_
  refine R_nil ?_
  refine nxt_n ?_
  refine W_ret ?_
  refine blk_r ?_
  refine nxt_r ?_
  exact end1 rfl rfl ⟨rfl, x0_0.trans x5_1⟩
theorem asked_may {p b m : Nat} {T : List ShD} (n : Int) (k : V3) (a : Int) (w : World) (hT : Tab w p b m T) (hi : inT T n = true) (hk : keyB k = true) (hm : mayB a = false) : Calls Try.prog 19 #[.pointer (some ⟨p, 0, none⟩), .int .i64 n, .agg (en3 k).toArray, .int .i64 a] w fun e w' => e = .returned (.int .i64 1) ∧ Ext w w' := by
  unfold inT at hi
  refine calls_E Try.func19 rfl rfl ?_
  simp only [envOf]
  refine W_seq ?_
  refine W_region ?_
  refine A_box rfl rfl rfl (fun w0_0 x0_0 b0_0 => ?_)
  have hK : Blk w0_0 w.heap.size 31 (en3 k).toArray := b0_0
  replace hT := hT.ext x0_0
  refine R_ev (ev_assign rfl) rfl rfl ?_
  refine R_nil ?_
  refine nxt_n ?_
  refine W_seq ?_
  refine W_block ?_
  refine W_seq ?_
  refine W_region ?_
  refine R_ev (ev_move rfl) rfl rfl ?_
  refine R_ev (ev_nil_eq rfl Try.underlying24) rfl rfl ?_
  refine R_ev (ev_assign rfl) rfl rfl ?_
  refine R_nil ?_
  refine nxt_n ?_
  refine W_cond_f rfl ?_
  refine W_seq ?_
  refine W_region ?_
  refine R_ev (ev_move rfl) rfl rfl ?_
  refine R_ev (ev_move rfl) rfl rfl ?_
  refine R_call call18 rfl rfl rfl ?_
  refine (has_any _ _ hT).mono ?_
  rintro e w3_2 ⟨rfl, rfl⟩
  refine ⟨_, rfl, ?_⟩
  rw [hi]
  refine R_ev (ev_not rfl) rfl rfl ?_
  refine R_ev (ev_assign rfl) rfl rfl ?_
  refine R_nil ?_
  refine nxt_n ?_
  refine W_cond_f rfl ?_
  refine W_seq ?_
  refine W_region ?_
  refine R_ev (ev_loadS rfl (here (hK.all)) agg31) rfl rfl ?_
  refine R_call call23 rfl rfl rfl ?_
  refine (keyRight_any k _).mono ?_
  rintro e w5_1 ⟨rfl, x5_1⟩
  refine ⟨_, rfl, ?_⟩
  rw [hk]
  refine R_ev (ev_not rfl) rfl rfl ?_
  refine R_ev (ev_move rfl) rfl rfl ?_
  refine R_ev (ev_move rfl) rfl rfl ?_
  refine R_call call24 rfl rfl rfl ?_
  refine (may_any _ _).mono ?_
  rintro e w5_5 ⟨rfl, rfl⟩
  refine ⟨_, rfl, ?_⟩
  rw [hm]
  refine R_ev (ev_not rfl) rfl rfl ?_
  refine R_ev (ev_pick rfl rfl rfl) rfl rfl ?_
  refine R_ev (ev_assign rfl) rfl rfl ?_
  refine R_nil ?_
  refine nxt_n ?_
  refine W_cond_t rfl ?_
  refine W_seq ?_
  refine W_region ?_
  refine R_ev (ev_assign rfl) rfl rfl ?_
  refine R_nil ?_
  refine nxt_n ?_
  refine W_ret ?_
  refine blk_r ?_
  refine nxt_r ?_
  exact end1 rfl rfl ⟨rfl, x0_0.trans x5_1⟩
theorem asked_ok {p b m : Nat} {T : List ShD} (n : Int) (k : V3) (a : Int) (w : World) (hT : Tab w p b m T) (hi : inT T n = true) (hk : keyB k = true) (hm : mayB a = true) : Calls Try.prog 19 #[.pointer (some ⟨p, 0, none⟩), .int .i64 n, .agg (en3 k).toArray, .int .i64 a] w fun e w' => e = .returned (.int .i64 0) ∧ Ext w w' := by
  unfold inT at hi
  refine calls_E Try.func19 rfl rfl ?_
  simp only [envOf]
  refine W_seq ?_
  refine W_region ?_
  refine A_box rfl rfl rfl (fun w0_0 x0_0 b0_0 => ?_)
  have hK : Blk w0_0 w.heap.size 31 (en3 k).toArray := b0_0
  replace hT := hT.ext x0_0
  refine R_ev (ev_assign rfl) rfl rfl ?_
  refine R_nil ?_
  refine nxt_n ?_
  refine W_seq ?_
  refine W_block ?_
  refine W_seq ?_
  refine W_region ?_
  refine R_ev (ev_move rfl) rfl rfl ?_
  refine R_ev (ev_nil_eq rfl Try.underlying24) rfl rfl ?_
  refine R_ev (ev_assign rfl) rfl rfl ?_
  refine R_nil ?_
  refine nxt_n ?_
  refine W_cond_f rfl ?_
  refine W_seq ?_
  refine W_region ?_
  refine R_ev (ev_move rfl) rfl rfl ?_
  refine R_ev (ev_move rfl) rfl rfl ?_
  refine R_call call18 rfl rfl rfl ?_
  refine (has_any _ _ hT).mono ?_
  rintro e w3_2 ⟨rfl, rfl⟩
  refine ⟨_, rfl, ?_⟩
  rw [hi]
  refine R_ev (ev_not rfl) rfl rfl ?_
  refine R_ev (ev_assign rfl) rfl rfl ?_
  refine R_nil ?_
  refine nxt_n ?_
  refine W_cond_f rfl ?_
  refine W_seq ?_
  refine W_region ?_
  refine R_ev (ev_loadS rfl (here (hK.all)) agg31) rfl rfl ?_
  refine R_call call23 rfl rfl rfl ?_
  refine (keyRight_any k _).mono ?_
  rintro e w5_1 ⟨rfl, x5_1⟩
  refine ⟨_, rfl, ?_⟩
  rw [hk]
  refine R_ev (ev_not rfl) rfl rfl ?_
  refine R_ev (ev_move rfl) rfl rfl ?_
  refine R_ev (ev_move rfl) rfl rfl ?_
  refine R_call call24 rfl rfl rfl ?_
  refine (may_any _ _).mono ?_
  rintro e w5_5 ⟨rfl, rfl⟩
  refine ⟨_, rfl, ?_⟩
  rw [hm]
  refine R_ev (ev_not rfl) rfl rfl ?_
  refine R_ev (ev_pick rfl rfl rfl) rfl rfl ?_
  refine R_ev (ev_assign rfl) rfl rfl ?_
  refine R_nil ?_
  refine nxt_n ?_
  refine W_cond_f rfl ?_
  refine W_skip ?_
  refine blk_n ?_
  refine nxt_n ?_
  refine W_seq ?_
  refine W_region ?_
  refine R_ev (ev_assign rfl) rfl rfl ?_
  refine R_nil ?_
  refine nxt_n ?_
  refine W_ret ?_
  exact end1 rfl rfl ⟨rfl, x0_0.trans x5_1⟩
theorem asked_any {p b m : Nat} {T : List ShD} (n : Int) (k : V3) (a : Int) (w : World) (hT : Tab w p b m T) : Calls Try.prog 19 #[.pointer (some ⟨p, 0, none⟩), .int .i64 n, .agg (en3 k).toArray, .int .i64 a] w fun e w' => e = .returned (.int .i64 (askedE T n k a)) ∧ Ext w w' := by
  unfold askedE
  cases hi : inT T n with
  | false => exact asked_out n k a w hT hi
  | true =>
    cases hk : keyB k with
    | false => exact asked_key n k a w hT hi hk
    | true =>
      cases hm : mayB a with
      | false => exact asked_may n k a w hT hi hk hm
      | true => exact asked_ok n k a w hT hi hk hm
theorem before_any {p b m : Nat} {T : List ShD} (n : Int) (i0 : Nat) (x0 : ShD) (w : World) (hT : Tab w p b m T) (hw : WF T) (hn : 0 ≤ n) (h0 : T[i0]? = some x0) : Calls Try.prog 21 #[.pointer (some ⟨p, 0, none⟩), .int .i64 i0, .int .i64 n] w fun e w' => e = .returned (.int .i64 (beforeL T n i0)) ∧ w = w' := by
  obtain ⟨cap, hc1, hc2, hP⟩ := hT.row
  refine calls_E Try.func21 rfl rfl ?_
  simp only [envOf]
  refine W_seq ?_
  refine W_region ?_
  refine R_ev (ev_assign rfl) rfl rfl ?_
  refine R_nil ?_
  refine nxt_n ?_
  refine W_seq ?_
  refine W_block ?_
  refine W_loop (ι := Nat) (fun i => [(0, .pointer (some ⟨p, 0, none⟩)), (1, .int .i64 i), (2, .int .i64 n)]) (fun i => fun w' => w = w' ∧ (∃ x, T[i]? = some x) ∧ beforeL T n i = beforeL T n i0) (fun i => i) i0 (sub_cons rfl (sub_cons rfl (sub_cons rfl sub_nil))) ?_ ?_
  · exact ⟨rfl, ⟨x0, h0⟩, rfl⟩
  rintro i wi ⟨rfl, ⟨x, hx⟩, hb⟩ 
  have hlt : i < T.length := (List.getElem?_eq_some_iff.1 hx).1
  refine W_seq ?_
  refine W_seq ?_
  refine W_region ?_
  refine R_ev (ev_move rfl) rfl rfl ?_
  refine R_ev (ev_nilCheck rfl) rfl rfl ?_
  refine R_ev (ev_fa0 rfl fa_54_0) rfl rfl ?_
  refine R_ev (ev_load1 rfl one35 (here (hP.at rfl))) rfl rfl ?_
  refine R_ev (ev_move rfl) rfl rfl ?_
  refine R_ev (ev_idx rfl rfl Try.underlying35 size37 (by omega) (by omega)) rfl rfl ?_
  refine R_ev (ev_fa rfl fa_37_3) rfl rfl ?_
  refine R_ev (ev_load1 rfl one3 (here (shLen (hT.get hx)))) rfl rfl ?_
  refine R_ev (ev_move rfl) rfl rfl ?_
  refine R_ev (ev_gt rfl rfl) rfl rfl ?_
  refine R_nil ?_
  refine nxt_n ?_
  refine W_cond rfl (fun c0 => ?_) (fun c0 => ?_)
  · replace c0 := of_decide_eq_true c0
    have hl := hw.len i x hx
    have hpos : 0 < i := by omega
    obtain ⟨u, y, hu, hlu, hy, hly⟩ := hw.up i x hx hpos
    refine W_skip ?_
    refine nxt_n ?_
    refine W_block ?_
    refine W_region ?_
    refine R_ev (ev_move rfl) rfl rfl ?_
    refine R_ev (ev_nilCheck rfl) rfl rfl ?_
    refine R_ev (ev_fa0 rfl fa_54_0) rfl rfl ?_
    refine R_ev (ev_load1 rfl one35 (here (hP.at rfl))) rfl rfl ?_
    refine R_ev (ev_move rfl) rfl rfl ?_
    refine R_ev (ev_idx rfl rfl Try.underlying35 size37 (by omega) (by omega)) rfl rfl ?_
    refine R_ev (ev_fa0 rfl fa_37_0) rfl rfl ?_
    refine R_ev (ev_load1 rfl one3 (here (shUp (hT.get hx)))) rfl rfl ?_
    refine R_ev (ev_assign rfl) rfl rfl ?_
    refine R_nil ?_
    refine blk_n ?_
    refine nxt_n ?_
    exact ⟨u, sub_cons rfl (sub_cons (congrArg (fun z => some (Value.int .i64 z)) hu) (sub_cons rfl sub_nil)), ⟨rfl, ⟨y, hy⟩, by rw [← hb, before_up hx c0 hu hlu]⟩, hlu⟩
  · replace c0 := of_decide_eq_false c0
    refine W_exit ?_
    refine nxt_e ?_
    refine nxt_e ?_
    refine blk_x ?_
    refine nxt_n ?_
    refine W_seq ?_
    refine W_region ?_
    refine R_ev (ev_move rfl) rfl rfl ?_
    refine R_ev (ev_assign rfl) rfl rfl ?_
    refine R_nil ?_
    refine nxt_n ?_
    refine W_ret ?_
    exact end1 rfl rfl ⟨by rw [← hb, before_here hx c0], rfl⟩
theorem find_nil (n : Int) (k : V3) (w : World) : Calls Try.prog 15 #[.pointer none, .int .i64 n, .agg (en3 k).toArray] w fun e w' => e = .returned (.tuple (foundT none)) ∧ Ext w w' := by
  refine calls_E Try.func15 rfl rfl ?_
  simp only [envOf]
  refine W_seq ?_
  refine W_region ?_
  refine A_box rfl rfl rfl (fun w0_0 x0_0 b0_0 => ?_)
  refine R_ev (ev_assign rfl) rfl rfl ?_
  refine R_ev (ev_assign rfl) rfl rfl ?_
  refine R_ev (ev_assign rfl) rfl rfl ?_
  refine R_nil ?_
  refine nxt_n ?_
  refine W_seq ?_
  refine W_seq ?_
  refine W_region ?_
  refine R_ev (ev_move rfl) rfl rfl ?_
  refine R_ev (ev_move rfl) rfl rfl ?_
  refine R_call call18 rfl rfl rfl ?_
  refine (has_nil _ _).mono ?_
  rintro e w1_2 ⟨rfl, rfl⟩
  refine ⟨_, rfl, ?_⟩
  refine R_ev (ev_not rfl) rfl rfl ?_
  refine R_nil ?_
  refine nxt_n ?_
  refine W_cond_t rfl ?_
  refine W_seq ?_
  refine W_region ?_
  refine R_ev (ev_assign rfl) rfl rfl ?_
  refine R_ev (ev_assign rfl) rfl rfl ?_
  refine R_ev (ev_assign rfl) rfl rfl ?_
  refine R_nil ?_
  refine nxt_n ?_
  refine W_ret ?_
  refine nxt_r ?_
  exact end3 rfl rfl rfl rfl ⟨rfl, x0_0⟩
theorem find_out {p b m : Nat} {T : List ShD} (n : Int) (k : V3) (w : World) (hT : Tab w p b m T) (hi : inT T n = false) : Calls Try.prog 15 #[.pointer (some ⟨p, 0, none⟩), .int .i64 n, .agg (en3 k).toArray] w fun e w' => e = .returned (.tuple (foundT none)) ∧ Ext w w' := by
  unfold inT at hi
  refine calls_E Try.func15 rfl rfl ?_
  simp only [envOf]
  refine W_seq ?_
  refine W_region ?_
  refine A_box rfl rfl rfl (fun w0_0 x0_0 b0_0 => ?_)
  replace hT := hT.ext x0_0
  refine R_ev (ev_assign rfl) rfl rfl ?_
  refine R_ev (ev_assign rfl) rfl rfl ?_
  refine R_ev (ev_assign rfl) rfl rfl ?_
  refine R_nil ?_
  refine nxt_n ?_
  refine W_seq ?_
  refine W_seq ?_
  refine W_region ?_
  refine R_ev (ev_move rfl) rfl rfl ?_
  refine R_ev (ev_move rfl) rfl rfl ?_
  refine R_call call18 rfl rfl rfl ?_
  refine (has_any _ _ hT).mono ?_
  rintro e w1_2 ⟨rfl, rfl⟩
  refine ⟨_, rfl, ?_⟩
  rw [hi]
  refine R_ev (ev_not rfl) rfl rfl ?_
  refine R_nil ?_
  refine nxt_n ?_
  refine W_cond_t rfl ?_
  refine W_seq ?_
  refine W_region ?_
  refine R_ev (ev_assign rfl) rfl rfl ?_
  refine R_ev (ev_assign rfl) rfl rfl ?_
  refine R_ev (ev_assign rfl) rfl rfl ?_
  refine R_nil ?_
  refine nxt_n ?_
  refine W_ret ?_
  refine nxt_r ?_
  exact end3 rfl rfl rfl rfl ⟨rfl, x0_0⟩
theorem find_in {p b m : Nat} {T : List ShD} (i0 : Nat) (x0 : ShD) (k : V3) (w : World) (hT : Tab w p b m T) (hw : WF T) (h0 : T[i0]? = some x0) : Calls Try.prog 15 #[.pointer (some ⟨p, 0, none⟩), .int .i64 i0, .agg (en3 k).toArray] w fun e w' => e = .returned (.tuple (foundT (findL T k i0))) ∧ Ext w w' := by
  have hi := inT_of h0
  unfold inT at hi
  have hlt0 : i0 < T.length := (List.getElem?_eq_some_iff.1 h0).1
  obtain ⟨cap, hc1, hc2, hP⟩ := hT.row
  refine calls_E Try.func15 rfl rfl ?_
  simp only [envOf]
  refine W_seq ?_
  refine W_region ?_
  refine A_box rfl rfl rfl (fun w0_0 x0_0 b0_0 => ?_)
  have hK : Blk w0_0 w.heap.size 31 (en3 k).toArray := b0_0
  replace hT := hT.ext x0_0
  replace hP := hP.ext x0_0
  refine R_ev (ev_assign rfl) rfl rfl ?_
  refine R_ev (ev_assign rfl) rfl rfl ?_
  refine R_ev (ev_assign rfl) rfl rfl ?_
  refine R_nil ?_
  refine nxt_n ?_
  refine W_seq ?_
  refine W_seq ?_
  refine W_region ?_
  refine R_ev (ev_move rfl) rfl rfl ?_
  refine R_ev (ev_move rfl) rfl rfl ?_
  refine R_call call18 rfl rfl rfl ?_
  refine (has_any _ _ hT).mono ?_
  rintro e w1_2 ⟨rfl, rfl⟩
  refine ⟨_, rfl, ?_⟩
  rw [hi]
  refine R_ev (ev_not rfl) rfl rfl ?_
  refine R_nil ?_
  refine nxt_n ?_
  refine W_cond_f rfl ?_
  refine W_skip ?_
  refine nxt_n ?_
  refine W_seq ?_
  refine W_seq ?_
  refine W_region ?_
  refine R_ev (ev_move rfl) rfl rfl ?_
  refine R_ev (ev_nilCheck rfl) rfl rfl ?_
  refine R_ev (ev_fa0 rfl fa_54_0) rfl rfl ?_
  refine R_ev (ev_load1 rfl one35 (here (hP.at rfl))) rfl rfl ?_
  refine R_ev (ev_move rfl) rfl rfl ?_
  refine R_ev (ev_idx rfl rfl Try.underlying35 size37 (by omega) (by omega)) rfl rfl ?_
  refine R_ev (ev_loadS rfl (here (hT.get h0)) agg37) rfl rfl ?_
  refine A_alloc zero37 rfl rfl (fun w3_7 x3_7 b3_7 => ?_)
  refine A_storeRow rfl rfl b3_7 size37 rfl rfl rfl (fun w3_8 x3_8 b3_8 => ?_)
  have hE := x3_8.ext (x0_0.trans x3_7) (fun q e => e ▸ x0_0.size)
  have hE3 : Ext w0_0 w3_8 := x3_8.ext x3_7 (fun q e => e ▸ Nat.le_refl _)
  replace hK := hK.ext hE3
  replace hT := hT.ext hE3
  replace hP := hP.ext hE3
  refine R_nil ?_
  refine nxt_n ?_
  refine W_block ?_
  refine W_loop (ι := Nat × Nat) (fun z => [(0, .pointer (some ⟨p, 0, none⟩)), (5, .pointer (some ⟨w.heap.size, 0, none⟩)), (9, .pointer (some ⟨z.2, 0, none⟩))]) (fun z => fun w' => Ext w w' ∧ Tab w' p b m T ∧ Blk w' p 54 #[.slice (some ⟨b, 0, none⟩) T.length cap, .map (some m)] ∧ Blk w' w.heap.size 31 (en3 k).toArray ∧ (∃ x, T[z.1]? = some x ∧ Blk w' z.2 37 (enS x).toArray) ∧ findL T k z.1 = findL T k i0) (fun z => z.1) (i0, w0_0.heap.size) (sub_cons rfl (sub_cons rfl (sub_cons rfl sub_nil))) ?_ ?_
  · exact ⟨hE, hT, hP, hK, ⟨x0, h0, b3_8⟩, rfl⟩
  rintro ⟨i, bx⟩ wi ⟨hE, hT, hP, hK, ⟨x, hx, hB⟩, hf⟩ 
  have hlt : i < T.length := (List.getElem?_eq_some_iff.1 hx).1
  have hl := hw.len i x hx
  refine W_seq ?_
  refine W_seq ?_
  refine W_region ?_
  refine R_ev (ev_fa rfl fa_37_3) rfl rfl ?_
  refine R_ev (ev_load1 rfl one3 (here (shLen hB.all))) rfl rfl ?_
  refine R_ev (ev_gt rfl rfl) rfl rfl ?_
  refine R_nil ?_
  refine nxt_n ?_
  refine W_cond rfl (fun c1 => ?_) (fun c1 => ?_)
  · replace c1 := of_decide_eq_true c1
    have hpos : 0 < i := by omega
    obtain ⟨u, y, hu, hlu, hy, hly⟩ := hw.up i x hx hpos
    refine W_skip ?_
    refine nxt_n ?_
    refine W_seq ?_
    refine W_block ?_
    refine W_seq ?_
    refine W_region ?_
    refine R_ev (ev_fa rfl fa_37_1) rfl rfl ?_
    refine R_ev (ev_loadS rfl (here (shKey hB.all)) agg31) rfl rfl ?_
    refine R_ev (ev_loadS rfl (here (hK.all)) agg31) rfl rfl ?_
    refine R_ev (ev_keyeq rfl rfl) rfl rfl ?_
    refine R_nil ?_
    refine nxt_n ?_
    refine W_cond rfl (fun c2 => ?_) (fun c2 => ?_)
    · replace c2 := of_decide_eq_true c2
      refine W_seq ?_
      refine W_drawn (fun w' => Ext _ w') (by kernel_rfl) (by kernel_rfl) (drew_ext _) ?_
      refine Q_ev (ev_fa rfl fa_37_3) rfl rfl ?_
      refine Q_ev (ev_load1 rfl one3 (fun _ hx => shLen (hB.ext hx).all)) rfl rfl ?_
      refine Q_ev (ev_sub rfl rfl (by omega) (by omega)) rfl rfl ?_
      refine Q_ev (ev_fa rfl fa_37_2) rfl rfl ?_
      refine Q_ev (ev_load1 rfl one3 (fun _ hx => shAttrs (hB.ext hx).all)) rfl rfl ?_
      refine Q_ev (ev_assign rfl) rfl rfl ?_
      refine Q_ev (ev_assign rfl) rfl rfl ?_
      refine Q_ev (ev_assign rfl) rfl rfl ?_
      refine Q_nil (fun w7 x7 => ?_)
      refine nxt_n ?_
      refine W_ret ?_
      refine blk_r ?_
      refine nxt_r ?_
      refine nxt_r ?_
      refine blk_r ?_
      refine nxt_r ?_
      first
        | exact end3 rfl rfl rfl rfl ⟨by rw [← hf, find_here hx c1 c2]; rfl, hE.trans x7⟩
        | exact end3 rfl rfl rfl rfl ⟨by rw [← hf, find_zero hx c1]; rfl, hE⟩
    · replace c2 := of_decide_eq_false c2
      refine W_skip ?_
      refine blk_n ?_
      refine nxt_n ?_
      refine W_seq ?_
      refine W_seq ?_
      refine W_region ?_
      refine R_ev (ev_loadS rfl (here (hB.all)) agg37) rfl rfl ?_
      refine R_nil ?_
      refine nxt_n ?_
      refine W_region ?_
      refine A_alloc zero37 rfl rfl (fun w9_0 x9_0 b9_0 => ?_)
      refine A_storeRow rfl rfl b9_0 size37 rfl rfl rfl (fun w9_1 x9_1 b9_1 => ?_)
      have hE9 : Ext wi w9_1 := x9_1.ext x9_0 (fun q e => e ▸ Nat.le_refl _)
      refine R_nil ?_
      refine nxt_n ?_
      refine W_tail 8 (by kernel_rfl) (by kernel_rfl) (fun w5 x5 => ?_)
      refine S_ev (ev_move rfl) rfl rfl ?_
      refine S_ev (ev_nilCheck rfl) rfl rfl ?_
      refine S_ev (ev_fa0 rfl fa_54_0) rfl rfl ?_
      refine S_ev (ev_load1 rfl one35 (here ((hP.ext (hE9.trans x5)).at rfl))) rfl rfl ?_
      refine S_ev (ev_fa0 rfl fa_37_0) rfl rfl ?_
      refine S_ev (ev_load1 rfl one3 (here (shUp (b9_1.ext x5).all))) rfl rfl ?_
      refine S_ev (ev_idx rfl rfl Try.underlying35 size37 (by omega) (by omega)) rfl rfl ?_
      refine S_ev (ev_loadS rfl (here (show CellsAt w5 b (0 + x.up.toNat * 6) (enS y) from by rw [hu]; exact (hT.ext (hE9.trans x5)).get hy)) agg37) rfl rfl ?_
      refine S_nil ?_
      refine A_storeRow rfl rfl (b9_1.ext x5) size37 rfl rfl rfl (fun w5_8 x5_8 b5_8 => ?_)
      have hE5 : Ext wi w5_8 := x5_8.ext (hE9.trans x5) (fun q e => e ▸ Nat.le_refl _)
      refine R_nil ?_
      refine nxt_n ?_
      exact ⟨(u, wi.heap.size), sub_cons rfl (sub_cons rfl (sub_cons rfl sub_nil)), ⟨hE.trans hE5, hT.ext hE5, hP.ext hE5, hK.ext hE5, ⟨y, hy, b5_8⟩, by rw [← hf]; exact (find_up hx c1 c2 hu hlu).symm⟩, hlu⟩
  · replace c1 := of_decide_eq_false c1
    refine W_exit ?_
    refine nxt_e ?_
    refine nxt_e ?_
    refine blk_x ?_
    refine nxt_n ?_
    refine W_seq ?_
    refine W_region ?_
    refine R_ev (ev_assign rfl) rfl rfl ?_
    refine R_ev (ev_assign rfl) rfl rfl ?_
    refine R_ev (ev_assign rfl) rfl rfl ?_
    refine R_nil ?_
    refine nxt_n ?_
    refine W_ret ?_
    first
      | exact end3 rfl rfl rfl rfl ⟨by rw [← hf, find_here hx c1 c2]; rfl, hE.trans x7⟩
      | exact end3 rfl rfl rfl rfl ⟨by rw [← hf, find_zero hx c1]; rfl, hE⟩
theorem find_any {p b m : Nat} {T : List ShD} (n : Int) (k : V3) (w : World) (hT : Tab w p b m T) (hw : WF T) : Calls Try.prog 15 #[.pointer (some ⟨p, 0, none⟩), .int .i64 n, .agg (en3 k).toArray] w fun e w' => e = .returned (.tuple (foundT (findT T k n))) ∧ Ext w w' := by
  unfold findT
  cases hi : inT T n with
  | false => exact find_out n k w hT hi
  | true =>
    obtain ⟨i, x, rfl, hx⟩ := inT_get hi
    exact find_in i x k w hT hw hx
end Go.Proofs.Ytmiecljgcbfklaa

