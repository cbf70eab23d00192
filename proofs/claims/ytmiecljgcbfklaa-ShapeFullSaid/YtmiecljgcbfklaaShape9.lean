/- Shapes: the three operations (walks printed by shape9.py). -/
import Derived.Test.YtmiecljgcbfklaaShape8
namespace Go.Proofs.Ytmiecljgcbfklaa
open Go.RowKit
theorem next_nil (n : Int) (k : V3) (a : Int) (w : World) : Calls Try.prog 12 #[.pointer none, .int .i64 n, .agg (en3 k).toArray, .int .i64 a] w fun e w' => e = .returned (.tuple #[.int .i64 0, .int .i64 1]) ∧ Ext w w' := by
  refine calls_E Try.func12 rfl rfl ?_
  simp only [envOf]
  refine W_seq ?_
  refine W_region ?_
  refine A_box rfl rfl rfl (fun w0_0 x0_0 b0_0 => ?_)
  refine R_ev (ev_assign rfl) rfl rfl ?_
  refine R_ev (ev_assign rfl) rfl rfl ?_
  refine R_nil ?_
  refine nxt_n ?_
  refine W_seq ?_
  refine W_seq ?_
  refine W_region ?_
  refine R_ev (ev_move rfl) rfl rfl ?_
  refine R_ev (ev_move rfl) rfl rfl ?_
  refine R_ev (ev_loadS rfl (here b0_0.all) agg31) rfl rfl ?_
  refine R_ev (ev_move rfl) rfl rfl ?_
  refine R_call call19 rfl rfl rfl ?_
  refine (asked_nil n k a _).mono ?_
  rintro e w1_4 ⟨rfl, x1_4⟩
  refine ⟨_, rfl, ?_⟩
  refine R_ev (ev_assign rfl) rfl rfl ?_
  refine R_nil ?_
  refine nxt_n ?_
  refine W_seq ?_
  refine W_region ?_
  refine R_ev (ev_move rfl) rfl rfl ?_
  refine R_ev (ev_ne rfl rfl) rfl rfl ?_
  refine R_nil ?_
  refine nxt_n ?_
  refine W_cond_t rfl ?_
  refine W_seq ?_
  refine W_region ?_
  refine R_ev (ev_move rfl) rfl rfl ?_
  refine R_ev (ev_assign rfl) rfl rfl ?_
  refine R_ev (ev_assign rfl) rfl rfl ?_
  refine R_nil ?_
  refine nxt_n ?_
  refine W_ret ?_
  refine nxt_r ?_
  have e0_2_1 : Ext w w1_4 := x0_0.trans x1_4
  exact end2 rfl rfl rfl ⟨rfl, e0_2_1⟩
theorem next_bad {p b m : Nat} {T : List ShD} (n : Int) (k : V3) (a : Int) (w : World) (hT : Tab w p b m T) (hw : WF T) (ha : ¬ askedE T n k a = 0) : Calls Try.prog 12 #[.pointer (some ⟨p, 0, none⟩), .int .i64 n, .agg (en3 k).toArray, .int .i64 a] w (TabPost p b m w (nextT T n k a)) := by
  refine calls_E Try.func12 rfl rfl ?_
  simp only [envOf]
  refine W_seq ?_
  refine W_region ?_
  refine A_box rfl rfl rfl (fun w0_0 x0_0 b0_0 => ?_)
  refine R_ev (ev_assign rfl) rfl rfl ?_
  refine R_ev (ev_assign rfl) rfl rfl ?_
  refine R_nil ?_
  refine nxt_n ?_
  refine W_seq ?_
  refine W_seq ?_
  refine W_region ?_
  refine R_ev (ev_move rfl) rfl rfl ?_
  refine R_ev (ev_move rfl) rfl rfl ?_
  refine R_ev (ev_loadS rfl (here b0_0.all) agg31) rfl rfl ?_
  refine R_ev (ev_move rfl) rfl rfl ?_
  refine R_call call19 rfl rfl rfl ?_
  refine (asked_any n k a _ (hT.ext x0_0)).mono ?_
  rintro e w1_4 ⟨rfl, x1_4⟩
  refine ⟨_, rfl, ?_⟩
  refine R_ev (ev_assign rfl) rfl rfl ?_
  refine R_nil ?_
  refine nxt_n ?_
  refine W_seq ?_
  refine W_region ?_
  refine R_ev (ev_move rfl) rfl rfl ?_
  refine R_ev (ev_ne rfl rfl) rfl rfl ?_
  refine R_nil ?_
  refine nxt_n ?_
  refine W_cond rfl (fun c0 => ?_) (fun c0 => ?_)
  · first | replace c0 := of_decide_eq_true c0 | replace c0 := of_decide_eq_false c0 | replace c0 := nd_true c0 | replace c0 := nd_false c0 | replace c0 := nb_true c0 | replace c0 := nb_false c0 | skip
    refine W_seq ?_
    refine W_region ?_
    refine R_ev (ev_move rfl) rfl rfl ?_
    refine R_ev (ev_assign rfl) rfl rfl ?_
    refine R_ev (ev_assign rfl) rfl rfl ?_
    refine R_nil ?_
    refine nxt_n ?_
    refine W_ret ?_
    refine nxt_r ?_
    have hq : nextT T n k a = (T, 0, askedE T n k a) := by unfold nextT; exact if_neg ha
    rw [hq]
    have e0_2_1 : Ext w w1_4 := x0_0.trans x1_4
    exact end2 rfl rfl rfl (tabPost_same (hT.ext e0_2_1) hw e0_2_1)
  · first | replace c0 := of_decide_eq_true c0 | replace c0 := of_decide_eq_false c0 | replace c0 := nd_true c0 | replace c0 := nd_false c0 | replace c0 := nb_true c0 | replace c0 := nb_false c0 | skip
    exact absurd c0 ha
theorem next_found {p b m : Nat} {T : List ShD} (i : Nat) (x : ShD) (k : V3) (a : Int) (w : World) (hT : Tab w p b m T) (hw : WF T) (hx : T[i]? = some x) (ha : askedE T i k a = 0) (pl at_ : Int) (hf : findL T k i = some (pl, at_)) : Calls Try.prog 12 #[.pointer (some ⟨p, 0, none⟩), .int .i64 i, .agg (en3 k).toArray, .int .i64 a] w (TabPost p b m w (nextT T (i : Int) k a)) := by
  refine calls_E Try.func12 rfl rfl ?_
  simp only [envOf]
  refine W_seq ?_
  refine W_region ?_
  refine A_box rfl rfl rfl (fun w0_0 x0_0 b0_0 => ?_)
  refine R_ev (ev_assign rfl) rfl rfl ?_
  refine R_ev (ev_assign rfl) rfl rfl ?_
  refine R_nil ?_
  refine nxt_n ?_
  refine W_seq ?_
  refine W_seq ?_
  refine W_region ?_
  refine R_ev (ev_move rfl) rfl rfl ?_
  refine R_ev (ev_move rfl) rfl rfl ?_
  refine R_ev (ev_loadS rfl (here b0_0.all) agg31) rfl rfl ?_
  refine R_ev (ev_move rfl) rfl rfl ?_
  refine R_call call19 rfl rfl rfl ?_
  refine (asked_any _ k a _ (hT.ext x0_0)).mono ?_
  rintro e w1_4 ⟨rfl, x1_4⟩
  refine ⟨_, rfl, ?_⟩
  rw [ha]
  refine R_ev (ev_assign rfl) rfl rfl ?_
  refine R_nil ?_
  refine nxt_n ?_
  refine W_seq ?_
  refine W_region ?_
  refine R_ev (ev_move rfl) rfl rfl ?_
  refine R_ev (ev_ne rfl rfl) rfl rfl ?_
  refine R_nil ?_
  refine nxt_n ?_
  refine W_cond_f rfl ?_
  refine W_skip ?_
  refine nxt_n ?_
  refine W_seq ?_
  refine W_seq ?_
  refine W_region ?_
  refine R_ev (ev_move rfl) rfl rfl ?_
  refine R_ev (ev_move rfl) rfl rfl ?_
  refine R_ev (ev_loadS rfl (here (b0_0.ext x1_4).all) agg31) rfl rfl ?_
  have e0_2_1 : Ext w w1_4 := x0_0.trans x1_4
  refine R_call call15 rfl rfl rfl ?_
  refine (find_in i x k _ (hT.ext e0_2_1) hw hx).mono ?_
  rintro e w4_3 ⟨rfl, x4_3⟩
  refine ⟨_, rfl, ?_⟩
  rw [hf]
  refine R_ev (ev_move rfl) rfl rfl ?_
  refine R_ev (ev_extract rfl rfl) rfl rfl ?_
  refine R_ev (ev_extract rfl rfl) rfl rfl ?_
  refine R_ev (ev_extract rfl rfl) rfl rfl ?_
  refine R_ev (ev_assign rfl) rfl rfl ?_
  refine R_ev (ev_assign rfl) rfl rfl ?_
  refine R_ev (ev_assign rfl) rfl rfl ?_
  refine R_nil ?_
  refine nxt_n ?_
  refine W_seq ?_
  refine W_region ?_
  refine R_ev (ev_move rfl) rfl rfl ?_
  refine R_nil ?_
  refine nxt_n ?_
  refine W_cond_t rfl ?_
  refine W_seq ?_
  refine W_region ?_
  refine R_ev (ev_assign rfl) rfl rfl ?_
  refine R_ev (ev_assign rfl) rfl rfl ?_
  refine R_nil ?_
  refine nxt_n ?_
  refine W_ret ?_
  refine nxt_r ?_
  have hq : nextT T (i : Int) k a = (T, 0, 4) := by unfold nextT; rw [if_pos ha]; simp only [Int.toNat_natCast, hf]
  rw [hq]
  have e0_3_2 : Ext w w4_3 := e0_2_1.trans x4_3
  exact end2 rfl rfl rfl (tabPost_same (hT.ext e0_3_2) hw e0_3_2)
theorem next_long {p b m : Nat} {T : List ShD} (i : Nat) (x : ShD) (k : V3) (a : Int) (w : World) (hT : Tab w p b m T) (hw : WF T) (hx : T[i]? = some x) (ha : askedE T i k a = 0) (hf : findL T k i = none) (hl : 1024 ≤ x.len) : Calls Try.prog 12 #[.pointer (some ⟨p, 0, none⟩), .int .i64 i, .agg (en3 k).toArray, .int .i64 a] w (TabPost p b m w (nextT T (i : Int) k a)) := by
  refine calls_E Try.func12 rfl rfl ?_
  simp only [envOf]
  refine W_seq ?_
  refine W_region ?_
  refine A_box rfl rfl rfl (fun w0_0 x0_0 b0_0 => ?_)
  refine R_ev (ev_assign rfl) rfl rfl ?_
  refine R_ev (ev_assign rfl) rfl rfl ?_
  refine R_nil ?_
  refine nxt_n ?_
  refine W_seq ?_
  refine W_seq ?_
  refine W_region ?_
  refine R_ev (ev_move rfl) rfl rfl ?_
  refine R_ev (ev_move rfl) rfl rfl ?_
  refine R_ev (ev_loadS rfl (here b0_0.all) agg31) rfl rfl ?_
  refine R_ev (ev_move rfl) rfl rfl ?_
  refine R_call call19 rfl rfl rfl ?_
  refine (asked_any _ k a _ (hT.ext x0_0)).mono ?_
  rintro e w1_4 ⟨rfl, x1_4⟩
  refine ⟨_, rfl, ?_⟩
  rw [ha]
  refine R_ev (ev_assign rfl) rfl rfl ?_
  refine R_nil ?_
  refine nxt_n ?_
  refine W_seq ?_
  refine W_region ?_
  refine R_ev (ev_move rfl) rfl rfl ?_
  refine R_ev (ev_ne rfl rfl) rfl rfl ?_
  refine R_nil ?_
  refine nxt_n ?_
  refine W_cond_f rfl ?_
  refine W_skip ?_
  refine nxt_n ?_
  refine W_seq ?_
  refine W_seq ?_
  refine W_region ?_
  refine R_ev (ev_move rfl) rfl rfl ?_
  refine R_ev (ev_move rfl) rfl rfl ?_
  refine R_ev (ev_loadS rfl (here (b0_0.ext x1_4).all) agg31) rfl rfl ?_
  have e0_2_1 : Ext w w1_4 := x0_0.trans x1_4
  refine R_call call15 rfl rfl rfl ?_
  refine (find_in i x k _ (hT.ext e0_2_1) hw hx).mono ?_
  rintro e w4_3 ⟨rfl, x4_3⟩
  refine ⟨_, rfl, ?_⟩
  rw [hf]
  refine R_ev (ev_move rfl) rfl rfl ?_
  refine R_ev (ev_extract rfl rfl) rfl rfl ?_
  refine R_ev (ev_extract rfl rfl) rfl rfl ?_
  refine R_ev (ev_extract rfl rfl) rfl rfl ?_
  refine R_ev (ev_assign rfl) rfl rfl ?_
  refine R_ev (ev_assign rfl) rfl rfl ?_
  refine R_ev (ev_assign rfl) rfl rfl ?_
  refine R_nil ?_
  refine nxt_n ?_
  refine W_seq ?_
  refine W_region ?_
  refine R_ev (ev_move rfl) rfl rfl ?_
  refine R_nil ?_
  refine nxt_n ?_
  refine W_cond_f rfl ?_
  refine W_skip ?_
  refine nxt_n ?_
  refine W_seq ?_
  refine W_seq ?_
  refine W_region ?_
  refine R_ev (ev_move rfl) rfl rfl ?_
  refine R_ev (ev_move rfl) rfl rfl ?_
  have e0_3_2 : Ext w w4_3 := e0_2_1.trans x4_3
  refine R_call call11 rfl rfl rfl ?_
  refine (len_in i x _ (hT.ext e0_3_2) hx).mono ?_
  rintro e w7_2 ⟨rfl, x7_2⟩
  refine ⟨_, rfl, ?_⟩
  refine R_ev (ev_ge rfl rfl) rfl rfl ?_
  refine R_nil ?_
  refine nxt_n ?_
  refine W_cond rfl (fun c2 => ?_) (fun c2 => ?_)
  · first | replace c2 := of_decide_eq_true c2 | replace c2 := of_decide_eq_false c2 | replace c2 := nd_true c2 | replace c2 := nd_false c2 | replace c2 := nb_true c2 | replace c2 := nb_false c2 | skip
    refine W_seq ?_
    refine W_region ?_
    refine R_ev (ev_assign rfl) rfl rfl ?_
    refine R_ev (ev_assign rfl) rfl rfl ?_
    refine R_nil ?_
    refine nxt_n ?_
    refine W_ret ?_
    refine nxt_r ?_
    have hq : nextT T (i : Int) k a = (T, 0, 9) := by unfold nextT; rw [if_pos ha]; simp only [Int.toNat_natCast, hf]; rw [if_pos (by simp only [lenAt, hx]; exact hl)]
    rw [hq]
    have e0_4_3 : Ext w w7_2 := e0_3_2.trans x7_2
    exact end2 rfl rfl rfl (tabPost_same (hT.ext e0_4_3) hw e0_4_3)
  · first | replace c2 := of_decide_eq_true c2 | replace c2 := of_decide_eq_false c2 | replace c2 := nd_true c2 | replace c2 := nd_false c2 | replace c2 := nb_true c2 | replace c2 := nb_false c2 | skip
    omega
theorem next_new {p b m : Nat} {T : List ShD} (i : Nat) (x : ShD) (k : V3) (a : Int) (w : World) (hT : Tab w p b m T) (hw : WF T) (hx : T[i]? = some x) (ha : askedE T i k a = 0) (hf : findL T k i = none) (hl : ¬ 1024 ≤ x.len) : Calls Try.prog 12 #[.pointer (some ⟨p, 0, none⟩), .int .i64 i, .agg (en3 k).toArray, .int .i64 a] w (TabPost p b m w (nextT T (i : Int) k a)) := by
  have hlt : i < T.length := (List.getElem?_eq_some_iff.1 hx).1
  refine calls_E Try.func12 rfl rfl ?_
  simp only [envOf]
  refine W_seq ?_
  refine W_region ?_
  refine A_box rfl rfl rfl (fun w0_0 x0_0 b0_0 => ?_)
  refine R_ev (ev_assign rfl) rfl rfl ?_
  refine R_ev (ev_assign rfl) rfl rfl ?_
  refine R_nil ?_
  refine nxt_n ?_
  refine W_seq ?_
  refine W_seq ?_
  refine W_region ?_
  refine R_ev (ev_move rfl) rfl rfl ?_
  refine R_ev (ev_move rfl) rfl rfl ?_
  refine R_ev (ev_loadS rfl (here b0_0.all) agg31) rfl rfl ?_
  refine R_ev (ev_move rfl) rfl rfl ?_
  refine R_call call19 rfl rfl rfl ?_
  refine (asked_any _ k a _ (hT.ext x0_0)).mono ?_
  rintro e w1_4 ⟨rfl, x1_4⟩
  refine ⟨_, rfl, ?_⟩
  rw [ha]
  refine R_ev (ev_assign rfl) rfl rfl ?_
  refine R_nil ?_
  refine nxt_n ?_
  refine W_seq ?_
  refine W_region ?_
  refine R_ev (ev_move rfl) rfl rfl ?_
  refine R_ev (ev_ne rfl rfl) rfl rfl ?_
  refine R_nil ?_
  refine nxt_n ?_
  refine W_cond_f rfl ?_
  refine W_skip ?_
  refine nxt_n ?_
  refine W_seq ?_
  refine W_seq ?_
  refine W_region ?_
  refine R_ev (ev_move rfl) rfl rfl ?_
  refine R_ev (ev_move rfl) rfl rfl ?_
  refine R_ev (ev_loadS rfl (here (b0_0.ext x1_4).all) agg31) rfl rfl ?_
  have e0_2_1 : Ext w w1_4 := x0_0.trans x1_4
  refine R_call call15 rfl rfl rfl ?_
  refine (find_in i x k _ (hT.ext e0_2_1) hw hx).mono ?_
  rintro e w4_3 ⟨rfl, x4_3⟩
  refine ⟨_, rfl, ?_⟩
  rw [hf]
  refine R_ev (ev_move rfl) rfl rfl ?_
  refine R_ev (ev_extract rfl rfl) rfl rfl ?_
  refine R_ev (ev_extract rfl rfl) rfl rfl ?_
  refine R_ev (ev_extract rfl rfl) rfl rfl ?_
  refine R_ev (ev_assign rfl) rfl rfl ?_
  refine R_ev (ev_assign rfl) rfl rfl ?_
  refine R_ev (ev_assign rfl) rfl rfl ?_
  refine R_nil ?_
  refine nxt_n ?_
  refine W_seq ?_
  refine W_region ?_
  refine R_ev (ev_move rfl) rfl rfl ?_
  refine R_nil ?_
  refine nxt_n ?_
  refine W_cond_f rfl ?_
  refine W_skip ?_
  refine nxt_n ?_
  refine W_seq ?_
  refine W_seq ?_
  refine W_region ?_
  refine R_ev (ev_move rfl) rfl rfl ?_
  refine R_ev (ev_move rfl) rfl rfl ?_
  have e0_3_2 : Ext w w4_3 := e0_2_1.trans x4_3
  refine R_call call11 rfl rfl rfl ?_
  refine (len_in i x _ (hT.ext e0_3_2) hx).mono ?_
  rintro e w7_2 ⟨rfl, x7_2⟩
  refine ⟨_, rfl, ?_⟩
  refine R_ev (ev_ge rfl rfl) rfl rfl ?_
  refine R_nil ?_
  refine nxt_n ?_
  refine W_cond rfl (fun c2 => ?_) (fun c2 => ?_)
  · first | replace c2 := of_decide_eq_true c2 | replace c2 := of_decide_eq_false c2 | replace c2 := nd_true c2 | replace c2 := nd_false c2 | replace c2 := nb_true c2 | replace c2 := nb_false c2 | skip
    exact absurd c2 hl
  · first | replace c2 := of_decide_eq_true c2 | replace c2 := of_decide_eq_false c2 | replace c2 := nd_true c2 | replace c2 := nd_false c2 | replace c2 := nb_true c2 | replace c2 := nb_false c2 | skip
    refine W_skip ?_
    refine nxt_n ?_
    refine W_seq ?_
    refine W_region ?_
    refine R_ev (ev_move rfl) rfl rfl ?_
    refine R_ev (ev_move rfl) rfl rfl ?_
    have e1_3_3 : Ext w0_0 w4_3 := x1_4.trans x4_3
    have e1_4_4 : Ext w0_0 w7_2 := e1_3_3.trans x7_2
    refine R_ev (ev_loadS rfl (here (b0_0.ext e1_4_4).all) agg31) rfl rfl ?_
    refine R_ev (ev_move rfl) rfl rfl ?_
    refine R_ev (ev_build rfl (bld_37_1_2 _ _ _ _)) rfl rfl ?_
    have e0_4_5 : Ext w w7_2 := e0_3_2.trans x7_2
    have hTb := (hT.ext e0_4_5).ltb
    refine A_bslice rfl (bsl_35_1 _ _ _ _ _ _ _) rfl rfl (fun w9_5 x9_5 b9_5 => ?_)
    have e0_5_6 : Ext w w9_5 := e0_4_5.trans x9_5
    refine R_call call20 rfl rfl rfl ?_
    refine (lay_post i [⟨0, k, a, 0⟩] _ 1 _ (hT.ext e0_5_6) hw hlt ((show Rw _ _ _ enS [(⟨0, k, a, 0⟩ : ShD)] from b9_5).sq enS_len) (Nat.le_refl _) (by omega) (fun _ => Nat.ne_of_gt hTb)).mono ?_
    rintro e w9_6 ⟨b1, rfl, hT1, hw1, hF1, hb1⟩
    refine ⟨_, rfl, ?_⟩
    refine R_ev (ev_extract rfl rfl) rfl rfl ?_
    refine R_ev (ev_extract rfl rfl) rfl rfl ?_
    refine R_ev (ev_assign rfl) rfl rfl ?_
    refine R_ev (ev_assign rfl) rfl rfl ?_
    refine R_nil ?_
    refine nxt_n ?_
    refine W_ret ?_
    have hq : nextT T (i : Int) k a = layI T i [⟨0, k, a, 0⟩] := by unfold nextT; rw [if_pos ha]; simp only [Int.toNat_natCast, hf]; rw [if_neg (by simp only [lenAt, hx]; exact hl)]
    rw [hq]
    exact end2 rfl rfl rfl (TabPost.ext ⟨b1, rfl, hT1, hw1, hF1, hb1⟩ e0_5_6)
theorem change_nil (n : Int) (k : V3) (a : Int) (w : World) : Calls Try.prog 14 #[.pointer none, .int .i64 n, .agg (en3 k).toArray, .int .i64 a] w fun e w' => e = .returned (.tuple #[.int .i64 0, .int .i64 1]) ∧ Ext w w' := by
  refine calls_E Try.func14 rfl rfl ?_
  simp only [envOf]
  refine W_seq ?_
  refine W_region ?_
  refine A_box rfl rfl rfl (fun w0_0 x0_0 b0_0 => ?_)
  refine R_ev (ev_assign rfl) rfl rfl ?_
  refine R_ev (ev_assign rfl) rfl rfl ?_
  refine R_nil ?_
  refine nxt_n ?_
  refine W_seq ?_
  refine W_seq ?_
  refine W_region ?_
  refine R_ev (ev_move rfl) rfl rfl ?_
  refine R_ev (ev_move rfl) rfl rfl ?_
  refine R_ev (ev_loadS rfl (here b0_0.all) agg31) rfl rfl ?_
  refine R_ev (ev_move rfl) rfl rfl ?_
  refine R_call call19 rfl rfl rfl ?_
  refine (asked_nil n k a _).mono ?_
  rintro e w1_4 ⟨rfl, x1_4⟩
  refine ⟨_, rfl, ?_⟩
  refine R_ev (ev_assign rfl) rfl rfl ?_
  refine R_nil ?_
  refine nxt_n ?_
  refine W_seq ?_
  refine W_region ?_
  refine R_ev (ev_move rfl) rfl rfl ?_
  refine R_ev (ev_ne rfl rfl) rfl rfl ?_
  refine R_nil ?_
  refine nxt_n ?_
  refine W_cond_t rfl ?_
  refine W_seq ?_
  refine W_region ?_
  refine R_ev (ev_move rfl) rfl rfl ?_
  refine R_ev (ev_assign rfl) rfl rfl ?_
  refine R_ev (ev_assign rfl) rfl rfl ?_
  refine R_nil ?_
  refine nxt_n ?_
  refine W_ret ?_
  refine nxt_r ?_
  have e0_2_1 : Ext w w1_4 := x0_0.trans x1_4
  exact end2 rfl rfl rfl ⟨rfl, e0_2_1⟩
theorem change_bad {p b m : Nat} {T : List ShD} (n : Int) (k : V3) (a : Int) (w : World) (hT : Tab w p b m T) (hw : WF T) (ha : ¬ askedE T n k a = 0) : Calls Try.prog 14 #[.pointer (some ⟨p, 0, none⟩), .int .i64 n, .agg (en3 k).toArray, .int .i64 a] w (TabPost p b m w (changeT T n k a)) := by
  refine calls_E Try.func14 rfl rfl ?_
  simp only [envOf]
  refine W_seq ?_
  refine W_region ?_
  refine A_box rfl rfl rfl (fun w0_0 x0_0 b0_0 => ?_)
  refine R_ev (ev_assign rfl) rfl rfl ?_
  refine R_ev (ev_assign rfl) rfl rfl ?_
  refine R_nil ?_
  refine nxt_n ?_
  refine W_seq ?_
  refine W_seq ?_
  refine W_region ?_
  refine R_ev (ev_move rfl) rfl rfl ?_
  refine R_ev (ev_move rfl) rfl rfl ?_
  refine R_ev (ev_loadS rfl (here b0_0.all) agg31) rfl rfl ?_
  refine R_ev (ev_move rfl) rfl rfl ?_
  refine R_call call19 rfl rfl rfl ?_
  refine (asked_any n k a _ (hT.ext x0_0)).mono ?_
  rintro e w1_4 ⟨rfl, x1_4⟩
  refine ⟨_, rfl, ?_⟩
  refine R_ev (ev_assign rfl) rfl rfl ?_
  refine R_nil ?_
  refine nxt_n ?_
  refine W_seq ?_
  refine W_region ?_
  refine R_ev (ev_move rfl) rfl rfl ?_
  refine R_ev (ev_ne rfl rfl) rfl rfl ?_
  refine R_nil ?_
  refine nxt_n ?_
  refine W_cond rfl (fun c0 => ?_) (fun c0 => ?_)
  · first | replace c0 := of_decide_eq_true c0 | replace c0 := of_decide_eq_false c0 | replace c0 := nd_true c0 | replace c0 := nd_false c0 | replace c0 := nb_true c0 | replace c0 := nb_false c0 | skip
    refine W_seq ?_
    refine W_region ?_
    refine R_ev (ev_move rfl) rfl rfl ?_
    refine R_ev (ev_assign rfl) rfl rfl ?_
    refine R_ev (ev_assign rfl) rfl rfl ?_
    refine R_nil ?_
    refine nxt_n ?_
    refine W_ret ?_
    refine nxt_r ?_
    have hq : changeT T n k a = (T, 0, askedE T n k a) := by unfold changeT; exact if_neg ha
    rw [hq]
    have e0_2_1 : Ext w w1_4 := x0_0.trans x1_4
    exact end2 rfl rfl rfl (tabPost_same (hT.ext e0_2_1) hw e0_2_1)
  · first | replace c0 := of_decide_eq_true c0 | replace c0 := of_decide_eq_false c0 | replace c0 := nd_true c0 | replace c0 := nd_false c0 | replace c0 := nb_true c0 | replace c0 := nb_false c0 | skip
    exact absurd c0 ha
theorem change_none {p b m : Nat} {T : List ShD} (i : Nat) (x : ShD) (k : V3) (a : Int) (w : World) (hT : Tab w p b m T) (hw : WF T) (hx : T[i]? = some x) (ha : askedE T i k a = 0) (hf : findL T k i = none) : Calls Try.prog 14 #[.pointer (some ⟨p, 0, none⟩), .int .i64 i, .agg (en3 k).toArray, .int .i64 a] w (TabPost p b m w (changeT T (i : Int) k a)) := by
  refine calls_E Try.func14 rfl rfl ?_
  simp only [envOf]
  refine W_seq ?_
  refine W_region ?_
  refine A_box rfl rfl rfl (fun w0_0 x0_0 b0_0 => ?_)
  refine R_ev (ev_assign rfl) rfl rfl ?_
  refine R_ev (ev_assign rfl) rfl rfl ?_
  refine R_nil ?_
  refine nxt_n ?_
  refine W_seq ?_
  refine W_seq ?_
  refine W_region ?_
  refine R_ev (ev_move rfl) rfl rfl ?_
  refine R_ev (ev_move rfl) rfl rfl ?_
  refine R_ev (ev_loadS rfl (here b0_0.all) agg31) rfl rfl ?_
  refine R_ev (ev_move rfl) rfl rfl ?_
  refine R_call call19 rfl rfl rfl ?_
  refine (asked_any _ k a _ (hT.ext x0_0)).mono ?_
  rintro e w1_4 ⟨rfl, x1_4⟩
  refine ⟨_, rfl, ?_⟩
  rw [ha]
  refine R_ev (ev_assign rfl) rfl rfl ?_
  refine R_nil ?_
  refine nxt_n ?_
  refine W_seq ?_
  refine W_region ?_
  refine R_ev (ev_move rfl) rfl rfl ?_
  refine R_ev (ev_ne rfl rfl) rfl rfl ?_
  refine R_nil ?_
  refine nxt_n ?_
  refine W_cond_f rfl ?_
  refine W_skip ?_
  refine nxt_n ?_
  refine W_seq ?_
  refine W_region ?_
  refine R_ev (ev_move rfl) rfl rfl ?_
  refine R_ev (ev_move rfl) rfl rfl ?_
  refine R_ev (ev_loadS rfl (here (b0_0.ext x1_4).all) agg31) rfl rfl ?_
  have e0_2_1 : Ext w w1_4 := x0_0.trans x1_4
  refine R_call call15 rfl rfl rfl ?_
  refine (find_in i x k _ (hT.ext e0_2_1) hw hx).mono ?_
  rintro e w4_3 ⟨rfl, x4_3⟩
  refine ⟨_, rfl, ?_⟩
  rw [hf]
  refine R_ev (ev_move rfl) rfl rfl ?_
  refine R_ev (ev_extract rfl rfl) rfl rfl ?_
  refine R_ev (ev_extract rfl rfl) rfl rfl ?_
  refine R_ev (ev_extract rfl rfl) rfl rfl ?_
  refine R_ev (ev_assign rfl) rfl rfl ?_
  refine R_ev (ev_assign rfl) rfl rfl ?_
  refine R_ev (ev_assign rfl) rfl rfl ?_
  refine R_nil ?_
  refine nxt_n ?_
  refine W_seq ?_
  refine W_seq ?_
  refine W_region ?_
  refine R_ev (ev_move rfl) rfl rfl ?_
  refine R_ev (ev_not rfl) rfl rfl ?_
  refine R_nil ?_
  refine nxt_n ?_
  refine W_cond_t rfl ?_
  refine W_seq ?_
  refine W_region ?_
  refine R_ev (ev_assign rfl) rfl rfl ?_
  refine R_ev (ev_assign rfl) rfl rfl ?_
  refine R_nil ?_
  refine nxt_n ?_
  refine W_ret ?_
  refine nxt_r ?_
  have hq : changeT T (i : Int) k a = (T, 0, 3) := by unfold changeT; rw [if_pos ha]; simp only [Int.toNat_natCast, hf]
  rw [hq]
  have e0_3_2 : Ext w w4_3 := e0_2_1.trans x4_3
  exact end2 rfl rfl rfl (tabPost_same (hT.ext e0_3_2) hw e0_3_2)
theorem change_some {p b m : Nat} {T : List ShD} (i : Nat) (x : ShD) (k : V3) (a : Int) (w : World) (hT : Tab w p b m T) (hw : WF T) (hx : T[i]? = some x) (ha : askedE T i k a = 0) (pl : Nat) (at_ : Int) (hf : findL T k i = some ((pl : Int), at_)) : Calls Try.prog 14 #[.pointer (some ⟨p, 0, none⟩), .int .i64 i, .agg (en3 k).toArray, .int .i64 a] w (TabPost p b m w (changeT T (i : Int) k a)) := by
  have hlt : i < T.length := (List.getElem?_eq_some_iff.1 hx).1
  have hpl := find_pl hw i x _ _ hx hf
  have hrl := row_len hw i x hx
  have hxl := hw.len i x hx
  have hws := hw.size
  have hbl := before_lt hw (n := (pl : Int)) (by omega) i hlt
  have hplr : pl < (rowL T i).length := by omega
  obtain ⟨y, hy⟩ : ∃ y, (rowL T i)[pl]? = some y := ⟨_, List.getElem?_eq_getElem hplr⟩
  refine calls_E Try.func14 rfl rfl ?_
  simp only [envOf]
  refine W_seq ?_
  refine W_region ?_
  refine A_box rfl rfl rfl (fun w0_0 x0_0 b0_0 => ?_)
  refine R_ev (ev_assign rfl) rfl rfl ?_
  refine R_ev (ev_assign rfl) rfl rfl ?_
  refine R_nil ?_
  refine nxt_n ?_
  refine W_seq ?_
  refine W_seq ?_
  refine W_region ?_
  refine R_ev (ev_move rfl) rfl rfl ?_
  refine R_ev (ev_move rfl) rfl rfl ?_
  refine R_ev (ev_loadS rfl (here b0_0.all) agg31) rfl rfl ?_
  refine R_ev (ev_move rfl) rfl rfl ?_
  refine R_call call19 rfl rfl rfl ?_
  refine (asked_any _ k a _ (hT.ext x0_0)).mono ?_
  rintro e w1_4 ⟨rfl, x1_4⟩
  refine ⟨_, rfl, ?_⟩
  rw [ha]
  refine R_ev (ev_assign rfl) rfl rfl ?_
  refine R_nil ?_
  refine nxt_n ?_
  refine W_seq ?_
  refine W_region ?_
  refine R_ev (ev_move rfl) rfl rfl ?_
  refine R_ev (ev_ne rfl rfl) rfl rfl ?_
  refine R_nil ?_
  refine nxt_n ?_
  refine W_cond_f rfl ?_
  refine W_skip ?_
  refine nxt_n ?_
  refine W_seq ?_
  refine W_region ?_
  refine R_ev (ev_move rfl) rfl rfl ?_
  refine R_ev (ev_move rfl) rfl rfl ?_
  refine R_ev (ev_loadS rfl (here (b0_0.ext x1_4).all) agg31) rfl rfl ?_
  have e0_2_1 : Ext w w1_4 := x0_0.trans x1_4
  refine R_call call15 rfl rfl rfl ?_
  refine (find_in i x k _ (hT.ext e0_2_1) hw hx).mono ?_
  rintro e w4_3 ⟨rfl, x4_3⟩
  refine ⟨_, rfl, ?_⟩
  rw [hf]
  refine R_ev (ev_move rfl) rfl rfl ?_
  refine R_ev (ev_extract rfl rfl) rfl rfl ?_
  refine R_ev (ev_extract rfl rfl) rfl rfl ?_
  refine R_ev (ev_extract rfl rfl) rfl rfl ?_
  refine R_ev (ev_assign rfl) rfl rfl ?_
  refine R_ev (ev_assign rfl) rfl rfl ?_
  refine R_ev (ev_assign rfl) rfl rfl ?_
  refine R_nil ?_
  refine nxt_n ?_
  refine W_seq ?_
  refine W_seq ?_
  refine W_region ?_
  refine R_ev (ev_move rfl) rfl rfl ?_
  refine R_ev (ev_not rfl) rfl rfl ?_
  refine R_nil ?_
  refine nxt_n ?_
  refine W_cond_f rfl ?_
  refine W_skip ?_
  refine nxt_n ?_
  refine W_seq ?_
  refine W_region ?_
  refine R_ev (ev_move rfl) rfl rfl ?_
  refine R_ev (ev_move rfl) rfl rfl ?_
  have e0_3_2 : Ext w w4_3 := e0_2_1.trans x4_3
  have hTb := (hT.ext e0_3_2).ltb
  refine R_call call22 rfl rfl rfl ?_
  refine (row_in i x _ (hT.ext e0_3_2) hw hx).mono ?_
  rintro e w7_2 ⟨g, rfl, hg, hR, x7_2⟩
  refine ⟨_, rfl, ?_⟩
  refine R_ev (ev_move rfl) rfl rfl ?_
  refine R_ev (ev_slice (l := pl) (h := (rowL T i).length) rfl Try.underlying35 size37 rfl rfl (by omega) (by omega)) rfl rfl ?_
  have hln : (rowL T i).length - pl = (headAttrs a ((rowL T i).drop pl)).length := by rw [headAttrs_len]; simp
  rw [hln, cut_some _ _ _ _ hplr]
  have hpos : 0 < (headAttrs a ((rowL T i).drop pl)).length := by omega
  refine R_ev (ev_assign rfl) rfl rfl ?_
  refine R_nil ?_
  refine nxt_n ?_
  refine W_seq ?_
  refine W_region ?_
  refine R_ev (ev_move rfl) rfl rfl ?_
  refine R_ev (ev_move rfl) rfl rfl ?_
  refine R_ev (ev_idx rfl rfl Try.underlying35 size37 (by omega) (by omega)) rfl rfl ?_
  refine R_ev (ev_fa rfl fa_37_2) rfl rfl ?_
  refine A_storeElemAt (c := y) (c' := ⟨y.up, y.key, a, y.len⟩) (i := pl) (j := 4) (show evE _ _ = some (.pointer (some ⟨g, 0 + pl * 6 + 4, none⟩)) from (congrArg (fun z => some (Value.pointer (some ⟨g, z, none⟩))) (show pl * 6 + (0 : Int).toNat * 6 + 4 = 0 + pl * 6 + 4 by omega))) rfl hR enS_len size3 hy (by decide) rfl rfl rfl (fun w8_4 x8_4 hR2 => ?_)
  have hSq0 := hR2.drop enS_len pl
  rw [set_head a hy] at hSq0
  have hne : 0 < (headAttrs a ((rowL T i).drop pl)).length → bl (some (⟨g, pl * 6, none⟩ : Addr)) ≠ b := fun h0 => by show g ≠ b; omega
  refine R_nil ?_
  refine nxt_n ?_
  refine W_seq ?_
  refine W_region ?_
  refine R_ev (ev_move rfl) rfl rfl ?_
  refine R_ev (ev_move rfl) rfl rfl ?_
  refine R_ev (ev_move rfl) rfl rfl ?_
  refine R_ev (ev_move rfl) rfl rfl ?_
  have e0_4_3 : Ext w w7_2 := e0_3_2.trans x7_2
  have e0_5_4 : Ext w w8_4 := x8_4.ext e0_4_3 (fun q e => e ▸ Nat.le_trans e0_3_2.size hg)
  refine R_call call21 rfl rfl rfl ?_
  refine (before_any _ i x _ (hT.ext e0_5_4) hw (by omega) hx).mono ?_
  rintro e w9_4 ⟨rfl, rfl⟩
  refine ⟨_, rfl, ?_⟩
  refine R_ev (ev_move rfl) rfl rfl ?_
  have hSq := hSq0
  refine R_call call20 rfl rfl rfl ?_
  refine (lay_post (beforeL T pl i) (headAttrs a ((rowL T i).drop pl)) _ (headAttrs a ((rowL T i).drop pl)).length _ (hT.ext e0_5_4) hw hbl hSq (Nat.le_refl _) (by rw [headAttrs_len, List.length_drop]; omega) hne).mono ?_
  rintro e w9_6 ⟨b1, rfl, hT1, hw1, hF1, hb1⟩
  refine ⟨_, rfl, ?_⟩
  refine R_ev (ev_extract rfl rfl) rfl rfl ?_
  refine R_ev (ev_extract rfl rfl) rfl rfl ?_
  refine R_ev (ev_assign rfl) rfl rfl ?_
  refine R_ev (ev_assign rfl) rfl rfl ?_
  refine R_nil ?_
  refine nxt_n ?_
  refine W_ret ?_
  have hq : changeT T (i : Int) k a = layI T (beforeL T pl i) (headAttrs a ((rowL T i).drop pl)) := by unfold changeT; rw [if_pos ha]; simp only [Int.toNat_natCast, hf]
  rw [hq]
  exact end2 rfl rfl rfl (TabPost.ext ⟨b1, rfl, hT1, hw1, hF1, hb1⟩ e0_5_4)
theorem without_nil (n : Int) (k : V3) (w : World) : Calls Try.prog 13 #[.pointer none, .int .i64 n, .agg (en3 k).toArray] w fun e w' => e = .returned (.tuple #[.int .i64 0, .int .i64 1]) ∧ Ext w w' := by
  refine calls_E Try.func13 rfl rfl ?_
  simp only [envOf]
  refine W_seq ?_
  refine W_region ?_
  refine A_box rfl rfl rfl (fun w0_0 x0_0 b0_0 => ?_)
  refine R_ev (ev_assign rfl) rfl rfl ?_
  refine R_ev (ev_assign rfl) rfl rfl ?_
  refine R_nil ?_
  refine nxt_n ?_
  refine W_seq ?_
  refine W_seq ?_
  refine W_region ?_
  refine R_ev (ev_move rfl) rfl rfl ?_
  refine R_ev (ev_move rfl) rfl rfl ?_
  refine R_ev (ev_loadS rfl (here b0_0.all) agg31) rfl rfl ?_
  refine R_call call19 rfl rfl rfl ?_
  refine (asked_nil n k 0 _).mono ?_
  rintro e w1_3 ⟨rfl, x1_3⟩
  refine ⟨_, rfl, ?_⟩
  refine R_ev (ev_assign rfl) rfl rfl ?_
  refine R_nil ?_
  refine nxt_n ?_
  refine W_seq ?_
  refine W_region ?_
  refine R_ev (ev_move rfl) rfl rfl ?_
  refine R_ev (ev_ne rfl rfl) rfl rfl ?_
  refine R_nil ?_
  refine nxt_n ?_
  refine W_cond_t rfl ?_
  refine W_seq ?_
  refine W_region ?_
  refine R_ev (ev_move rfl) rfl rfl ?_
  refine R_ev (ev_assign rfl) rfl rfl ?_
  refine R_ev (ev_assign rfl) rfl rfl ?_
  refine R_nil ?_
  refine nxt_n ?_
  refine W_ret ?_
  refine nxt_r ?_
  have e0_2_1 : Ext w w1_3 := x0_0.trans x1_3
  exact end2 rfl rfl rfl ⟨rfl, e0_2_1⟩
theorem without_bad {p b m : Nat} {T : List ShD} (n : Int) (k : V3) (w : World) (hT : Tab w p b m T) (hw : WF T) (ha : ¬ askedE T n k 0 = 0) : Calls Try.prog 13 #[.pointer (some ⟨p, 0, none⟩), .int .i64 n, .agg (en3 k).toArray] w (TabPost p b m w (withoutT T n k)) := by
  refine calls_E Try.func13 rfl rfl ?_
  simp only [envOf]
  refine W_seq ?_
  refine W_region ?_
  refine A_box rfl rfl rfl (fun w0_0 x0_0 b0_0 => ?_)
  refine R_ev (ev_assign rfl) rfl rfl ?_
  refine R_ev (ev_assign rfl) rfl rfl ?_
  refine R_nil ?_
  refine nxt_n ?_
  refine W_seq ?_
  refine W_seq ?_
  refine W_region ?_
  refine R_ev (ev_move rfl) rfl rfl ?_
  refine R_ev (ev_move rfl) rfl rfl ?_
  refine R_ev (ev_loadS rfl (here b0_0.all) agg31) rfl rfl ?_
  refine R_call call19 rfl rfl rfl ?_
  refine (asked_any n k 0 _ (hT.ext x0_0)).mono ?_
  rintro e w1_3 ⟨rfl, x1_3⟩
  refine ⟨_, rfl, ?_⟩
  refine R_ev (ev_assign rfl) rfl rfl ?_
  refine R_nil ?_
  refine nxt_n ?_
  refine W_seq ?_
  refine W_region ?_
  refine R_ev (ev_move rfl) rfl rfl ?_
  refine R_ev (ev_ne rfl rfl) rfl rfl ?_
  refine R_nil ?_
  refine nxt_n ?_
  refine W_cond rfl (fun c0 => ?_) (fun c0 => ?_)
  · first | replace c0 := of_decide_eq_true c0 | replace c0 := of_decide_eq_false c0 | replace c0 := nd_true c0 | replace c0 := nd_false c0 | replace c0 := nb_true c0 | replace c0 := nb_false c0 | skip
    refine W_seq ?_
    refine W_region ?_
    refine R_ev (ev_move rfl) rfl rfl ?_
    refine R_ev (ev_assign rfl) rfl rfl ?_
    refine R_ev (ev_assign rfl) rfl rfl ?_
    refine R_nil ?_
    refine nxt_n ?_
    refine W_ret ?_
    refine nxt_r ?_
    have hq : withoutT T n k = (T, 0, askedE T n k 0) := by unfold withoutT; exact if_neg ha
    rw [hq]
    have e0_2_1 : Ext w w1_3 := x0_0.trans x1_3
    exact end2 rfl rfl rfl (tabPost_same (hT.ext e0_2_1) hw e0_2_1)
  · first | replace c0 := of_decide_eq_true c0 | replace c0 := of_decide_eq_false c0 | replace c0 := nd_true c0 | replace c0 := nd_false c0 | replace c0 := nb_true c0 | replace c0 := nb_false c0 | skip
    exact absurd c0 ha
theorem without_none {p b m : Nat} {T : List ShD} (i : Nat) (x : ShD) (k : V3) (w : World) (hT : Tab w p b m T) (hw : WF T) (hx : T[i]? = some x) (ha : askedE T i k 0 = 0) (hf : findL T k i = none) : Calls Try.prog 13 #[.pointer (some ⟨p, 0, none⟩), .int .i64 i, .agg (en3 k).toArray] w (TabPost p b m w (withoutT T (i : Int) k)) := by
  refine calls_E Try.func13 rfl rfl ?_
  simp only [envOf]
  refine W_seq ?_
  refine W_region ?_
  refine A_box rfl rfl rfl (fun w0_0 x0_0 b0_0 => ?_)
  refine R_ev (ev_assign rfl) rfl rfl ?_
  refine R_ev (ev_assign rfl) rfl rfl ?_
  refine R_nil ?_
  refine nxt_n ?_
  refine W_seq ?_
  refine W_seq ?_
  refine W_region ?_
  refine R_ev (ev_move rfl) rfl rfl ?_
  refine R_ev (ev_move rfl) rfl rfl ?_
  refine R_ev (ev_loadS rfl (here b0_0.all) agg31) rfl rfl ?_
  refine R_call call19 rfl rfl rfl ?_
  refine (asked_any _ k 0 _ (hT.ext x0_0)).mono ?_
  rintro e w1_3 ⟨rfl, x1_3⟩
  refine ⟨_, rfl, ?_⟩
  rw [ha]
  refine R_ev (ev_assign rfl) rfl rfl ?_
  refine R_nil ?_
  refine nxt_n ?_
  refine W_seq ?_
  refine W_region ?_
  refine R_ev (ev_move rfl) rfl rfl ?_
  refine R_ev (ev_ne rfl rfl) rfl rfl ?_
  refine R_nil ?_
  refine nxt_n ?_
  refine W_cond_f rfl ?_
  refine W_skip ?_
  refine nxt_n ?_
  refine W_seq ?_
  refine W_region ?_
  refine R_ev (ev_move rfl) rfl rfl ?_
  refine R_ev (ev_move rfl) rfl rfl ?_
  refine R_ev (ev_loadS rfl (here (b0_0.ext x1_3).all) agg31) rfl rfl ?_
  have e0_2_1 : Ext w w1_3 := x0_0.trans x1_3
  refine R_call call15 rfl rfl rfl ?_
  refine (find_in i x k _ (hT.ext e0_2_1) hw hx).mono ?_
  rintro e w4_3 ⟨rfl, x4_3⟩
  refine ⟨_, rfl, ?_⟩
  rw [hf]
  refine R_ev (ev_move rfl) rfl rfl ?_
  refine R_ev (ev_extract rfl rfl) rfl rfl ?_
  refine R_ev (ev_extract rfl rfl) rfl rfl ?_
  refine R_ev (ev_extract rfl rfl) rfl rfl ?_
  refine R_ev (ev_assign rfl) rfl rfl ?_
  refine R_ev (ev_assign rfl) rfl rfl ?_
  refine R_ev (ev_assign rfl) rfl rfl ?_
  refine R_nil ?_
  refine nxt_n ?_
  refine W_seq ?_
  refine W_seq ?_
  refine W_region ?_
  refine R_ev (ev_move rfl) rfl rfl ?_
  refine R_ev (ev_not rfl) rfl rfl ?_
  refine R_nil ?_
  refine nxt_n ?_
  refine W_cond_t rfl ?_
  refine W_seq ?_
  refine W_region ?_
  refine R_ev (ev_assign rfl) rfl rfl ?_
  refine R_ev (ev_assign rfl) rfl rfl ?_
  refine R_nil ?_
  refine nxt_n ?_
  refine W_ret ?_
  refine nxt_r ?_
  have hq : withoutT T (i : Int) k = (T, 0, 3) := by unfold withoutT; rw [if_pos ha]; simp only [Int.toNat_natCast, hf]
  rw [hq]
  have e0_3_2 : Ext w w4_3 := e0_2_1.trans x4_3
  exact end2 rfl rfl rfl (tabPost_same (hT.ext e0_3_2) hw e0_3_2)
theorem without_some {p b m : Nat} {T : List ShD} (i : Nat) (x : ShD) (k : V3) (w : World) (hT : Tab w p b m T) (hw : WF T) (hx : T[i]? = some x) (ha : askedE T i k 0 = 0) (pl : Nat) (at_ : Int) (hf : findL T k i = some ((pl : Int), at_)) : Calls Try.prog 13 #[.pointer (some ⟨p, 0, none⟩), .int .i64 i, .agg (en3 k).toArray] w (TabPost p b m w (withoutT T (i : Int) k)) := by
  have hlt : i < T.length := (List.getElem?_eq_some_iff.1 hx).1
  have hpl := find_pl hw i x _ _ hx hf
  have hrl := row_len hw i x hx
  have hxl := hw.len i x hx
  have hws := hw.size
  have hbl := before_lt hw (n := (pl : Int)) (by omega) i hlt
  have hplr : pl < (rowL T i).length := by omega
  refine calls_E Try.func13 rfl rfl ?_
  simp only [envOf]
  refine W_seq ?_
  refine W_region ?_
  refine A_box rfl rfl rfl (fun w0_0 x0_0 b0_0 => ?_)
  refine R_ev (ev_assign rfl) rfl rfl ?_
  refine R_ev (ev_assign rfl) rfl rfl ?_
  refine R_nil ?_
  refine nxt_n ?_
  refine W_seq ?_
  refine W_seq ?_
  refine W_region ?_
  refine R_ev (ev_move rfl) rfl rfl ?_
  refine R_ev (ev_move rfl) rfl rfl ?_
  refine R_ev (ev_loadS rfl (here b0_0.all) agg31) rfl rfl ?_
  refine R_call call19 rfl rfl rfl ?_
  refine (asked_any _ k 0 _ (hT.ext x0_0)).mono ?_
  rintro e w1_3 ⟨rfl, x1_3⟩
  refine ⟨_, rfl, ?_⟩
  rw [ha]
  refine R_ev (ev_assign rfl) rfl rfl ?_
  refine R_nil ?_
  refine nxt_n ?_
  refine W_seq ?_
  refine W_region ?_
  refine R_ev (ev_move rfl) rfl rfl ?_
  refine R_ev (ev_ne rfl rfl) rfl rfl ?_
  refine R_nil ?_
  refine nxt_n ?_
  refine W_cond_f rfl ?_
  refine W_skip ?_
  refine nxt_n ?_
  refine W_seq ?_
  refine W_region ?_
  refine R_ev (ev_move rfl) rfl rfl ?_
  refine R_ev (ev_move rfl) rfl rfl ?_
  refine R_ev (ev_loadS rfl (here (b0_0.ext x1_3).all) agg31) rfl rfl ?_
  have e0_2_1 : Ext w w1_3 := x0_0.trans x1_3
  refine R_call call15 rfl rfl rfl ?_
  refine (find_in i x k _ (hT.ext e0_2_1) hw hx).mono ?_
  rintro e w4_3 ⟨rfl, x4_3⟩
  refine ⟨_, rfl, ?_⟩
  rw [hf]
  refine R_ev (ev_move rfl) rfl rfl ?_
  refine R_ev (ev_extract rfl rfl) rfl rfl ?_
  refine R_ev (ev_extract rfl rfl) rfl rfl ?_
  refine R_ev (ev_extract rfl rfl) rfl rfl ?_
  refine R_ev (ev_assign rfl) rfl rfl ?_
  refine R_ev (ev_assign rfl) rfl rfl ?_
  refine R_ev (ev_assign rfl) rfl rfl ?_
  refine R_nil ?_
  refine nxt_n ?_
  refine W_seq ?_
  refine W_seq ?_
  refine W_region ?_
  refine R_ev (ev_move rfl) rfl rfl ?_
  refine R_ev (ev_not rfl) rfl rfl ?_
  refine R_nil ?_
  refine nxt_n ?_
  refine W_cond_f rfl ?_
  refine W_skip ?_
  refine nxt_n ?_
  refine W_seq ?_
  refine W_region ?_
  refine R_ev (ev_move rfl) rfl rfl ?_
  refine R_ev (ev_move rfl) rfl rfl ?_
  refine R_ev (ev_move rfl) rfl rfl ?_
  refine R_ev (ev_move rfl) rfl rfl ?_
  have e0_3_2 : Ext w w4_3 := e0_2_1.trans x4_3
  refine R_call call21 rfl rfl rfl ?_
  refine (before_any _ i x _ (hT.ext e0_3_2) hw (by omega) hx).mono ?_
  rintro e w7_4 ⟨rfl, rfl⟩
  refine ⟨_, rfl, ?_⟩
  refine R_ev (ev_move rfl) rfl rfl ?_
  refine R_ev (ev_move rfl) rfl rfl ?_
  have hTb := (hT.ext e0_3_2).ltb
  refine R_call call22 rfl rfl rfl ?_
  refine (row_in i x _ (hT.ext e0_3_2) hw hx).mono ?_
  rintro e w7_7 ⟨g, rfl, hg, hR, x7_7⟩
  refine ⟨_, rfl, ?_⟩
  refine R_ev (ev_move rfl) rfl rfl ?_
  refine R_ev (ev_add rfl rfl (by omega) (by omega)) rfl rfl ?_
  refine R_ev (ev_slice (l := pl + 1) (h := (rowL T i).length) rfl Try.underlying35 size37 rfl rfl (by omega) (by omega)) rfl rfl ?_
  have hln : (rowL T i).length - (pl + 1) = ((rowL T i).drop (pl + 1)).length := by simp
  rw [hln]
  have hSq : SqA w7_7 37 6 enS (cutA (some ⟨g, 0, none⟩) (rowL T i).length (pl + 1) 6) ((rowL T i).drop (pl + 1)) := by
    have h := (hR.sq enS_len).cut (pl + 1) (rowL T i).length (rowL T i).length (Nat.le_refl _)
    rwa [List.take_of_length_le (by simp)] at h
  have hne : 0 < ((rowL T i).drop (pl + 1)).length → bl (cutA (some ⟨g, 0, none⟩) (rowL T i).length (pl + 1) 6) ≠ b := fun h0 => by rw [cut_some _ _ _ _ (by simp at h0; omega)]; show g ≠ b; omega
  have e0_4_3 : Ext w w7_7 := e0_3_2.trans x7_7
  refine R_call call20 rfl rfl rfl ?_
  refine (lay_post (beforeL T pl i) ((rowL T i).drop (pl + 1)) _ ((rowL T i).drop (pl + 1)).length _ (hT.ext e0_4_3) hw hbl hSq (Nat.le_refl _) (by rw [List.length_drop]; omega) hne).mono ?_
  rintro e w7_11 ⟨b1, rfl, hT1, hw1, hF1, hb1⟩
  refine ⟨_, rfl, ?_⟩
  refine R_ev (ev_extract rfl rfl) rfl rfl ?_
  refine R_ev (ev_extract rfl rfl) rfl rfl ?_
  refine R_ev (ev_assign rfl) rfl rfl ?_
  refine R_ev (ev_assign rfl) rfl rfl ?_
  refine R_nil ?_
  refine nxt_n ?_
  refine W_ret ?_
  have hq : withoutT T (i : Int) k = layI T (beforeL T pl i) ((rowL T i).drop (pl + 1)) := by unfold withoutT; rw [if_pos ha]; simp only [Int.toNat_natCast, hf]
  rw [hq]
  exact end2 rfl rfl rfl (TabPost.ext ⟨b1, rfl, hT1, hw1, hF1, hb1⟩ e0_4_3)
end Go.Proofs.Ytmiecljgcbfklaa

