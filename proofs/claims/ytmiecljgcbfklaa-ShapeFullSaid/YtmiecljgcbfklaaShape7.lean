/- Shapes: lay (walk printed by shape7.py). -/
import Derived.Test.YtmiecljgcbfklaaShape6
namespace Go.Proofs.Ytmiecljgcbfklaa
open Go.RowKit
theorem lay_any {p b m : Nat} {T : List ShD} (a0 : Nat) (l : List ShD) (A : Option Addr) (c : Nat) (w : World) (hT : Tab w p b m T) (hw : WF T) (ha : a0 < T.length) (hl : SqA w 37 6 enS A l) (hc : l.length ≤ c) (hc2 : c ≤ 9223372036854775807) (hne : 0 < l.length → bl A ≠ b) : Calls Try.prog 20 #[.pointer (some ⟨p, 0, none⟩), .int .i64 a0, .slice A l.length c] w fun e w' => ∃ b', e = .returned (.tuple #[.int .i64 ((layT T a0 l).2.1 : Int), .int .i64 (layT T a0 l).2.2]) ∧ Tab w' p b' m (layT T a0 l).1 ∧ WF (layT T a0 l).1 ∧ Fr (OwnT p b m) w w' ∧ (b' = b ∨ w.heap.size ≤ b') := by
  have hT0 := hT
  obtain ⟨cap, cur, hP, hA, hc1, hcm, hcs, hct, hM⟩ := hT0
  unfold maxLen at hcm
  have hs := hw.size
  refine calls_E Try.func20 rfl rfl ?_
  simp only [envOf]
  refine W_seq ?_
  refine W_region ?_
  refine R_ev (ev_assign rfl) rfl rfl ?_
  refine R_ev (ev_assign rfl) rfl rfl ?_
  refine R_nil ?_
  refine nxt_n ?_
  refine W_seq ?_
  refine W_region ?_
  refine R_ev (ev_move rfl) rfl rfl ?_
  refine R_ev (ev_move rfl) rfl rfl ?_
  refine R_ev (ev_assign rfl) rfl rfl ?_
  refine R_ev (ev_assign rfl) rfl rfl ?_
  refine R_nil ?_
  refine nxt_n ?_
  refine W_seqj (ι := Nat × Option Addr × List ShD × Nat) (fun z => [(0, .pointer (some ⟨p, 0, none⟩)), (6, .int .i64 0), (7, .int .i64 0), (8, .int .i64 (z.1 : Int)), (9, .slice z.2.1 z.2.2.1.length z.2.2.2)]) (fun z => fun w' => Ext w w' ∧ (z.1 < T.length) ∧ (SqA w' 37 6 enS z.2.1 z.2.2.1) ∧ (z.2.2.1.length ≤ z.2.2.2) ∧ (z.2.2.2 ≤ 9223372036854775807) ∧ (0 < z.2.2.1.length → bl z.2.1 ≠ b) ∧ (foll T a0 l = (z.1, z.2.2.1)) ∧ (∀ x, z.2.2.1[0]? = some x → lk (prs T) ((z.1 : Int), x.key, x.attrs) = none)) ?_ ?_
  · refine W_block ?_
    refine W_loop (ι := Nat × Option Addr × List ShD × Nat) (fun z => [(0, .pointer (some ⟨p, 0, none⟩)), (6, .int .i64 0), (7, .int .i64 0), (8, .int .i64 (z.1 : Int)), (9, .slice z.2.1 z.2.2.1.length z.2.2.2)]) (fun z => fun w' => Ext w w' ∧ (z.1 < T.length) ∧ (SqA w' 37 6 enS z.2.1 z.2.2.1) ∧ (z.2.2.1.length ≤ z.2.2.2) ∧ (z.2.2.2 ≤ 9223372036854775807) ∧ (0 < z.2.2.1.length → bl z.2.1 ≠ b) ∧ (foll T z.1 z.2.2.1 = foll T a0 l)) (fun z => z.2.2.1.length) (a0, A, l, c) (sub_cons rfl (sub_cons rfl (sub_cons rfl (sub_cons rfl (sub_cons rfl sub_nil))))) ?_ ?_
    · exact ⟨(Ext.refl w), ha, hl, hc, hc2, hne, rfl⟩
    rintro ⟨a, B, r, cc⟩ wl0 ⟨hl0, ha, hL, hr1, hr2, hne, hf⟩
    try dsimp only
    dsimp only at ha hL hr1 hr2 hne hf
    refine W_seq ?_
    refine W_seq ?_
    refine W_region ?_
    refine R_ev (ev_move rfl) rfl rfl ?_
    refine R_ev (ev_len rfl Try.underlying35) rfl rfl ?_
    refine R_ev (ev_gt rfl rfl) rfl rfl ?_
    refine R_nil ?_
    refine nxt_n ?_
    refine W_cond rfl (fun c0 => ?_) (fun c0 => ?_)
    · first | replace c0 := of_decide_eq_true c0 | replace c0 := of_decide_eq_false c0 | replace c0 := nd_true c0 | replace c0 := nd_false c0 | replace c0 := nb_true c0 | replace c0 := nb_false c0 | skip
      obtain ⟨x, r, rfl⟩ : ∃ x r', r = x :: r' := by
        cases r with
        | nil => simp at c0
        | cons x r => exact ⟨x, r, rfl⟩
      refine W_skip ?_
      refine nxt_n ?_
      refine W_block ?_
      refine W_seq ?_
      refine W_drawn (fun w' => Ext wl0 w') (by kernel_rfl) (by kernel_rfl) (drew_ext _) ?_
      refine Q_ev (ev_move rfl) rfl rfl ?_
      refine Q_ev (ev_nilCheck rfl) rfl rfl ?_
      refine Q_ev (ev_fa rfl fa_54_1) rfl rfl ?_
      refine Q_ev (ev_load1 rfl one52 (fun _ hx => ((hP.ext (hl0.trans hx)).at rfl))) rfl rfl ?_
      refine Q_ev (ev_move rfl) rfl rfl ?_
      refine Q_ev (ev_move rfl) rfl rfl ?_
      refine Q_ev (ev_idxA rfl rfl Try.underlying35 size37 hL.nn (by omega) (by omega)) rfl rfl ?_
      refine Q_ev (ev_fa rfl fa_37_1) rfl rfl ?_
      refine Q_ev (ev_loadS rfl (fun _ hx => (((hL.ext hx).get (List.getElem?_cons_zero)).part 1 3)) agg31) rfl rfl ?_
      refine Q_ev (ev_move rfl) rfl rfl ?_
      refine Q_ev (ev_idxA rfl rfl Try.underlying35 size37 hL.nn (by omega) (by omega)) rfl rfl ?_
      refine Q_ev (ev_fa rfl fa_37_2) rfl rfl ?_
      refine Q_ev (ev_load1 rfl one3 (fun _ hx => (((hL.ext hx).get (List.getElem?_cons_zero)) 4 _ rfl))) rfl rfl ?_
      refine Q_ev (ev_build rfl (bld_63_0_1_2 _ _ _ _ _)) rfl rfl ?_
      refine Q_ev (ev_lookup2 (a := ((a : Int), x.key, x.attrs)) rfl rfl Try.underlying52 keyOk_step (fun w => rfl) (fun _ hx => (hM.ext (hl0.trans hx)))) rfl rfl ?_
      refine Q_ev (ev_move rfl) rfl rfl ?_
      refine Q_ev (ev_extract rfl rfl) rfl rfl ?_
      refine Q_ev (ev_extract rfl rfl) rfl rfl ?_
      refine Q_ev (ev_assign rfl) rfl rfl ?_
      refine Q_ev (ev_assign rfl) rfl rfl ?_
      refine Q_nil (fun w3 x3 => ?_)
      refine nxt_n ?_
      refine W_seq ?_
      refine W_seq ?_
      refine W_region ?_
      refine R_ev (ev_move rfl) rfl rfl ?_
      refine R_ev (ev_not rfl) rfl rfl ?_
      refine R_nil ?_
      refine nxt_n ?_
      refine W_cond rfl (fun c1 => ?_) (fun c1 => ?_)
      · first | replace c1 := of_decide_eq_true c1 | replace c1 := of_decide_eq_false c1 | replace c1 := nd_true c1 | replace c1 := nd_false c1 | replace c1 := nb_true c1 | replace c1 := nb_false c1 | skip
        have hln : lk (prs T) ((a : Int), x.key, x.attrs) = none := by cases h : lk (prs T) ((a : Int), x.key, x.attrs) with
          | none => rfl
          | some j => rw [h] at c1; simp at c1
        refine W_exit ?_
        refine nxt_e ?_
        refine blk_o rfl ?_
        refine nxt_e ?_
        refine blk_x ?_
        refine nxt_n ?_
        have e0_2_1 : Ext w w3 := hl0.trans x3
        exact ⟨(a, B, x :: r, cc), sub_cons rfl (sub_cons rfl (sub_cons rfl (sub_cons rfl (sub_cons rfl sub_nil)))), ⟨e0_2_1, ha, (hL.ext x3), hr1, hr2, hne, (by rw [← hf]; first | exact foll_none hln | (have h0 : r = [] := List.eq_nil_of_length_eq_zero (by omega); subst h0; rfl)), (fun x hx => by first | (cases hx; exact hln) | (have h0 : r = [] := List.eq_nil_of_length_eq_zero (by omega); subst h0; cases hx))⟩⟩
      · first | replace c1 := of_decide_eq_true c1 | replace c1 := of_decide_eq_false c1 | replace c1 := nd_true c1 | replace c1 := nd_false c1 | replace c1 := nb_true c1 | replace c1 := nb_false c1 | skip
        obtain ⟨j, hlj⟩ : ∃ j, lk (prs T) ((a : Int), x.key, x.attrs) = some j := by cases h : lk (prs T) ((a : Int), x.key, x.attrs) with
          | none => rw [h] at c1; simp at c1
          | some j => exact ⟨j, rfl⟩
        obtain ⟨xj, hj, -, -⟩ := lk_prs hlj
        rw [hlj]
        refine W_skip ?_
        refine nxt_n ?_
        refine W_drawn (fun w' => Ext w3 w') (by kernel_rfl) (by kernel_rfl) (drew_ext _) ?_
        refine Q_ev (ev_move rfl) rfl rfl ?_
        refine Q_ev (ev_move rfl) rfl rfl ?_
        refine Q_ev (ev_slice (l := 1) (h := (x :: r).length) rfl Try.underlying35 size37 rfl rfl (by omega) (by omega)) rfl rfl ?_
        refine Q_ev (ev_assign rfl) rfl rfl ?_
        refine Q_ev (ev_assign rfl) rfl rfl ?_
        refine Q_nil (fun w5 x5 => ?_)
        refine blk_n ?_
        refine nxt_n ?_
        have e0_2_2 : Ext w w3 := hl0.trans x3
        have e0_3_3 : Ext w w5 := e0_2_2.trans x5
        have e1_3_4 : Ext wl0 w5 := x3.trans x5
        exact ⟨(j, cutA B cc 1 6, r, cc - 1), sub_cons rfl (sub_cons rfl (sub_cons rfl (sub_cons rfl (sub_cons rfl sub_nil)))), ⟨e0_3_3, (List.getElem?_eq_some_iff.1 hj).1, ((hL.ext e1_3_4).tail cc hr1), (by simp only [List.length_cons] at hr1 ⊢; omega), (by dsimp only; omega), (fun h0 => by rw [bl_cut hL (by simp) cc 1]; exact hne (by simp)), (by rw [← hf]; exact (foll_some hlj).symm)⟩, by simp⟩
    · first | replace c0 := of_decide_eq_true c0 | replace c0 := of_decide_eq_false c0 | replace c0 := nd_true c0 | replace c0 := nd_false c0 | replace c0 := nb_true c0 | replace c0 := nb_false c0 | skip
      refine W_exit ?_
      refine nxt_e ?_
      refine nxt_e ?_
      refine blk_x ?_
      refine nxt_n ?_
      exact ⟨(a, B, r, cc), sub_cons rfl (sub_cons rfl (sub_cons rfl (sub_cons rfl (sub_cons rfl sub_nil)))), ⟨hl0, ha, hL, hr1, hr2, hne, (by rw [← hf]; first | exact foll_none hln | (have h0 : r = [] := List.eq_nil_of_length_eq_zero (by omega); subst h0; rfl)), (fun x hx => by first | (cases hx; exact hln) | (have h0 : r = [] := List.eq_nil_of_length_eq_zero (by omega); subst h0; cases hx))⟩⟩
  rintro ⟨a1, B, r, cc⟩ wj0 ⟨hj0, ha1, hL, hr1, hr2, hne1, hfo, hno⟩
  try dsimp only
  dsimp only at ha1 hL hr1 hr2 hne1 hfo hno
  refine W_seq ?_
  refine W_seq ?_
  refine W_region ?_
  refine R_ev (ev_move rfl) rfl rfl ?_
  refine R_ev (ev_len rfl Try.underlying35) rfl rfl ?_
  refine R_ev (ev_move rfl) rfl rfl ?_
  refine R_ev (ev_nilCheck rfl) rfl rfl ?_
  refine R_ev (ev_fa0 rfl fa_54_0) rfl rfl ?_
  refine R_ev (ev_load1 rfl one35 (here ((hP.ext hj0).at rfl))) rfl rfl ?_
  refine R_ev (ev_len rfl Try.underlying35) rfl rfl ?_
  refine R_ev (ev_sub rfl rfl (by omega) (by omega)) rfl rfl ?_
  refine R_ev (ev_gt rfl rfl) rfl rfl ?_
  refine R_nil ?_
  refine nxt_n ?_
  refine W_cond rfl (fun c2 => ?_) (fun c2 => ?_)
  · first | replace c2 := of_decide_eq_true c2 | replace c2 := of_decide_eq_false c2 | replace c2 := nd_true c2 | replace c2 := nd_false c2 | replace c2 := nb_true c2 | replace c2 := nb_false c2 | skip
    refine W_seq ?_
    refine W_region ?_
    refine R_ev (ev_assign rfl) rfl rfl ?_
    refine R_ev (ev_assign rfl) rfl rfl ?_
    refine R_nil ?_
    refine nxt_n ?_
    refine W_ret ?_
    refine nxt_r ?_
    have hlay : layT T a0 l = (T, 0, 5) := by unfold layT; rw [hfo]; exact if_pos (by dsimp only; omega)
    rw [hlay]
    exact end2 rfl rfl rfl ⟨b, rfl, hT.ext hj0, hw, Fr.of_ext hj0, .inl rfl⟩
  · first | replace c2 := of_decide_eq_true c2 | replace c2 := of_decide_eq_false c2 | replace c2 := nd_true c2 | replace c2 := nd_false c2 | replace c2 := nb_true c2 | replace c2 := nb_false c2 | skip
    refine W_skip ?_
    refine nxt_n ?_
    refine W_seq ?_
    refine W_seq ?_
    refine W_region ?_
    refine R_ev (ev_move rfl) rfl rfl ?_
    refine R_ev (ev_len rfl Try.underlying35) rfl rfl ?_
    refine R_ev (ev_move rfl) rfl rfl ?_
    refine R_nil ?_
    refine nxt_n ?_
    refine W_block ?_
    refine W_loop (ι := Nat × Nat × Nat × List ShD) (fun y => [(0, .pointer (some ⟨p, 0, none⟩)), (8, .int .i64 (y.2.1 : Int)), (51, .slice B r.length cc), (52, .int .i64 (r.length : Int)), (53, .int .i64 (y.1 : Int))]) (fun y => fun w' => Fr (OwnT p b m) w w' ∧ (Tab w' p y.2.2.1 m y.2.2.2) ∧ (WF y.2.2.2) ∧ (y.2.1 < y.2.2.2.length) ∧ (y.2.2.1 = b ∨ w.heap.size ≤ y.2.2.1) ∧ (SqA w' 37 6 enS B r) ∧ (0 < r.length → bl B ≠ y.2.2.1) ∧ (y.2.2.2.length = T.length + y.1) ∧ (y.1 ≤ r.length) ∧ (grow y.2.2.2 y.2.1 (r.drop y.1) = grow T a1 r) ∧ (∀ x, r[y.1]? = some x → lk (prs y.2.2.2) ((y.2.1 : Int), x.key, x.attrs) = none)) (fun y => r.length - y.1) (0, a1, b, T) (sub_cons rfl (sub_cons rfl (sub_cons rfl (sub_cons rfl (sub_cons rfl sub_nil))))) ?_ ?_
    · exact ⟨Fr.of_ext hj0, (hT.ext hj0), hw, ha1, .inl rfl, hL, hne1, (Nat.add_zero _).symm, Nat.zero_le _, rfl, hno⟩
    rintro ⟨i, a, bb, V⟩ wl1 ⟨hl1, hT, hw, ha, hbb, hL, hne, hlen, hi, hg, hnone⟩
    try dsimp only
    dsimp only at hT hw ha hbb hL hne hlen hi hg hnone
    obtain ⟨cap, cur, hP, hA, hc1, hcm, hcs, hct, hM⟩ := hT
    unfold maxLen at hcm
    refine W_seq ?_
    refine W_region ?_
    refine R_ev (ev_lt rfl rfl) rfl rfl ?_
    refine R_nil ?_
    refine nxt_n ?_
    refine W_seq ?_
    refine W_cond rfl (fun c3 => ?_) (fun c3 => ?_)
    · first | replace c3 := of_decide_eq_true c3 | replace c3 := of_decide_eq_false c3 | replace c3 := nd_true c3 | replace c3 := nd_false c3 | replace c3 := nb_true c3 | replace c3 := nb_false c3 | skip
      obtain ⟨x, hx⟩ : ∃ x, r[i]? = some x := ⟨r[i]'(by omega), List.getElem?_eq_getElem _⟩
      obtain ⟨ya, hya⟩ : ∃ y, V[a]? = some y := ⟨V[a], List.getElem?_eq_getElem _⟩
      have hly : lenAt V a = ya.len := by simp [lenAt, hya]
      have hyl := hw.len a ya hya
      refine W_skip ?_
      refine nxt_n ?_
      refine W_seq ?_
      refine W_block ?_
      refine W_seq ?_
      refine W_region ?_
      refine R_ev (ev_idxA rfl rfl Try.underlying35 size37 hL.nn (by omega) (by omega)) rfl rfl ?_
      refine R_ev (ev_loadS rfl (here (hL.get hx)) agg37) rfl rfl ?_
      refine A_alloc zero37 rfl rfl (fun w10_2 x10_2 b10_2 => ?_)
      refine A_storeRow rfl rfl b10_2 size37 rfl rfl rfl (fun w10_3 x10_3 b10_3 => ?_)
      refine R_nil ?_
      refine nxt_n ?_
      refine W_seq ?_
      refine W_tail 15 (by kernel_rfl) (by kernel_rfl) (fun w11 x11 => ?_)
      refine S_ev (ev_move rfl) rfl rfl ?_
      refine S_ev (ev_nilCheck rfl) rfl rfl ?_
      refine S_ev (ev_fa rfl fa_54_1) rfl rfl ?_
      have e1_3_5 : Ext wl1 w10_3 := x10_3.ext x10_2 (fun q e => e ▸ Nat.le_refl _)
      have e1_4_6 : Ext wl1 w11 := e1_3_5.trans x11
      refine S_ev (ev_load1 rfl one52 (here ((hP.ext e1_4_6).at rfl))) rfl rfl ?_
      refine S_ev (ev_move rfl) rfl rfl ?_
      refine S_ev (ev_fa rfl fa_37_1) rfl rfl ?_
      refine S_ev (ev_loadS rfl (here ((b10_3.ext x11).all.part 1 3)) agg31) rfl rfl ?_
      refine S_ev (ev_fa rfl fa_37_2) rfl rfl ?_
      refine S_ev (ev_load1 rfl one3 (here ((b10_3.ext x11).at rfl))) rfl rfl ?_
      refine S_ev (ev_build rfl (bld_63_0_1_2 _ _ _ _ _)) rfl rfl ?_
      refine S_ev (ev_move rfl) rfl rfl ?_
      refine S_ev (ev_nilCheck rfl) rfl rfl ?_
      refine S_ev (ev_fa0 rfl fa_54_0) rfl rfl ?_
      refine S_ev (ev_load1 rfl one35 (here ((hP.ext e1_4_6).at rfl))) rfl rfl ?_
      refine S_ev (ev_len rfl Try.underlying35) rfl rfl ?_
      refine S_nil ?_
      refine A_mapUpdate (ek := stepE) (ev := natE) (a := ((a : Int), x.key, x.attrs)) (b := V.length) rfl rfl rfl Try.underlying52 keyOk_step (hM.ext e1_4_6) rfl (fun w11_15 x11_15 m11_15 => ?_)
      have hP1 := (hP.ext e1_4_6)
      have hA1 := (hA.ext e1_4_6)
      have hM1 := (hM.ext e1_4_6)
      have hK1 := (b10_3.ext x11)
      have hP2 := hP1.fr x11_15 (fun e => hM1.ne_blk hP1 e.symm)
      have hA2 := hA1.fr x11_15 (fun e => hM1.ne_blk hA1 e.symm)
      have hK2 := hK1.fr x11_15 (fun e => hM1.ne_blk hK1 e.symm)
      have hE11 : Ext wl1 w11 := e1_4_6
      refine R_nil ?_
      refine nxt_n ?_
      refine W_seq ?_
      refine W_takes (by kernel_rfl) (fun w12 x12 => ?_)
      refine T_ev 0 rfl (by kernel_rfl) (ev_move rfl) rfl rfl ?_
      refine T_ev 1 rfl (by kernel_rfl) (ev_move rfl) rfl rfl ?_
      refine T_ev 2 rfl (by kernel_rfl) (ev_nilCheck rfl) rfl rfl ?_
      refine T_ev 3 rfl (by kernel_rfl) (ev_fa0 rfl fa_54_0) rfl rfl ?_
      refine T_ev 5 rfl (by kernel_rfl) (ev_move rfl) rfl rfl ?_
      refine T_ev 6 rfl (by kernel_rfl) (ev_fa rfl fa_37_1) rfl rfl ?_
      refine T_ev 8 rfl (by kernel_rfl) (ev_fa rfl fa_37_2) rfl rfl ?_
      refine T_ev 10 rfl (by kernel_rfl) (ev_move rfl) rfl rfl ?_
      refine T_ev 11 rfl (by kernel_rfl) (ev_nilCheck rfl) rfl rfl ?_
      refine T_ev 12 rfl (by kernel_rfl) (ev_fa0 rfl fa_54_0) rfl rfl ?_
      refine T_rd 13 rfl (by kernel_rfl) (ev_load1 rfl one35 (fun _ hx => ((hP2.ext (x12.trans hx)).at rfl))) rfl rfl ?_
      refine T_ev 14 rfl (by kernel_rfl) (ev_move rfl) rfl rfl ?_
      refine T_ev 15 rfl (by kernel_rfl) (ev_idx rfl rfl Try.underlying35 size37 (by omega) (by omega)) rfl rfl ?_
      refine T_ev 16 rfl (by kernel_rfl) (ev_fa rfl fa_37_3) rfl rfl ?_
      refine T_rd 17 rfl (by kernel_rfl) (ev_load1 rfl one3 (fun _ hx => ((arr_get (hA2.ext (x12.trans hx)) hct hya) 5 _ rfl))) rfl rfl ?_
      refine T_ev 18 rfl (by kernel_rfl) (ev_add rfl rfl (by omega) (by omega)) rfl rfl ?_
      refine T_rd 7 rfl (by kernel_rfl) (ev_loadS rfl (fun _ hx => ((hK2.ext (x12.trans hx)).all.part 1 3)) agg31) rfl rfl ?_
      refine T_rd 9 rfl (by kernel_rfl) (ev_load1 rfl one3 (fun _ hx => ((hK2.ext (x12.trans hx)).at rfl))) rfl rfl ?_
      refine T_ev 19 rfl (by kernel_rfl) (ev_build rfl (bld_37_0_1_2_3 _ _ _ _ _ _)) rfl rfl ?_
      refine T_rd 4 rfl (by kernel_rfl) (ev_load1 rfl one35 (fun _ hx => ((hP2.ext (x12.trans hx)).at rfl))) rfl rfl ?_
      refine T_seq 20 (by kernel_rfl) ?_
      refine A_bslice rfl (bsl_35_1 _ _ _ _ _ _ _) rfl rfl (fun w12_20 x12_20 b12_20 => ?_)
      have e5_7_7 : Ext w11_15 w12_20 := x12.trans x12_20
      have hE12 : Ext w11_15 w12_20 := e5_7_7
      have hP3 := (hP2.ext e5_7_7)
      have hA3 := (hA2.ext e5_7_7)
      have hM3 := (m11_15.ext e5_7_7)
      have hN3 := b12_20
      refine A_append (base := 0) (k := V.length) (by_ := 56) rfl rfl Try.underlying35 rfl rfl rfl rfl rfl (by decide) (⟨flatS_len enS_len V, .inr ⟨bb, cap, cur, rfl, Nat.zero_le _, hA3, hc1, hcm, hcs, hct⟩⟩ : World.ownsRow w12_20 0 37 6 (.slice (some ⟨bb, 0, none⟩) V.length cap) V.length (V.flatMap enS)) hN3.all rfl rfl (by unfold maxLen; omega) (by omega) (Nat.zero_le _) rfl rfl (fun v12_21 w12_21 o12_21 f12_21 n12_21 => ?_)
      have hPb : p ≠ bb := fun e => by subst e; unfold Blk at hP3 hA3; rw [hP3] at hA3; cases hA3
      have hF2 : Fr (· = bb) w12_20 w12_21 := f12_21.mono fun q _ hq => (Option.some.inj hq).symm
      have hP4 := hP3.fr hF2 hPb
      have hM4 := hM3.fr hF2 (hM3.ne_blk hA3)
      obtain ⟨b2, cap2, cur2, rfl, hA4, hc1', hcm', hcs', hct'⟩ := own_tab o12_21
      refine R_ev (ev_nilCheck rfl) rfl rfl ?_
      refine R_ev (ev_fa0 rfl fa_54_0) rfl rfl ?_
      refine A_storeAt rfl rfl hP4 rfl rfl size35 rfl (fun w12_24 x12_24 hP5 => ?_)
      have hPb2 : b2 ≠ p := fun e => by subst e; unfold Blk at hP4 hA4; rw [hP4] at hA4; cases hA4
      have hA5 := hA4.fr x12_24 hPb2
      have hM5 := hM4.fr x12_24 (hM4.ne_blk hP4)
      rw [upL_new (hnone x hx)] at hM5
      have hnl : (V ++ [(⟨(a : Int), x.key, x.attrs, lenAt V a + 1⟩ : ShD)]).length = V.length + 1 := by simp
      have hT5 : Tab w12_24 p b2 m (V ++ [⟨(a : Int), x.key, x.attrs, lenAt V a + 1⟩]) := ⟨cap2, cur2, by rw [hnl]; exact hP5, hA5, by rw [hnl]; exact hc1', hcm', hcs', by rw [hnl, hct', List.flatMap_append, hly]; rfl, by rw [prs_snoc (by omega)]; exact hM5⟩
      have hF5 : Fr (OwnT p bb m) wl1 w12_24 := (((Fr.of_ext hE11).trans (x11_15.mono fun q _ hq => .inr (.inr hq))).trans ((Fr.of_ext hE12).trans (hF2.mono fun q _ hq => .inr (.inl hq)))).trans (x12_24.mono fun q _ hq => .inl hq)
      have hb2 : b2 = bb ∨ wl1.heap.size ≤ b2 := by
        rcases n12_21 b2 rfl with h | h
        · cases h; exact .inl rfl
        · exact .inr (Nat.le_trans (Nat.le_trans hE11.size x11_15.size) (Nat.le_trans hE12.size h))
      have hFe : Fr (OwnT p b m) w w12_24 := fr_step hl1 hF5 hbb
      have hbe : b2 = b ∨ w.heap.size ≤ b2 := by rcases hb2 with h | h; exact h ▸ hbb; exact .inr (Nat.le_trans hl1.size h)
      have hLe := hL.fr hF5 (fun h0 => own_not hL h0 hP hA hM (hne h0))
      have hnee : 0 < r.length → bl B ≠ b2 := fun h0 e => by rcases hb2 with h | h; exact hne h0 (e.trans h); have := hL.lt h0; omega
      have hge : grow (V ++ [⟨(a : Int), x.key, x.attrs, lenAt V a + 1⟩]) V.length (r.drop (i + 1)) = grow T a1 r := by rw [← hg, List.drop_eq_getElem_cons (List.getElem?_eq_some_iff.1 hx).1, (List.getElem?_eq_some_iff.1 hx).2]; rfl
      refine R_only ?_
      refine nxt_n ?_
      refine W_region ?_
      refine R_ev (ev_move rfl) rfl rfl ?_
      refine R_ev (ev_nilCheck rfl) rfl rfl ?_
      refine R_ev (ev_fa0 rfl fa_54_0) rfl rfl ?_
      refine R_ev (ev_load1 rfl one35 (here (hP5.at rfl))) rfl rfl ?_
      refine R_ev (ev_len rfl Try.underlying35) rfl rfl ?_
      refine R_ev (ev_sub rfl rfl (by omega) (by omega)) rfl rfl ?_
      refine R_ev (ev_assign rfl) rfl rfl ?_
      refine R_nil ?_
      refine blk_n ?_
      refine nxt_n ?_
      refine W_region ?_
      refine R_ev (ev_add rfl rfl (by omega) (by omega)) rfl rfl ?_
      refine R_ev (ev_move rfl) rfl rfl ?_
      refine R_nil ?_
      refine nxt_n ?_
      exact ⟨(i + 1, V.length, b2, V ++ [⟨(a : Int), x.key, x.attrs, lenAt V a + 1⟩]), sub_cons rfl (sub_cons (congrArg (fun z => some (Value.int .i64 z)) (by simp)) (sub_cons rfl (sub_cons rfl (sub_cons (congrArg (fun z => some (Value.int .i64 z)) (by simp)) sub_nil)))), ⟨hFe, hT5, hw.snoc a x.key x.attrs ha (by omega), (by simp), hbe, hLe, hnee, (by simp; omega), (by dsimp only; omega), hge, (fun y hy => by dsimp only; exact lk_newest (hw.snoc a x.key x.attrs ha (by omega)) _ _ V.length (by simp))⟩, by dsimp only; omega⟩
    · first | replace c3 := of_decide_eq_true c3 | replace c3 := of_decide_eq_false c3 | replace c3 := nd_true c3 | replace c3 := nd_false c3 | replace c3 := nb_true c3 | replace c3 := nb_false c3 | skip
      have hie : i = r.length := by omega
      refine W_exit ?_
      refine nxt_e ?_
      refine nxt_e ?_
      refine blk_x ?_
      refine nxt_n ?_
      refine W_seq ?_
      refine W_region ?_
      refine R_ev (ev_move rfl) rfl rfl ?_
      refine R_ev (ev_assign rfl) rfl rfl ?_
      refine R_ev (ev_assign rfl) rfl rfl ?_
      refine R_nil ?_
      refine nxt_n ?_
      refine W_ret ?_
      subst hie
      rw [List.drop_length] at hg
      have hlay : layT T a0 l = (V, a, 0) := by unfold layT; rw [hfo, if_neg (by dsimp only; omega)]; dsimp only; rw [← hg]; rfl
      rw [hlay]
      exact end2 rfl rfl rfl ⟨bb, rfl, ⟨cap, cur, hP, hA, hc1, by unfold maxLen; exact hcm, hcs, hct, hM⟩, hw, hl1, hbb⟩
end Go.Proofs.Ytmiecljgcbfklaa

