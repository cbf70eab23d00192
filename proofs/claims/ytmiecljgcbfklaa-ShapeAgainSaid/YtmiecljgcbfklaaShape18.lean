/- Shapes: the law that acts may be repeated (walk printed by shape18.py). -/
import Derived.Test.YtmiecljgcbfklaaShape17
namespace Go.Proofs.Ytmiecljgcbfklaa
open Go.RowKit
theorem again_law {tA : TypeId} (l : List ActD) (A : Option Addr) (c : Nat) (w : World) (hl : SqA w tA 6 enA A l) (hc : l.length ≤ c) (hc2 : c ≤ 9223372036854775807) : Calls Try.prog 3 #[.slice A l.length c] w fun e w' => e = .returned (.bool true) ∧ Ext w w' := by
  have hSq : SqA w tA 6 enA (cutA A c 0 6) (l.take 60) := by have h := hl.cut 0 60 c hc; simpa using h
  have h60 : (l.take 60).length ≤ 60 := by rw [List.length_take]; omega
  have h60c : (l.take 60).length ≤ c := by rw [List.length_take]; omega
  refine calls_E Try.func3 rfl rfl ?_
  simp only [envOf]
  refine W_seq ?_
  refine W_region ?_
  refine R_ev (ev_assign rfl) rfl rfl ?_
  refine R_nil ?_
  refine nxt_n ?_
  refine W_seq ?_
  refine W_seq ?_
  refine W_region ?_
  refine R_call call6 rfl rfl rfl ?_
  refine (awake_any _).mono ?_
  rintro e w1_0 ⟨rfl, x1_0⟩
  refine ⟨_, rfl, ?_⟩
  refine R_ev (ev_not rfl) rfl rfl ?_
  refine R_nil ?_
  refine nxt_n ?_
  refine W_cond_f rfl ?_
  refine W_skip ?_
  refine nxt_n ?_
  refine W_seq ?_
  refine W_region ?_
  refine R_ev (ev_move rfl) rfl rfl ?_
  refine R_ev (ev_move rfl) rfl rfl ?_
  refine R_ev (ev_len rfl Try.underlying22) rfl rfl ?_
  refine R_ev (ev_min rfl rfl) rfl rfl ?_
  rw [show (if (60 : Int) < (l.length : Int) then 60 else (l.length : Int)) = ((l.take 60).length : Int) by rw [List.length_take]; split <;> omega]
  refine R_ev (ev_slice (l := 0) (h := (l.take 60).length) rfl Try.underlying22 size33 rfl rfl (by omega) (by omega)) rfl rfl ?_
  refine R_ev (ev_assign rfl) rfl rfl ?_
  refine R_nil ?_
  refine nxt_n ?_
  refine W_seq ?_
  refine W_region ?_
  refine R_call call7 rfl rfl rfl ?_
  refine (new_law w _ x1_0).mono ?_
  rintro e w4_0 ⟨p, rfl, hT0, x4_0⟩
  refine ⟨_, rfl, ?_⟩
  refine R_ev (ev_assign rfl) rfl rfl ?_
  refine R_nil ?_
  refine nxt_n ?_
  refine W_seq ?_
  refine W_region ?_
  refine R_ev (ev_assign rfl) rfl rfl ?_
  refine R_nil ?_
  refine nxt_n ?_
  refine W_seq ?_
  refine W_seq ?_
  refine W_region ?_
  refine R_ev (ev_assign rfl) rfl rfl ?_
  refine R_nil ?_
  refine nxt_n ?_
  refine W_block ?_
  have e0_2_1 : Ext w w4_0 := x1_0.trans x4_0
  refine W_loop (ι := Nat × Value) (fun z => [(0, .slice (cutA A c 0 6) ((l.take 60).length) c), (3, .pointer (some ⟨p, 0, none⟩)), (4, z.2), (5, .int .i64 (z.1 : Int))]) (fun z => fun w' => Ext w w' ∧ (TabN w w' p (stA (l.take 60) z.1)) ∧ (Own w w' 3 1 enI z.2 (gots (l.take 60) z.1)) ∧ (z.1 ≤ (l.take 60).length)) (fun z => (l.take 60).length - z.1) (0, .slice none 0 0) (sub_cons rfl (sub_cons rfl (sub_cons rfl (sub_cons rfl sub_nil)))) ?_ ?_
  · exact ⟨e0_2_1, hT0, own_nil w _ _ _ _, Nat.zero_le _⟩
  rintro ⟨i, v⟩ wl0 ⟨hl0, hT, hO, hi⟩
  try dsimp only
  dsimp only at hT hO hi
  refine W_seq ?_
  refine W_seq ?_
  refine W_region ?_
  refine R_ev (ev_move rfl) rfl rfl ?_
  refine R_ev (ev_move rfl) rfl rfl ?_
  refine R_ev (ev_len rfl Try.underlying22) rfl rfl ?_
  refine R_ev (ev_lt rfl rfl) rfl rfl ?_
  refine R_nil ?_
  refine nxt_n ?_
  refine W_cond rfl (fun c1 => ?_) (fun c1 => ?_)
  · first | replace c1 := of_decide_eq_true c1 | replace c1 := of_decide_eq_false c1 | replace c1 := nd_true c1 | replace c1 := nd_false c1 | replace c1 := nb_true c1 | replace c1 := nb_false c1 | skip
    obtain ⟨x, hx⟩ : ∃ x, (l.take 60)[i]? = some x := ⟨_, List.getElem?_eq_getElem (by omega)⟩
    refine W_skip ?_
    refine nxt_n ?_
    refine W_seq ?_
    refine W_block ?_
    refine W_seq ?_
    refine W_region ?_
    refine R_ev (ev_move rfl) rfl rfl ?_
    refine R_ev (ev_move rfl) rfl rfl ?_
    refine R_ev (ev_move rfl) rfl rfl ?_
    refine R_ev (ev_idxA rfl rfl Try.underlying22 size33 hSq.nn (by omega) (by omega)) rfl rfl ?_
    refine R_ev (ev_loadS rfl (here ((hSq.ext hl0).get hx)) agg33) rfl rfl ?_
    refine R_call call8 rfl rfl rfl ?_
    refine (do_law x hT).mono ?_
    rintro e w9_5 ⟨rfl, hT1, hR9_5⟩
    refine ⟨_, rfl, ?_⟩
    replace hO := hR9_5.own hO (by decide) (by decide)
    refine R_ev (ev_move rfl) rfl rfl ?_
    refine R_ev (ev_extract rfl rfl) rfl rfl ?_
    refine R_ev (ev_extract rfl rfl) rfl rfl ?_
    refine R_ev (ev_assign rfl) rfl rfl ?_
    refine R_ev (ev_assign rfl) rfl rfl ?_
    refine R_nil ?_
    refine nxt_n ?_
    refine W_region ?_
    refine R_ev (ev_move rfl) rfl rfl ?_
    refine R_ev (ev_move rfl) rfl rfl ?_
    refine A_bslice rfl (bsl_26_1 _ _) rfl rfl (fun w10_2 x10_2 b10_2 => ?_)
    have e0_3_2 : Ext w w10_2 := hT1.ext.trans x10_2
    refine O_append (en := enI) (news := [(doT (stA (l.take 60) i) x).2.1]) rfl rfl Try.underlying26 zb3 (hO.ext x10_2) enI_len b10_2.all rfl rfl (by rw [gots_len]; omega) e0_3_2 rfl rfl (fun v10_3 w10_3 o10_3 f10_3 x10_3 => ?_)
    replace hT1 := (hT1.more x10_2).grow f10_3 (hO.ext x10_2) x10_3 (by decide) (by decide)
    refine R_ev (ev_assign rfl) rfl rfl ?_
    refine R_nil ?_
    refine blk_n ?_
    refine nxt_n ?_
    refine W_region ?_
    refine R_ev (ev_move rfl) rfl rfl ?_
    refine R_ev (ev_add rfl rfl (by omega) (by omega)) rfl rfl ?_
    refine R_ev (ev_assign rfl) rfl rfl ?_
    refine R_nil ?_
    refine nxt_n ?_
    exact ⟨(i + 1, v10_3), sub_cons rfl (sub_cons rfl (sub_cons rfl (sub_cons rfl sub_nil))), ⟨x10_3, (stA_succ hx ▸ hT1), (gots_snoc hx ▸ o10_3), (by dsimp only; omega)⟩, by dsimp only; omega⟩
  · first | replace c1 := of_decide_eq_true c1 | replace c1 := of_decide_eq_false c1 | replace c1 := nd_true c1 | replace c1 := nd_false c1 | replace c1 := nb_true c1 | replace c1 := nb_false c1 | skip
    have hie : i = (l.take 60).length := by omega
    subst hie
    have hws := hT.wf.size
    refine W_exit ?_
    refine nxt_e ?_
    refine nxt_e ?_
    refine blk_x ?_
    refine nxt_n ?_
    refine W_seq ?_
    refine W_region ?_
    refine R_ev (ev_move rfl) rfl rfl ?_
    refine R_call call9 rfl rfl rfl ?_
    refine (count_law hT).mono ?_
    rintro e w11_1 ⟨rfl, rfl⟩
    refine ⟨_, rfl, ?_⟩
    refine R_ev (ev_assign rfl) rfl rfl ?_
    refine R_nil ?_
    refine nxt_n ?_
    refine W_seq ?_
    refine W_region ?_
    refine R_ev (ev_assign rfl) rfl rfl ?_
    refine R_nil ?_
    refine nxt_n ?_
    refine W_seq ?_
    refine W_seq ?_
    refine W_region ?_
    refine R_ev (ev_assign rfl) rfl rfl ?_
    refine R_nil ?_
    refine nxt_n ?_
    refine W_block ?_
    refine W_loop (ι := Nat × Value) (fun z => [(0, .slice (cutA A c 0 6) ((l.take 60).length) c), (3, .pointer (some ⟨p, 0, none⟩)), (4, v), (8, .int .i64 ((stA (l.take 60) (l.take 60).length).length : Int)), (9, z.2), (10, .int .i64 (z.1 : Int))]) (fun z => fun w' => Ext wl0 w' ∧ (Own wl0 w' 37 6 enS z.2 ((stA (l.take 60) (l.take 60).length).take z.1)) ∧ (z.1 ≤ (stA (l.take 60) (l.take 60).length).length)) (fun z => (stA (l.take 60) (l.take 60).length).length - z.1) (0, .slice none 0 0) (sub_cons rfl (sub_cons rfl (sub_cons rfl (sub_cons rfl (sub_cons rfl (sub_cons rfl sub_nil)))))) ?_ ?_
    · exact ⟨(Ext.refl wl0), own_nil wl0 _ _ _ _, Nat.zero_le _⟩
    rintro ⟨n, v2⟩ wl1 ⟨hl1, hW, hn⟩
    try dsimp only
    dsimp only at hW hn
    refine W_seq ?_
    refine W_seq ?_
    refine W_region ?_
    refine R_ev (ev_move rfl) rfl rfl ?_
    refine R_ev (ev_move rfl) rfl rfl ?_
    refine R_ev (ev_lt rfl rfl) rfl rfl ?_
    refine R_nil ?_
    refine nxt_n ?_
    refine W_cond rfl (fun c2 => ?_) (fun c2 => ?_)
    · first | replace c2 := of_decide_eq_true c2 | replace c2 := of_decide_eq_false c2 | replace c2 := nd_true c2 | replace c2 := nd_false c2 | replace c2 := nb_true c2 | replace c2 := nb_false c2 | skip
      obtain ⟨x, hx⟩ : ∃ x, (stA (l.take 60) (l.take 60).length)[n]? = some x := ⟨_, List.getElem?_eq_getElem (by omega)⟩
      refine W_skip ?_
      refine nxt_n ?_
      refine W_seq ?_
      refine W_block ?_
      refine W_seq ?_
      refine W_region ?_
      refine R_ev (ev_move rfl) rfl rfl ?_
      refine R_ev (ev_move rfl) rfl rfl ?_
      refine R_call call10 rfl rfl rfl ?_
      refine (at_law n x (hT.more hl1) hx).mono ?_
      rintro e w16_2 ⟨rfl, x16_2⟩
      refine ⟨_, rfl, ?_⟩
      refine R_ev (ev_move rfl) rfl rfl ?_
      refine R_ev (ev_extract rfl rfl) rfl rfl ?_
      refine R_ev (ev_extract rfl rfl) rfl rfl ?_
      refine A_alloc zero37 rfl rfl (fun w16_6 x16_6 b16_6 => ?_)
      refine A_storeRow rfl rfl b16_6 size37 rfl rfl rfl (fun w16_7 x16_7 b16_7 => ?_)
      refine R_ev (ev_assign rfl) rfl rfl ?_
      refine R_nil ?_
      refine nxt_n ?_
      refine W_region ?_
      refine R_ev (ev_move rfl) rfl rfl ?_
      refine R_ev (ev_loadS rfl (here b16_7.all) agg37) rfl rfl ?_
      refine A_bslice rfl (bsl_35_1 _ _ _ _ _ _ _) rfl rfl (fun w17_2 x17_2 b17_2 => ?_)
      have e2_4_3 : Ext wl1 w16_6 := x16_2.trans x16_6
      have e2_5_4 : Ext wl1 w16_7 := x16_7.ext e2_4_3 (fun q e => e ▸ x16_2.size)
      have e2_6_5 : Ext wl1 w17_2 := e2_5_4.trans x17_2
      have e1_3_6 : Ext wl0 w16_2 := hl1.trans x16_2
      have e1_4_7 : Ext wl0 w16_6 := e1_3_6.trans x16_6
      have e1_5_8 : Ext wl0 w16_7 := x16_7.ext e1_4_7 (fun q e => e ▸ e1_3_6.size)
      have e1_6_9 : Ext wl0 w17_2 := e1_5_8.trans x17_2
      refine O_append (en := enS) (news := [x]) rfl rfl Try.underlying35 zb37 (hW.ext e2_6_5) enS_len b17_2.all rfl rfl (by rw [List.length_take]; omega) e1_6_9 rfl rfl (fun v17_3 w17_3 o17_3 f17_3 x17_3 => ?_)
      refine R_ev (ev_assign rfl) rfl rfl ?_
      refine R_nil ?_
      refine blk_n ?_
      refine nxt_n ?_
      refine W_region ?_
      refine R_ev (ev_move rfl) rfl rfl ?_
      refine R_ev (ev_add rfl rfl (by omega) (by omega)) rfl rfl ?_
      refine R_ev (ev_assign rfl) rfl rfl ?_
      refine R_nil ?_
      refine nxt_n ?_
      exact ⟨(n + 1, v17_3), sub_cons rfl (sub_cons rfl (sub_cons rfl (sub_cons rfl (sub_cons rfl (sub_cons rfl sub_nil))))), ⟨x17_3, (take_snocS hx ▸ o17_3), (by dsimp only; omega)⟩, by dsimp only; omega⟩
    · first | replace c2 := of_decide_eq_true c2 | replace c2 := of_decide_eq_false c2 | replace c2 := nd_true c2 | replace c2 := nd_false c2 | replace c2 := nb_true c2 | replace c2 := nb_false c2 | skip
      have hne : n = (stA (l.take 60) (l.take 60).length).length := by omega
      subst hne
      rw [List.take_length] at hW
      have hpos : 0 < (stA (l.take 60) (l.take 60).length).length := (List.getElem?_eq_some_iff.1 hT.wf.head).1
      obtain ⟨B2, c2, rfl, hq0, hq1, hq2⟩ := hW.sq enS_len
      have hGa := TabN.g (G := (· = bl B2)) hT hl1 (fun g hg => hg ▸ own_bl hW hpos)
      obtain ⟨B1, c1, rfl, hr0, hr1, hS1⟩ := hO.sq enI_len
      have hgl := gots_len (l.take 60) (l.take 60).length
      refine W_exit ?_
      refine nxt_e ?_
      refine nxt_e ?_
      refine blk_x ?_
      refine nxt_n ?_
      refine W_seq ?_
      refine W_seq ?_
      refine W_region ?_
      refine R_ev (ev_assign rfl) rfl rfl ?_
      refine R_nil ?_
      refine nxt_n ?_
      refine W_block ?_
      have e0_2_10 : Ext w wl1 := hl0.trans hl1
      refine W_loop (ι := Nat × List ShD) (fun z => [(0, .slice (cutA A c 0 6) ((l.take 60).length) c), (3, .pointer (some ⟨p, 0, none⟩)), (4, .slice B1 ((gots (l.take 60) (l.take 60).length).length) c1), (8, .int .i64 ((stA (l.take 60) (l.take 60).length).length : Int)), (9, .slice B2 ((stA (l.take 60) (l.take 60).length).length) c2), (13, .int .i64 (z.1 : Int))]) (fun z => fun w' => Ext w w' ∧ (TabG w w' p z.2 (· = bl B2)) ∧ ((stA (l.take 60) (l.take 60).length) <+: z.2) ∧ (SqA w' 37 6 enS B2 (stA (l.take 60) (l.take 60).length)) ∧ (SqA w' 3 1 enI B1 (gots (l.take 60) (l.take 60).length)) ∧ (z.1 ≤ (l.take 60).length)) (fun z => (l.take 60).length - z.1) (0, (stA (l.take 60) (l.take 60).length)) (sub_cons rfl (sub_cons rfl (sub_cons rfl (sub_cons rfl (sub_cons rfl (sub_cons rfl sub_nil)))))) ?_ ?_
      · exact ⟨e0_2_10, hGa, List.prefix_refl _, hq2, hS1.ext hl1, Nat.zero_le _⟩
      rintro ⟨i, U⟩ wl2 ⟨hl2, hG, hp, hS2, hS1, hi⟩
      try dsimp only
      dsimp only at hG hp hS2 hS1 hi
      refine W_seq ?_
      refine W_seq ?_
      refine W_region ?_
      refine R_ev (ev_move rfl) rfl rfl ?_
      refine R_ev (ev_move rfl) rfl rfl ?_
      refine R_ev (ev_len rfl Try.underlying22) rfl rfl ?_
      refine R_ev (ev_lt rfl rfl) rfl rfl ?_
      refine R_nil ?_
      refine nxt_n ?_
      refine W_cond rfl (fun c3 => ?_) (fun c3 => ?_)
      · first | replace c3 := of_decide_eq_true c3 | replace c3 := of_decide_eq_false c3 | replace c3 := nd_true c3 | replace c3 := nd_false c3 | replace c3 := nb_true c3 | replace c3 := nb_false c3 | skip
        obtain ⟨x, hx⟩ : ∃ x, (l.take 60)[i]? = some x := ⟨_, List.getElem?_eq_getElem (by omega)⟩
        have hgi : (gots (l.take 60) (l.take 60).length)[i]? = some (gotA (l.take 60) i) := by simp only [gots, List.getElem?_map]; rw [List.getElem?_range (by omega)]; rfl
        refine W_skip ?_
        refine nxt_n ?_
        refine W_seq ?_
        refine W_block ?_
        refine W_seq ?_
        refine W_region ?_
        refine R_ev (ev_move rfl) rfl rfl ?_
        refine R_ev (ev_move rfl) rfl rfl ?_
        refine R_ev (ev_move rfl) rfl rfl ?_
        refine R_ev (ev_idxA rfl rfl Try.underlying22 size33 hSq.nn (by omega) (by omega)) rfl rfl ?_
        refine R_ev (ev_loadS rfl (here ((hSq.ext hl2).get hx)) agg33) rfl rfl ?_
        have hS2a := hS2
        refine R_call call8 rfl rfl rfl ?_
        refine (do_lawG x hG).mono ?_
        rintro e w21_5 ⟨rfl, hG1, hR21_5, hK21_5⟩
        refine ⟨_, rfl, ?_⟩
        replace hS1 := hR21_5.sq hS1 (by decide) (by decide)
        have hS2b := hS2a.same (fun _ => hK21_5 _ rfl)
        refine R_ev (ev_move rfl) rfl rfl ?_
        refine R_ev (ev_extract rfl rfl) rfl rfl ?_
        refine R_ev (ev_extract rfl rfl) rfl rfl ?_
        refine R_ev (ev_assign rfl) rfl rfl ?_
        refine R_ev (ev_assign rfl) rfl rfl ?_
        refine R_nil ?_
        refine nxt_n ?_
        refine W_seq ?_
        refine W_region ?_
        refine R_ev (ev_move rfl) rfl rfl ?_
        refine R_ev (ev_eq rfl rfl) rfl rfl ?_
        refine R_ev (ev_move rfl) rfl rfl ?_
        apply R_and 6 86 80 rfl (fun g22_2 => ?t22_2) (fun g22_2 => ?f22_2) ?k22_2
        case t22_2 =>
          refine R_ev (ev_move rfl) (g_tt g22_2 rfl) rfl ?_
          refine R_ev (ev_move rfl) (g_tt g22_2 rfl) rfl ?_
          refine R_ev (ev_idxA rfl rfl Try.underlying26 size3 hS1.nn (by omega) (by omega)) (g_tt g22_2 rfl) rfl ?_
          refine R_ev (ev_load1 rfl one3 (here ((hS1.get hgi) 0 _ rfl))) (g_tt g22_2 rfl) rfl ?_
          refine R_ev (ev_ne rfl rfl) (g_tt g22_2 rfl) rfl ?_
          refine R_ev (ev_pick_t' g22_2 rfl rfl) rfl rfl ?_
          exact R_joined rfl (sub_skip (sub_skip (sub_skip (sub_skip (sub_skip (sub_skip sub_refl rfl) rfl) rfl) rfl) rfl) rfl)
        case f22_2 =>
          refine R_skip (g_tf g22_2 rfl) rfl ?_
          refine R_skip (g_tf g22_2 rfl) rfl ?_
          refine R_skip (g_tf g22_2 rfl) rfl ?_
          refine R_skip (g_tf g22_2 rfl) rfl ?_
          refine R_skip (g_tf g22_2 rfl) rfl ?_
          refine R_ev (ev_pick_f' g22_2 rfl rfl) rfl rfl ?_
          exact R_joined rfl (sub_skip (sub_skip (sub_skip (sub_skip (sub_skip (sub_skip sub_refl rfl) rfl) rfl) rfl) rfl) rfl)
        refine R_ev (ev_move rfl) rfl rfl ?_
        apply R_and 7 94 87 rfl (fun g22_9 => ?t22_9) (fun g22_9 => ?f22_9) ?k22_9
        case t22_9 =>
          refine R_ev (ev_move rfl) (g_tt g22_9 rfl) rfl ?_
          refine R_ev (ev_move rfl) (g_tt g22_9 rfl) rfl ?_
          refine R_ev (ev_move rfl) (g_tt g22_9 rfl) rfl ?_
          refine R_ev (ev_idxA rfl rfl Try.underlying26 size3 hS1.nn (by omega) (by omega)) (g_tt g22_9 rfl) rfl ?_
          refine R_ev (ev_load1 rfl one3 (here ((hS1.get hgi) 0 _ rfl))) (g_tt g22_9 rfl) rfl ?_
          refine R_ev (ev_ne rfl rfl) (g_tt g22_9 rfl) rfl ?_
          refine R_ev (ev_pick_t' g22_9 rfl rfl) rfl rfl ?_
          exact R_joined rfl (sub_skip (sub_skip (sub_skip (sub_skip (sub_skip (sub_skip (sub_skip sub_refl rfl) rfl) rfl) rfl) rfl) rfl) rfl)
        case f22_9 =>
          refine R_skip (g_tf g22_9 rfl) rfl ?_
          refine R_skip (g_tf g22_9 rfl) rfl ?_
          refine R_skip (g_tf g22_9 rfl) rfl ?_
          refine R_skip (g_tf g22_9 rfl) rfl ?_
          refine R_skip (g_tf g22_9 rfl) rfl ?_
          refine R_skip (g_tf g22_9 rfl) rfl ?_
          refine R_ev (ev_pick_f' g22_9 rfl rfl) rfl rfl ?_
          exact R_joined rfl (sub_skip (sub_skip (sub_skip (sub_skip (sub_skip (sub_skip (sub_skip sub_refl rfl) rfl) rfl) rfl) rfl) rfl) rfl)
        refine R_nil ?_
        refine nxt_n ?_
        refine W_cond rfl (fun c4 => ?_) (fun c4 => ?_)
        · first | replace c4 := of_decide_eq_true c4 | replace c4 := of_decide_eq_false c4 | replace c4 := nd_true c4 | replace c4 := nd_false c4 | replace c4 := nb_true c4 | replace c4 := nb_false c4 | skip
          exfalso
          simp only [Bool.and_eq_true, Bool.not_eq_true', decide_eq_false_iff_not] at c4
          exact c4.2 (again_no hx hG.wf hp c4.1.2)
        · first | replace c4 := of_decide_eq_true c4 | replace c4 := of_decide_eq_false c4 | replace c4 := nd_true c4 | replace c4 := nd_false c4 | replace c4 := nb_true c4 | replace c4 := nb_false c4 | skip
          refine W_skip ?_
          refine blk_n ?_
          refine nxt_n ?_
          refine W_region ?_
          refine R_ev (ev_move rfl) rfl rfl ?_
          refine R_ev (ev_add rfl rfl (by omega) (by omega)) rfl rfl ?_
          refine R_ev (ev_assign rfl) rfl rfl ?_
          refine R_nil ?_
          refine nxt_n ?_
          exact ⟨(i + 1, (doT U x).1), sub_cons rfl (sub_cons rfl (sub_cons rfl (sub_cons rfl (sub_cons rfl (sub_cons rfl sub_nil))))), ⟨hG1.ext, hG1, hp.trans (do_pre x), hS2b, hS1, (by dsimp only; omega)⟩, by dsimp only; omega⟩
      · first | replace c3 := of_decide_eq_true c3 | replace c3 := of_decide_eq_false c3 | replace c3 := nd_true c3 | replace c3 := nd_false c3 | replace c3 := nb_true c3 | replace c3 := nb_false c3 | skip
        have hGn := hG.n
        have hpl := hp.length_le
        refine W_exit ?_
        refine nxt_e ?_
        refine nxt_e ?_
        refine blk_x ?_
        refine nxt_n ?_
        refine W_seq ?_
        refine W_seq ?_
        refine W_region ?_
        refine R_ev (ev_assign rfl) rfl rfl ?_
        refine R_nil ?_
        refine nxt_n ?_
        refine W_block ?_
        refine W_loop (ι := Nat) (fun z => [(3, .pointer (some ⟨p, 0, none⟩)), (8, .int .i64 ((stA (l.take 60) (l.take 60).length).length : Int)), (9, .slice B2 ((stA (l.take 60) (l.take 60).length).length) c2), (16, .int .i64 (z : Int))]) (fun z => fun w' => Ext wl2 w' ∧ (z ≤ (stA (l.take 60) (l.take 60).length).length)) (fun z => (stA (l.take 60) (l.take 60).length).length - z) 0 (sub_cons rfl (sub_cons rfl (sub_cons rfl (sub_cons rfl sub_nil)))) ?_ ?_
        · exact ⟨(Ext.refl wl2), Nat.zero_le _⟩
        rintro n wl3 ⟨hl3, hn⟩
        try dsimp only
        refine W_seq ?_
        refine W_seq ?_
        refine W_region ?_
        refine R_ev (ev_move rfl) rfl rfl ?_
        refine R_ev (ev_move rfl) rfl rfl ?_
        refine R_ev (ev_lt rfl rfl) rfl rfl ?_
        refine R_nil ?_
        refine nxt_n ?_
        refine W_cond rfl (fun c5 => ?_) (fun c5 => ?_)
        · first | replace c5 := of_decide_eq_true c5 | replace c5 := of_decide_eq_false c5 | replace c5 := nd_true c5 | replace c5 := nd_false c5 | replace c5 := nb_true c5 | replace c5 := nb_false c5 | skip
          obtain ⟨xs_, hxn⟩ : ∃ x, (stA (l.take 60) (l.take 60).length)[n]? = some x := ⟨_, List.getElem?_eq_getElem (by omega)⟩
          have hxU : U[n]? = some xs_ := (pre_get hp (by omega)).trans hxn
          refine W_skip ?_
          refine nxt_n ?_
          refine W_seq ?_
          refine W_block ?_
          refine W_seq ?_
          refine W_region ?_
          refine R_ev (ev_move rfl) rfl rfl ?_
          refine R_ev (ev_move rfl) rfl rfl ?_
          refine R_call call10 rfl rfl rfl ?_
          refine (at_law n xs_ (hGn.more hl3) hxU).mono ?_
          rintro e w27_2 ⟨rfl, x27_2⟩
          refine ⟨_, rfl, ?_⟩
          refine R_ev (ev_move rfl) rfl rfl ?_
          refine R_ev (ev_extract rfl rfl) rfl rfl ?_
          refine R_ev (ev_extract rfl rfl) rfl rfl ?_
          refine A_alloc zero37 rfl rfl (fun w27_6 x27_6 b27_6 => ?_)
          refine A_storeRow rfl rfl b27_6 size37 rfl rfl rfl (fun w27_7 x27_7 b27_7 => ?_)
          refine R_ev (ev_assign rfl) rfl rfl ?_
          refine R_nil ?_
          refine nxt_n ?_
          refine W_seq ?_
          refine W_drawn (fun w' => Ext w27_7 w') (by kernel_rfl) (by kernel_rfl) (drew_ext _) ?_
          refine Q_ev (ev_move rfl) rfl rfl ?_
          refine Q_ev (ev_not rfl) rfl rfl ?_
          refine Q_ev (ev_move rfl) rfl rfl ?_
          refine Q_ev (ev_loadS rfl (fun _ hx => (b27_7.ext hx).all) agg37) rfl rfl ?_
          refine Q_ev (ev_move rfl) rfl rfl ?_
          refine Q_ev (ev_move rfl) rfl rfl ?_
          refine Q_ev (ev_idxA rfl rfl Try.underlying35 size37 hS2.nn (by omega) (by omega)) rfl rfl ?_
          have e1_3_11 : Ext wl2 w27_2 := hl3.trans x27_2
          have e1_4_12 : Ext wl2 w27_6 := e1_3_11.trans x27_6
          have e1_5_13 : Ext wl2 w27_7 := x27_7.ext e1_4_12 (fun q e => e ▸ e1_3_11.size)
          refine Q_ev (ev_loadS rfl (fun _ hx => ((hS2.ext (e1_5_13.trans hx)).get hxn)) agg37) rfl rfl ?_
          refine Q_ev (ev_shsameN (k := xs_) rfl rfl) rfl rfl ?_
          refine Q_ev (ev_pick_f rfl rfl) rfl rfl ?_
          refine Q_ev (ev_move rfl) rfl rfl ?_
          refine Q_ev (ev_move rfl) rfl rfl ?_
          refine Q_ev (ev_gt rfl rfl) rfl rfl ?_
          refine Q_ev (ev_move rfl) rfl rfl ?_
          refine Q_case 119 rfl (fun g28_13 => ?_) (fun g28_13 => ?_)
          · have g28p := of_decide_eq_true g28_13
            obtain ⟨u, y, hup, hu1, hy, hly⟩ := hGn.wf.up n xs_ hxU (by omega)
            have hyU := hy
            have hyl := hGn.wf.len u y hy
            refine Q_ev (ev_fa0 rfl fa_37_0) (g_tt g28_13 rfl) rfl ?_
            refine Q_ev (ev_load1 rfl one3 (fun _ hx => ((b27_7.ext hx).at rfl))) (g_tt g28_13 rfl) rfl ?_
            refine Q_ev (ev_move rfl) (g_tt g28_13 rfl) rfl ?_
            refine Q_ev (ev_ge_f rfl rfl (by omega)) (g_tt g28_13 rfl) rfl ?_
            refine Q_ev (ev_move rfl) (g_tt g28_13 rfl) rfl ?_
            refine Q_ev (ev_fa0 rfl fa_37_0) rfl rfl ?_
            refine Q_ev (ev_load1 rfl one3 (fun _ hx => ((b27_7.ext hx).at rfl))) rfl rfl ?_
            refine Q_ev (ev_lt_f rfl rfl (by omega)) rfl rfl ?_
            refine Q_ev (ev_pick_f rfl rfl) (g_tt g28_13 rfl) rfl ?_
            refine Q_ev (ev_move rfl) (g_tt g28_13 rfl) rfl ?_
            refine Q_ev (ev_fa rfl fa_37_3) rfl rfl ?_
            refine Q_ev (ev_load1 rfl one3 (fun _ hx => ((b27_7.ext hx).at rfl))) rfl rfl ?_
            refine Q_ev (ev_move rfl) rfl rfl ?_
            refine Q_ev (ev_fa0 rfl fa_37_0) rfl rfl ?_
            refine Q_ev (ev_load1 rfl one3 (fun _ hx => ((b27_7.ext hx).at rfl))) rfl rfl ?_
            refine Q_call call11 rfl rfl rfl (fun w hx => accE hx ((show Calls _ _ [Value.pointer (some ⟨p, 0, none⟩), Value.int .i64 xs_.up].toArray _ _ from hup ▸ len_law u y ((hGn.more e1_5_13).more hx) hyU))) ?_
            refine Q_ev (ev_add rfl rfl (by omega) (by omega)) rfl rfl ?_
            refine Q_ev (ev_ne_f rfl rfl (by omega)) rfl rfl ?_
            refine Q_ev (ev_pick_f rfl rfl) (g_tt g28_13 rfl) rfl ?_
            refine Q_ev (ev_pick_t' g28_13 rfl rfl) rfl rfl ?_
            refine Q_ev (ev_pick_f rfl rfl) rfl rfl ?_
            refine Q_nil (fun w28 x28 => ?_)
            refine nxt_n ?_
            refine W_cond_f rfl ?_
            refine W_skip ?_
            refine blk_n ?_
            refine nxt_n ?_
            refine W_region ?_
            refine R_ev (ev_move rfl) rfl rfl ?_
            refine R_ev (ev_add rfl rfl (by omega) (by omega)) rfl rfl ?_
            refine R_ev (ev_assign rfl) rfl rfl ?_
            refine R_nil ?_
            refine nxt_n ?_
            have e1_6_14 : Ext wl2 w28 := e1_5_13.trans x28
            exact ⟨n + 1, sub_cons rfl (sub_cons rfl (sub_cons rfl (sub_cons rfl sub_nil))), ⟨e1_6_14, (by omega)⟩, by omega⟩
          · refine Q_skip (g_tf g28_13 rfl) rfl ?_
            refine Q_skip (g_tf g28_13 rfl) rfl ?_
            refine Q_skip (g_tf g28_13 rfl) rfl ?_
            refine Q_skip (g_tf g28_13 rfl) rfl ?_
            refine Q_skip (g_tf g28_13 rfl) rfl ?_
            refine Q_skip rfl rfl ?_
            refine Q_skip rfl rfl ?_
            refine Q_skip rfl rfl ?_
            refine Q_skip (g_tf g28_13 rfl) rfl ?_
            refine Q_skip (g_tf g28_13 rfl) rfl ?_
            refine Q_skip rfl rfl ?_
            refine Q_skip rfl rfl ?_
            refine Q_skip rfl rfl ?_
            refine Q_skip rfl rfl ?_
            refine Q_skip rfl rfl ?_
            refine Q_skip rfl rfl ?_
            refine Q_skip rfl rfl ?_
            refine Q_skip rfl rfl ?_
            refine Q_skip (g_tf g28_13 rfl) rfl ?_
            refine Q_ev (ev_pick_f' g28_13 rfl rfl) rfl rfl ?_
            refine Q_ev (ev_pick_f rfl rfl) rfl rfl ?_
            refine Q_nil (fun w28 x28 => ?_)
            refine nxt_n ?_
            refine W_cond_f rfl ?_
            refine W_skip ?_
            refine blk_n ?_
            refine nxt_n ?_
            refine W_region ?_
            refine R_ev (ev_move rfl) rfl rfl ?_
            refine R_ev (ev_add rfl rfl (by omega) (by omega)) rfl rfl ?_
            refine R_ev (ev_assign rfl) rfl rfl ?_
            refine R_nil ?_
            refine nxt_n ?_
            have e1_6_15 : Ext wl2 w28 := e1_5_13.trans x28
            exact ⟨n + 1, sub_cons rfl (sub_cons rfl (sub_cons rfl (sub_cons rfl sub_nil))), ⟨e1_6_15, (by omega)⟩, by omega⟩
        · first | replace c5 := of_decide_eq_true c5 | replace c5 := of_decide_eq_false c5 | replace c5 := nd_true c5 | replace c5 := nd_false c5 | replace c5 := nb_true c5 | replace c5 := nb_false c5 | skip
          refine W_exit ?_
          refine nxt_e ?_
          refine nxt_e ?_
          refine blk_x ?_
          refine nxt_n ?_
          refine W_seq ?_
          refine W_region ?_
          refine R_ev (ev_assign rfl) rfl rfl ?_
          refine R_nil ?_
          refine nxt_n ?_
          refine W_ret ?_
          have e0_2_16 : Ext w wl3 := hl2.trans hl3
          exact end1 rfl rfl ⟨rfl, e0_2_16⟩
end Go.Proofs.Ytmiecljgcbfklaa

