/- Pure functions and contracts of Go functions (printed by all3.py). -/
import Derived.Test.YtmbaennilhdieaaR31
namespace Go.Proofs.Ytmbaennilhdieaa
open Go.RowKit

/-! pantomime/cell.Right -/
def cell_Right_b14 (N : Nat) (a0 : DCell) (x14 : Bool × DValue) : (Unit) → Option (Option Exit × Unit)
  | () => (cell_may_O N x14.2).bind fun y17 => bif !y17 then (some (some .ret, ())) else (some (none, ()))
def cell_Right_O (N : Nat) (a0 : DCell) : Option Bool :=
  (bif decide (a0.Kind < 1) then (some true) else (some (decide (11 < a0.Kind)))).bind fun b5 => (bif b5 then (some true) else (some (decide (a0.Shape < 0)))).bind fun b6 => (bif b6 then (some true) else (some (decide (a0.Flags < 0)))).bind fun b7 => (bif b7 then (some true) else (some (decide (63 < a0.Flags)))).bind fun b8 => (bif b8 then (some true) else ((bif !decide (a0.Age = 0) then (some (!decide (a0.Age = 1))) else (some false)).bind fun b10 => some b10)).bind fun b9 => bif b9 then (some false) else ((cell_all_O N a0).bind fun y12 => (cell_all_c1_O N a0 (liftR (fun x st => cell_Right_b14 N a0 x st)) (none, ())).bind fun y15 => caseX y15.1 ((cell_slotsRight_O N a0).bind fun y19 => (bif y19 then ((cell_moreRight_O N a0.Kind a0.More).bind fun y21 => some y21) else (some false)).bind fun b20 => some b20) (some false) (fun _ => none))
theorem cell_Right_ok {N : Nat} {a0 : DCell} {r : Bool} (h : cell_Right_O N a0 = some r) {A1 : Option Addr} {n1 c1 : Nat} {A2 : Option Addr} {n2 c2 : Nat} : Okc Try.prog 98 [.agg #[.int .i64 a0.Kind, .int .i64 a0.Shape, .int .i64 a0.Flags, .int .i64 a0.Age, .slice A1 n1 c1, .slice A2 n2 c2]] ([slC rDValue (.slice A1 n1 c1) a0.Slots, slC rDValue (.slice A2 n2 c2) a0.More]) (fun (u : Value) (post : List Chunk) => u = .bool r ∧ post = []) := by
  refine ok_E Try.func98 rfl rfl ?_
  simp only [envOf]
  refine G_seq ?_
  refine G_region ?_
  refine G_opd (op_box rfl rfl) rfl rfl rfl ?_
  rintro _ _ ⟨B3, rfl, rfl⟩
  refine G_opd (op_alloc zero4 rfl) rfl rfl rfl ?_
  rintro _ _ ⟨B4, rfl, rfl⟩
  refine G_nil ?_
  refine nx_n ?_
  refine G_seq ?_
  refine G_seq ?_
  refine G_region ?_
  refine G_ev (ev_fa0 rfl fa_42_0) rfl rfl rfl ?_
  refine G_rd (rd_box1 1 rfl rfl one3 rfl) rfl rfl rfl ?_
  refine G_ev (ev_lt rfl rfl) rfl rfl rfl ?_
  refine G_ev (ev_move rfl) rfl rfl rfl ?_
  obtain ⟨b5, hb5, h⟩ := bind_elim h
  refine G_segb 4 12 b5 ?_ ?_
  · clear h
    refine G_case 8 rfl (fun g5 => ?_) (fun g5 => ?_)
    · have h := cond_t g5 hb5
      refine G_no (g_ft g5 rfl) rfl ?_
      refine G_no (g_ft g5 rfl) rfl ?_
      refine G_no (g_ft g5 rfl) rfl ?_
      refine G_ev (ev_pick_t' g5 rfl rfl) rfl rfl rfl ?_
      obtain rfl := Option.some.inj h
      exact G_joined (sub_cons rfl (sub_skip (sub_skip (sub_skip (sub_skip sub_refl rfl) rfl) rfl) rfl)) (cv_sel [0, 1, 2, 3] 4 rfl rfl)
    · have h := cond_f g5 hb5
      refine G_ev (ev_fa0 rfl fa_42_0) rfl (g_ff g5 rfl) rfl ?_
      refine G_rd (rd_box1 1 rfl rfl one3 rfl) rfl (g_ff g5 rfl) rfl ?_
      refine G_ev (ev_gt rfl rfl) rfl (g_ff g5 rfl) rfl ?_
      refine G_ev (ev_pick_f' g5 rfl rfl) rfl rfl rfl ?_
      obtain rfl := Option.some.inj h
      exact G_joined (sub_cons rfl (sub_skip (sub_skip (sub_skip (sub_skip sub_refl rfl) rfl) rfl) rfl)) (cv_sel [0, 1, 2, 3] 4 rfl rfl)
  refine G_ev (ev_move rfl) rfl rfl rfl ?_
  obtain ⟨b6, hb6, h⟩ := bind_elim h
  refine G_segb 4 17 b6 ?_ ?_
  · clear h
    refine G_case 13 rfl (fun g6 => ?_) (fun g6 => ?_)
    · have h := cond_t g6 hb6
      refine G_no (g_ft g6 rfl) rfl ?_
      refine G_no (g_ft g6 rfl) rfl ?_
      refine G_no (g_ft g6 rfl) rfl ?_
      refine G_ev (ev_pick_t' g6 rfl rfl) rfl rfl rfl ?_
      obtain rfl := Option.some.inj h
      exact G_joined (sub_cons rfl (sub_skip (sub_skip (sub_skip (sub_skip sub_refl rfl) rfl) rfl) rfl)) (cv_sel [0, 1, 2, 3] 4 rfl rfl)
    · have h := cond_f g6 hb6
      refine G_ev (ev_fa rfl fa_42_1) rfl (g_ff g6 rfl) rfl ?_
      refine G_rd (rd_box1 1 rfl rfl one3 rfl) rfl (g_ff g6 rfl) rfl ?_
      refine G_ev (ev_lt rfl rfl) rfl (g_ff g6 rfl) rfl ?_
      refine G_ev (ev_pick_f' g6 rfl rfl) rfl rfl rfl ?_
      obtain rfl := Option.some.inj h
      exact G_joined (sub_cons rfl (sub_skip (sub_skip (sub_skip (sub_skip sub_refl rfl) rfl) rfl) rfl)) (cv_sel [0, 1, 2, 3] 4 rfl rfl)
  refine G_ev (ev_move rfl) rfl rfl rfl ?_
  obtain ⟨b7, hb7, h⟩ := bind_elim h
  refine G_segb 4 22 b7 ?_ ?_
  · clear h
    refine G_case 18 rfl (fun g7 => ?_) (fun g7 => ?_)
    · have h := cond_t g7 hb7
      refine G_no (g_ft g7 rfl) rfl ?_
      refine G_no (g_ft g7 rfl) rfl ?_
      refine G_no (g_ft g7 rfl) rfl ?_
      refine G_ev (ev_pick_t' g7 rfl rfl) rfl rfl rfl ?_
      obtain rfl := Option.some.inj h
      exact G_joined (sub_cons rfl (sub_skip (sub_skip (sub_skip (sub_skip sub_refl rfl) rfl) rfl) rfl)) (cv_sel [0, 1, 2, 3] 4 rfl rfl)
    · have h := cond_f g7 hb7
      refine G_ev (ev_fa rfl fa_42_2) rfl (g_ff g7 rfl) rfl ?_
      refine G_rd (rd_box1 1 rfl rfl one3 rfl) rfl (g_ff g7 rfl) rfl ?_
      refine G_ev (ev_lt rfl rfl) rfl (g_ff g7 rfl) rfl ?_
      refine G_ev (ev_pick_f' g7 rfl rfl) rfl rfl rfl ?_
      obtain rfl := Option.some.inj h
      exact G_joined (sub_cons rfl (sub_skip (sub_skip (sub_skip (sub_skip sub_refl rfl) rfl) rfl) rfl)) (cv_sel [0, 1, 2, 3] 4 rfl rfl)
  refine G_ev (ev_move rfl) rfl rfl rfl ?_
  obtain ⟨b8, hb8, h⟩ := bind_elim h
  refine G_segb 4 27 b8 ?_ ?_
  · clear h
    refine G_case 23 rfl (fun g8 => ?_) (fun g8 => ?_)
    · have h := cond_t g8 hb8
      refine G_no (g_ft g8 rfl) rfl ?_
      refine G_no (g_ft g8 rfl) rfl ?_
      refine G_no (g_ft g8 rfl) rfl ?_
      refine G_ev (ev_pick_t' g8 rfl rfl) rfl rfl rfl ?_
      obtain rfl := Option.some.inj h
      exact G_joined (sub_cons rfl (sub_skip (sub_skip (sub_skip (sub_skip sub_refl rfl) rfl) rfl) rfl)) (cv_sel [0, 1, 2, 3] 4 rfl rfl)
    · have h := cond_f g8 hb8
      refine G_ev (ev_fa rfl fa_42_2) rfl (g_ff g8 rfl) rfl ?_
      refine G_rd (rd_box1 1 rfl rfl one3 rfl) rfl (g_ff g8 rfl) rfl ?_
      refine G_ev (ev_gt rfl rfl) rfl (g_ff g8 rfl) rfl ?_
      refine G_ev (ev_pick_f' g8 rfl rfl) rfl rfl rfl ?_
      obtain rfl := Option.some.inj h
      exact G_joined (sub_cons rfl (sub_skip (sub_skip (sub_skip (sub_skip sub_refl rfl) rfl) rfl) rfl)) (cv_sel [0, 1, 2, 3] 4 rfl rfl)
  refine G_ev (ev_move rfl) rfl rfl rfl ?_
  obtain ⟨b9, hb9, h⟩ := bind_elim h
  refine G_segb 9 37 b9 ?_ ?_
  · clear h
    refine G_case 28 rfl (fun g9 => ?_) (fun g9 => ?_)
    · have h := cond_t g9 hb9
      refine G_no (g_ft g9 rfl) rfl ?_
      refine G_no (g_ft g9 rfl) rfl ?_
      refine G_no (g_ft g9 rfl) rfl ?_
      refine G_no (g_ft g9 rfl) rfl ?_
      refine G_no rfl rfl ?_
      refine G_no rfl rfl ?_
      refine G_no rfl rfl ?_
      refine G_no (g_ft g9 rfl) rfl ?_
      refine G_ev (ev_pick_t' g9 rfl rfl) rfl rfl rfl ?_
      obtain rfl := Option.some.inj h
      exact G_joined (sub_cons rfl (sub_skip (sub_skip (sub_skip (sub_skip (sub_skip (sub_skip (sub_skip (sub_skip (sub_skip sub_refl rfl) rfl) rfl) rfl) rfl) rfl) rfl) rfl) rfl)) (cv_sel [0, 1, 2, 3] 4 rfl rfl)
    · have h := cond_f g9 hb9
      refine G_ev (ev_fa rfl fa_42_3) rfl (g_ff g9 rfl) rfl ?_
      refine G_rd (rd_box1 1 rfl rfl one3 rfl) rfl (g_ff g9 rfl) rfl ?_
      refine G_ev (ev_ne rfl rfl) rfl (g_ff g9 rfl) rfl ?_
      refine G_ev (ev_move rfl) rfl (g_ff g9 rfl) rfl ?_
      obtain ⟨b10, hb10, h⟩ := bind_elim h
      refine G_segb 4 36 b10 ?_ ?_
      · clear h
        refine G_case 32 rfl (fun g10 => ?_) (fun g10 => ?_)
        · have h := cond_t g10 hb10
          refine G_ev (ev_fa rfl fa_42_3) rfl (g_tt g10 rfl) rfl ?_
          refine G_rd (rd_box1 1 rfl rfl one3 rfl) rfl (g_tt g10 rfl) rfl ?_
          refine G_ev (ev_ne rfl rfl) rfl (g_tt g10 rfl) rfl ?_
          refine G_ev (ev_pick_t' g10 rfl rfl) rfl (g_ff g9 rfl) rfl ?_
          obtain rfl := Option.some.inj h
          exact G_joined (sub_cons rfl (sub_skip (sub_skip (sub_skip (sub_skip sub_refl rfl) rfl) rfl) rfl)) (cv_sel [0, 1, 2, 3] 4 rfl rfl)
        · have h := cond_f g10 hb10
          refine G_no (g_tf g10 rfl) rfl ?_
          refine G_no (g_tf g10 rfl) rfl ?_
          refine G_no (g_tf g10 rfl) rfl ?_
          refine G_ev (ev_pick_f' g10 rfl rfl) rfl (g_ff g9 rfl) rfl ?_
          obtain rfl := Option.some.inj h
          exact G_joined (sub_cons rfl (sub_skip (sub_skip (sub_skip (sub_skip sub_refl rfl) rfl) rfl) rfl)) (cv_sel [0, 1, 2, 3] 4 rfl rfl)
      refine G_ev (ev_pick_f' g9 rfl rfl) rfl rfl rfl ?_
      obtain rfl := Option.some.inj h
      exact G_joined (sub_cons rfl (sub_skip (sub_skip (sub_skip (sub_skip (sub_skip (sub_skip sub_refl rfl) rfl) rfl) rfl) rfl) rfl)) (cv_sel [0, 1, 2, 3] 4 rfl rfl)
  refine G_nil ?_
  refine nx_n ?_
  refine G_cond rfl (fun g11 => ?_) (fun g11 => ?_)
  · replace h := cond_t g11 h
    refine G_seq ?_
    refine G_region ?_
    refine G_opn (op_store (us := [.bool false]) (cs' := [.bool false]) 0 rfl rfl rfl rfl size4 rfl rfl rfl) rfl rfl ?_
    rintro _ _ rfl
    refine G_norm ([boxC B4 4 [.bool false], boxC B3 42 [.int .i64 a0.Kind, .int .i64 a0.Shape, .int .i64 a0.Flags, .int .i64 a0.Age, .slice A1 n1 c1, .slice A2 n2 c2], slC rDValue (.slice A1 n1 c1) a0.Slots, slC rDValue (.slice A2 n2 c2) a0.More]) rfl ?_
    refine G_nil ?_
    refine nx_n ?_
    refine G_ret ?_
    refine nx_r ?_
    obtain rfl := Option.some.inj h
    exact endGl (rs := [.cell 2 4]) (vs := [.bool false]) rfl (.cons (rv_box1 0 rfl rfl one4) .nil) rfl (cv_sel [] 4 rfl rfl) ⟨rfl, rfl⟩
  · replace h := cond_f g11 h
    refine G_skip ?_
    refine nx_n ?_
    refine G_seq ?_
    refine G_seq ?_
    refine G_region ?_
    refine G_rd (rd_boxS (us := [.int .i64 a0.Kind, .int .i64 a0.Shape, .int .i64 a0.Flags, .int .i64 a0.Age, .slice A1 n1 c1, .slice A2 n2 c2]) 1 rfl rfl agg42 rfl) rfl rfl rfl ?_
    obtain ⟨y12, hy12, h⟩ := bind_elim h
    refine G_opd (op_callR (cell_all_ok hy12) call136 rfl (mem_cons (lent_ro (i := 2) rfl rfl) (mem_cons (lent_ro (i := 3) rfl rfl) mem_nil)) cell_all_free) rfl rfl rfl ?_
    rintro _ _ ⟨_, ⟨B13, rfl, rfl⟩, rfl⟩
    refine G_nil ?_
    refine nx_n ?_
    refine G_sub ?_ sub_refl (cv_frzbox 0 rfl)
    refine Wq_norm ([rboxC B13 42 [.int .i64 a0.Kind, .int .i64 a0.Shape, .int .i64 a0.Flags, .int .i64 a0.Age, .slice A1 n1 c1, .slice A2 n2 c2], boxC B4 4 [.bool false], boxC B3 42 [.int .i64 a0.Kind, .int .i64 a0.Shape, .int .i64 a0.Flags, .int .i64 a0.Age, .slice A1 n1 c1, .slice A2 n2 c2], slC rDValue (.slice A1 n1 c1) a0.Slots, slC rDValue (.slice A2 n2 c2) a0.More]) rfl ?_
    obtain ⟨y15, hy15, h⟩ := bind_elim h
    refine G_rangeX (en := (fun x => [.bool x.1, .agg #[.int .i64 x.2.Kind, .int .i64 x.2.N, .string x.2.S]])) (fun x st => cell_Right_b14 N a0 x st) (fun (st : Unit) (mz : Unit) => [slC rDValue (.slice A1 n1 c1) a0.Slots, slC rDValue (.slice A2 n2 c2) a0.More, boxC B3 42 [.int .i64 a0.Kind, .int .i64 a0.Shape, .int .i64 a0.Flags, .int .i64 a0.Age, .slice A1 n1 c1, .slice A2 n2 c2], boxC B4 4 [.bool false]]) [rboxC B13 42 [.int .i64 a0.Kind, .int .i64 a0.Shape, .int .i64 a0.Flags, .int .i64 a0.Age, .slice A1 n1 c1, .slice A2 n2 c2], slC rDValue (.slice A1 n1 c1) a0.Slots, slC rDValue (.slice A2 n2 c2) a0.More] (()) (()) rfl rfl call151 rfl (fun _ => rfl) (fun l G hY => (cell_all_c1_ok hy15 hY).mono fun _ _ hh => hh.2) (cv_take [0, 3, 4] [] [3, 4, 2, 1] 5 rfl) h ?_ ?_ ?_ ?_
    · rintro l x14 _ je sr14 _ h
      replace h : cell_Right_b14 N a0 x14 () = some (je, sr14) := h
      simp only [envR, List.zip_cons_cons, List.zip_nil_left, List.zip_nil_right, List.reverse_cons, List.reverse_nil, List.nil_append, List.cons_append]
      refine G_region ?_
      refine G_opd (op_alloc zero38 rfl) rfl rfl rfl ?_
      rintro _ _ ⟨B16, rfl, rfl⟩
      refine G_opn (op_store (us := [.int .i64 x14.2.Kind, .int .i64 x14.2.N, .string x14.2.S]) (cs' := [.int .i64 x14.2.Kind, .int .i64 x14.2.N, .string x14.2.S]) 0 rfl rfl rfl rfl size38 rfl rfl rfl) rfl rfl ?_
      rintro _ _ rfl
      refine G_norm ([boxC B16 38 [.int .i64 x14.2.Kind, .int .i64 x14.2.N, .string x14.2.S], slC rDValue (.slice A1 n1 c1) a0.Slots, slC rDValue (.slice A2 n2 c2) a0.More, boxC B3 42 [.int .i64 a0.Kind, .int .i64 a0.Shape, .int .i64 a0.Flags, .int .i64 a0.Age, .slice A1 n1 c1, .slice A2 n2 c2], boxC B4 4 [.bool false]]) rfl ?_
      refine G_nil ?_
      refine nx_n ?_
      refine G_block ?_
      refine G_seq ?_
      refine G_region ?_
      refine G_rd (rd_boxS (us := [.int .i64 x14.2.Kind, .int .i64 x14.2.N, .string x14.2.S]) 0 rfl rfl agg38 rfl) rfl rfl rfl ?_
      obtain ⟨y17, hy17, h⟩ := bind_elim h
      refine G_opd (op_callR (cell_may_ok hy17) call137 rfl (mem_nil) cell_may_free) rfl rfl rfl ?_
      rintro _ _ ⟨_, ⟨rfl, rfl⟩, rfl⟩
      refine G_ev (ev_not rfl) rfl rfl rfl ?_
      refine G_nil ?_
      refine nx_n ?_
      refine G_cond rfl (fun g18 => ?_) (fun g18 => ?_)
      · replace h := cond_t g18 h
        refine G_seq ?_
        refine G_region ?_
        refine G_opn (op_store (us := [.bool false]) (cs' := [.bool false]) 4 rfl rfl rfl rfl size4 rfl rfl rfl) rfl rfl ?_
        rintro _ _ rfl
        refine G_norm ([boxC B16 38 [.int .i64 x14.2.Kind, .int .i64 x14.2.N, .string x14.2.S], slC rDValue (.slice A1 n1 c1) a0.Slots, slC rDValue (.slice A2 n2 c2) a0.More, boxC B3 42 [.int .i64 a0.Kind, .int .i64 a0.Shape, .int .i64 a0.Flags, .int .i64 a0.Age, .slice A1 n1 c1, .slice A2 n2 c2], boxC B4 4 [.bool false]]) rfl ?_
        refine G_nil ?_
        refine nx_n ?_
        refine G_ret ?_
        refine bk_r ?_
        obtain ⟨rfl, rfl⟩ := Prod.mk.inj (Option.some.inj h)
        exact RK_ret ((cv_sel [1, 2, 3, 4] 5 rfl rfl).trans (cv_pack1 () rfl))
      · replace h := cond_f g18 h
        refine G_skip ?_
        refine bk_n ?_
        obtain ⟨rfl, rfl⟩ := Prod.mk.inj (Option.some.inj h)
        exact RK_n ((cv_sel [1, 2, 3, 4] 5 rfl rfl).trans (cv_pack1 () rfl))
    · rintro _ h
      refine K3_norm ([slC rDValue (.slice A1 n1 c1) a0.Slots, slC rDValue (.slice A2 n2 c2) a0.More, boxC B3 42 [.int .i64 a0.Kind, .int .i64 a0.Shape, .int .i64 a0.Flags, .int .i64 a0.Age, .slice A1 n1 c1, .slice A2 n2 c2], boxC B4 4 [.bool false]]) rfl ?_
      refine bk_n ?_
      refine nx_n ?_
      refine G_seq ?_
      refine G_region ?_
      refine G_rd (rd_boxS (us := [.int .i64 a0.Kind, .int .i64 a0.Shape, .int .i64 a0.Flags, .int .i64 a0.Age, .slice A1 n1 c1, .slice A2 n2 c2]) 2 rfl rfl agg42 rfl) rfl rfl rfl ?_
      obtain ⟨y19, hy19, h⟩ := bind_elim h
      refine G_opd (op_callR (cell_slotsRight_ok hy19) call138 rfl (mem_cons (lent_ro (i := 0) rfl rfl) (mem_cons (lent_ro (i := 1) rfl rfl) mem_nil)) cell_slotsRight_free) rfl rfl rfl ?_
      rintro _ _ ⟨_, ⟨rfl, rfl⟩, rfl⟩
      refine G_ev (ev_move rfl) rfl rfl rfl ?_
      obtain ⟨b20, hb20, h⟩ := bind_elim h
      refine G_segb 6 53 b20 ?_ ?_
      · clear h
        refine G_case 47 rfl (fun g20 => ?_) (fun g20 => ?_)
        · have h := cond_t g20 hb20
          refine G_ev (ev_fa0 rfl fa_42_0) rfl (g_tt g20 rfl) rfl ?_
          refine G_rd (rd_box1 2 rfl rfl one3 rfl) rfl (g_tt g20 rfl) rfl ?_
          refine G_ev (ev_fa rfl fa_42_5) rfl (g_tt g20 rfl) rfl ?_
          refine G_rd (rd_box1 2 rfl rfl one25 rfl) rfl (g_tt g20 rfl) rfl ?_
          obtain ⟨y21, hy21, h⟩ := bind_elim h
          refine G_opd (op_callR (cell_moreRight_ok hy21) call139 rfl (mem_cons (lent_ro (i := 1) rfl rfl) mem_nil) cell_moreRight_free) rfl (g_tt g20 rfl) rfl ?_
          rintro _ _ ⟨_, ⟨rfl, rfl⟩, rfl⟩
          refine G_ev (ev_pick_t' g20 rfl rfl) rfl rfl rfl ?_
          obtain rfl := Option.some.inj h
          exact G_joined (sub_cons rfl (sub_skip (sub_skip (sub_skip (sub_skip (sub_skip (sub_skip sub_refl rfl) rfl) rfl) rfl) rfl) rfl)) (cv_sel [0, 1, 2, 3] 4 rfl rfl)
        · have h := cond_f g20 hb20
          refine G_no (g_tf g20 rfl) rfl ?_
          refine G_no (g_tf g20 rfl) rfl ?_
          refine G_no (g_tf g20 rfl) rfl ?_
          refine G_no (g_tf g20 rfl) rfl ?_
          refine G_no (g_tf g20 rfl) rfl ?_
          refine G_ev (ev_pick_f' g20 rfl rfl) rfl rfl rfl ?_
          obtain rfl := Option.some.inj h
          exact G_joined (sub_cons rfl (sub_skip (sub_skip (sub_skip (sub_skip (sub_skip (sub_skip sub_refl rfl) rfl) rfl) rfl) rfl) rfl)) (cv_sel [0, 1, 2, 3] 4 rfl rfl)
      refine G_opn (op_store (us := [.bool b20]) (cs' := [.bool b20]) 3 rfl rfl rfl rfl size4 rfl rfl rfl) rfl rfl ?_
      rintro _ _ rfl
      refine G_norm ([slC rDValue (.slice A1 n1 c1) a0.Slots, slC rDValue (.slice A2 n2 c2) a0.More, boxC B3 42 [.int .i64 a0.Kind, .int .i64 a0.Shape, .int .i64 a0.Flags, .int .i64 a0.Age, .slice A1 n1 c1, .slice A2 n2 c2], boxC B4 4 [.bool b20]]) rfl ?_
      refine G_nil ?_
      refine nx_n ?_
      refine G_ret ?_
      obtain rfl := Option.some.inj h
      exact endGl (rs := [.cell 2 4]) (vs := [.bool b20]) rfl (.cons (rv_box1 3 rfl rfl one4) .nil) rfl (cv_sel [] 4 rfl rfl) ⟨rfl, rfl⟩
    · rintro _ h
      refine K3_norm ([slC rDValue (.slice A1 n1 c1) a0.Slots, slC rDValue (.slice A2 n2 c2) a0.More, boxC B3 42 [.int .i64 a0.Kind, .int .i64 a0.Shape, .int .i64 a0.Flags, .int .i64 a0.Age, .slice A1 n1 c1, .slice A2 n2 c2], boxC B4 4 [.bool false]]) rfl ?_
      refine bk_r ?_
      refine nx_r ?_
      obtain rfl := Option.some.inj h
      exact endGl (rs := [.cell 2 4]) (vs := [.bool false]) rfl (.cons (rv_box1 3 rfl rfl one4) .nil) rfl (cv_sel [] 4 rfl rfl) ⟨rfl, rfl⟩
    · rintro i _ h
      exact none_some h
theorem cell_Right_free {r : Bool} : ∀ v post, ((fun (u : Value) (post : List Chunk) => u = .bool r ∧ post = [])) v post → ∀ c ∈ post, Free c := by
  rintro _ _ ⟨rfl, rfl⟩; exact mem_nil
/-! pantomime/weak.is -/
def weak_is_O (N : Nat) (a0 : DCell) : Option Bool :=
  (bif decide (a0.Kind = 8) then ((cell_Right_O N a0).bind fun y5 => some y5) else (some false)).bind fun b4 => some b4
theorem weak_is_ok {N : Nat} {a0 : DCell} {r : Bool} (h : weak_is_O N a0 = some r) {A1 : Option Addr} {n1 c1 : Nat} {A2 : Option Addr} {n2 c2 : Nat} : Okc Try.prog 112 [.agg #[.int .i64 a0.Kind, .int .i64 a0.Shape, .int .i64 a0.Flags, .int .i64 a0.Age, .slice A1 n1 c1, .slice A2 n2 c2]] ([slC rDValue (.slice A1 n1 c1) a0.Slots, slC rDValue (.slice A2 n2 c2) a0.More]) (fun (u : Value) (post : List Chunk) => u = .bool r ∧ post = []) := by
  refine ok_E Try.func112 rfl rfl ?_
  simp only [envOf]
  refine G_seq ?_
  refine G_region ?_
  refine G_opd (op_box rfl rfl) rfl rfl rfl ?_
  rintro _ _ ⟨B3, rfl, rfl⟩
  refine G_ev (ev_assign rfl) rfl rfl rfl ?_
  refine G_nil ?_
  refine nx_n ?_
  refine G_seq ?_
  refine G_region ?_
  refine G_ev (ev_fa0 rfl fa_42_0) rfl rfl rfl ?_
  refine G_rd (rd_box1 0 rfl rfl one3 rfl) rfl rfl rfl ?_
  refine G_ev (ev_eq rfl rfl) rfl rfl rfl ?_
  refine G_ev (ev_move rfl) rfl rfl rfl ?_
  obtain ⟨b4, hb4, h⟩ := bind_elim h
  refine G_segb 3 9 b4 ?_ ?_
  · clear h
    refine G_case 6 rfl (fun g4 => ?_) (fun g4 => ?_)
    · have h := cond_t g4 hb4
      refine G_rd (rd_boxS (us := [.int .i64 a0.Kind, .int .i64 a0.Shape, .int .i64 a0.Flags, .int .i64 a0.Age, .slice A1 n1 c1, .slice A2 n2 c2]) 0 rfl rfl agg42 rfl) rfl (g_tt g4 rfl) rfl ?_
      obtain ⟨y5, hy5, h⟩ := bind_elim h
      refine G_opd (op_callR (cell_Right_ok hy5) call98 rfl (mem_cons (lent_ro (i := 1) rfl rfl) (mem_cons (lent_ro (i := 2) rfl rfl) mem_nil)) cell_Right_free) rfl (g_tt g4 rfl) rfl ?_
      rintro _ _ ⟨_, ⟨rfl, rfl⟩, rfl⟩
      refine G_ev (ev_pick_t' g4 rfl rfl) rfl rfl rfl ?_
      obtain rfl := Option.some.inj h
      exact G_joined (sub_cons rfl (sub_skip (sub_skip (sub_skip sub_refl rfl) rfl) rfl)) (cv_sel [0, 1, 2] 3 rfl rfl)
    · have h := cond_f g4 hb4
      refine G_no (g_tf g4 rfl) rfl ?_
      refine G_no (g_tf g4 rfl) rfl ?_
      refine G_ev (ev_pick_f' g4 rfl rfl) rfl rfl rfl ?_
      obtain rfl := Option.some.inj h
      exact G_joined (sub_cons rfl (sub_skip (sub_skip (sub_skip sub_refl rfl) rfl) rfl)) (cv_sel [0, 1, 2] 3 rfl rfl)
  refine G_ev (ev_assign rfl) rfl rfl rfl ?_
  refine G_nil ?_
  refine nx_n ?_
  refine G_ret ?_
  obtain rfl := Option.some.inj h
  exact endG1 rfl rfl (cv_sel [] 3 rfl rfl) ⟨rfl, rfl⟩
theorem weak_is_free {r : Bool} : ∀ v post, ((fun (u : Value) (post : List Chunk) => u = .bool r ∧ post = [])) v post → ∀ c ∈ post, Free c := by
  rintro _ _ ⟨rfl, rfl⟩; exact mem_nil
/-! pantomime/weak.entries$1 -/
def weak_entries_c1_l4 (N : Nat) {σ : Type} (fy : (DValue × DValue) → σ → Option (Bool × σ)) (a1 : DCell) : Nat → Int → σ → Option σ
  | 0, _, _ => none
  | m4 + 1, p5, p6 => req (in64 (p5 + 1)) (bif decide (p5 + 1 < (a1.More.length : Int)) then ((getE a1.More p5).bind fun x9 => req (in64 (p5 + 1)) ((getE a1.More (p5 + 1)).bind fun x11 => (fy (x9, x11) p6).bind fun y12 => bif !y12.1 then (some y12.2) else (req (in64 (p5 + 2)) ((weak_entries_c1_l4 N fy a1 m4) (p5 + 2) y12.2)))) else (some p6))
theorem weak_entries_c1_l4_s {N m4 : Nat} {σ : Type} {fy : (DValue × DValue) → σ → Option (Bool × σ)} {a1 : DCell} {p5 : Int} {p6 : σ} : weak_entries_c1_l4 N fy a1 (m4 + 1) p5 p6 = req (in64 (p5 + 1)) (bif decide (p5 + 1 < (a1.More.length : Int)) then ((getE a1.More p5).bind fun x9 => req (in64 (p5 + 1)) ((getE a1.More (p5 + 1)).bind fun x11 => (fy (x9, x11) p6).bind fun y12 => bif !y12.1 then (some y12.2) else (req (in64 (p5 + 2)) ((weak_entries_c1_l4 N fy a1 m4) (p5 + 2) y12.2)))) else (some p6)) := rfl
def weak_entries_c1_O (N : Nat) {σ : Type} (a1 : DCell) (fy : (DValue × DValue) → σ → Option (Bool × σ)) (s0 : σ) : Option σ :=
  weak_entries_c1_l4 N fy a1 N 0 s0
theorem weak_entries_c1_ok {N : Nat} {σ : Type} {a1 : DCell} {fy : (DValue × DValue) → σ → Option (Bool × σ)} {s0 : σ} {r : σ} (h : weak_entries_c1_O N a1 fy s0 = some r) {B1 : Nat} {A2 : Option Addr} {n2 c2 : Nat} {A3 : Option Addr} {n3 c3 : Nat} {l : Nat} {G : σ → List Chunk} (hY : YieldOk Try.prog l G (fun x => [.agg #[.int .i64 x.1.Kind, .int .i64 x.1.N, .string x.1.S], .agg #[.int .i64 x.2.Kind, .int .i64 x.2.N, .string x.2.S]]) fy) : Okc Try.prog 150 [.func (.yield l) #[] #[], .pointer (some ⟨B1, 0, none⟩)] (rboxC B1 42 [.int .i64 a1.Kind, .int .i64 a1.Shape, .int .i64 a1.Flags, .int .i64 a1.Age, .slice A2 n2 c2, .slice A3 n3 c3] :: slC rDValue (.slice A2 n2 c2) a1.Slots :: slC rDValue (.slice A3 n3 c3) a1.More :: (G s0)) (fun (u : Value) (post : List Chunk) => u = .tuple #[] ∧ post = G r) := by
  refine ok_E Try.func150 rfl rfl ?_
  simp only [envOf]
  refine G_seq ?_
  refine G_region ?_
  refine G_ev (ev_assign rfl) rfl rfl rfl ?_
  refine G_nil ?_
  refine nx_n ?_
  refine G_block ?_
  refine G_loopF (fun m s L => ∃ (p5 : Int) (p6 : σ), weak_entries_c1_l4 N fy a1 m p5 p6 = some r ∧ s = [(0, .func (.yield l) #[] #[]), (1, .pointer (some ⟨B1, 0, none⟩)), (3, .int .i64 p5)] ∧ L = slC rDValue (.slice A2 n2 c2) a1.Slots :: slC rDValue (.slice A3 n3 c3) a1.More :: rboxC B1 42 [.int .i64 a1.Kind, .int .i64 a1.Shape, .int .i64 a1.Flags, .int .i64 a1.Age, .slice A2 n2 c2, .slice A3 n3 c3] :: (G p6)) N _ _ ⟨0, s0, h, rfl, rfl⟩ (sub_cons rfl (sub_cons rfl (sub_cons rfl sub_nil))) (cv_sel [1, 2, 0] 3 rfl rfl) ?_
  rintro (_ | m4) _ _ ⟨p5, p6, h, rfl, rfl⟩
  · exact none_some h
  rw [weak_entries_c1_l4_s] at h
  refine G_seq ?_
  refine G_seq ?_
  refine G_region ?_
  refine G_ev (ev_move rfl) rfl rfl rfl ?_
  obtain ⟨q7, h⟩ := req_elim h
  refine G_ev (ev_add rfl rfl q7.1 q7.2) rfl rfl rfl ?_
  refine G_ev (ev_fa rfl fa_42_5) rfl rfl rfl ?_
  refine G_rd (rd_rbox1 2 rfl rfl one25 rfl) rfl rfl rfl ?_
  refine G_rd (rd_len 1 rfl els_sl rfl Try.underlying25) rfl rfl rfl ?_
  refine G_ev (ev_lt rfl rfl) rfl rfl rfl ?_
  refine G_nil ?_
  refine nx_n ?_
  refine G_cond rfl (fun g8 => ?_) (fun g8 => ?_)
  · replace h := cond_t g8 h
    refine G_skip ?_
    refine nx_n ?_
    refine G_seq ?_
    refine G_block ?_
    refine G_seq ?_
    obtain ⟨x9, hx9, h⟩ := bind_elim h
    obtain ⟨lx9, ux9, hx9⟩ := getE_elim hx9
    obtain ⟨q10, h⟩ := req_elim h
    obtain ⟨x11, hx11, h⟩ := bind_elim h
    obtain ⟨lx11, ux11, hx11⟩ := getE_elim hx11
    refine G_sub (t := [(0, .func (.yield l) #[] #[]), (1, .pointer (some ⟨B1, 0, none⟩)), (3, .int .i64 p5)]) ?_ (sub_cons rfl (sub_cons rfl (sub_cons rfl sub_nil))) (cv_refl _)
    refine G_monoR (by kernel_rfl) 12 [] [12, 13, 14, 15, 16, 17, 18, 19, 20, 21, 22, 23] [[], [], [1], [], [2, 3], [4], [], [6], [], [8], [7, 9], [10]] [fun u => [pureC (u = .func (.yield l) #[] #[])],
      fun u => [pureC (u = .pointer (some ⟨B1, 5, none⟩))],
      fun u => [pureC (u = .slice A3 n3 c3)],
      fun u => [pureC (u = .int .i64 p5)],
      fun u => [pureC (u = elemQ (.slice A3 n3 c3) p5.toNat 3 0)],
      fun u => [pureC (u = .agg #[.int .i64 x9.Kind, .int .i64 x9.N, .string x9.S])],
      fun u => [pureC (u = .pointer (some ⟨B1, 5, none⟩))],
      fun u => [pureC (u = .slice A3 n3 c3)],
      fun u => [pureC (u = .int .i64 p5)],
      fun u => [pureC (u = .int .i64 (p5 + 1))],
      fun u => [pureC (u = elemQ (.slice A3 n3 c3) ((p5 + 1).toNat) 3 0)],
      fun u => [pureC (u = .agg #[.int .i64 x11.Kind, .int .i64 x11.N, .string x11.S])]] (by kernel_rfl) ?_ ?_ ?_
    · exact qs_nil
    · refine steps_cons rfl ?_ ?_
      · intro val
        refine X_start (s := [(22, val 10), (0, .func (.yield l) #[] #[]), (1, .pointer (some ⟨B1, 0, none⟩)), (3, .int .i64 p5)]) (L := [pureC ((val 10) = elemQ (.slice A3 n3 c3) ((p5 + 1).toNat) 3 0), slC rDValue (.slice A2 n2 c2) a1.Slots, slC rDValue (.slice A3 n3 c3) a1.More, rboxC B1 42 [.int .i64 a1.Kind, .int .i64 a1.Shape, .int .i64 a1.Flags, .int .i64 a1.Age, .slice A2 n2 c2, .slice A3 n3 c3]] ++ (G p6)) (A := fun u => [pureC (u = .agg #[.int .i64 x11.Kind, .int .i64 x11.N, .string x11.S])]) ?_ rfl rfl rfl
        generalize val 10 = u10
        refine X_pure 0 rfl ?_
        rintro rfl
        exact X_rd (rd_elemS (us := [.int .i64 x11.Kind, .int .i64 x11.N, .string x11.S]) 2 rfl els_sl rfl hx11 agg38 (fun _ _ _ h => by rw [show _ = _ from h]; rfl)) rfl (cv_put [] rfl (cv_refl _))
      refine steps_cons rfl ?_ ?_
      · intro val
        refine X_start (s := [(19, val 7), (21, val 9), (0, .func (.yield l) #[] #[]), (1, .pointer (some ⟨B1, 0, none⟩)), (3, .int .i64 p5)]) (L := [pureC ((val 7) = .slice A3 n3 c3), pureC ((val 9) = .int .i64 (p5 + 1)), slC rDValue (.slice A2 n2 c2) a1.Slots, slC rDValue (.slice A3 n3 c3) a1.More, rboxC B1 42 [.int .i64 a1.Kind, .int .i64 a1.Shape, .int .i64 a1.Flags, .int .i64 a1.Age, .slice A2 n2 c2, .slice A3 n3 c3]] ++ (G p6)) (A := fun u => [pureC (u = elemQ (.slice A3 n3 c3) ((p5 + 1).toNat) 3 0)]) ?_ rfl rfl rfl
        generalize val 7 = u7
        generalize val 9 = u9
        refine X_pure 0 rfl ?_
        rintro rfl
        refine X_pure 1 rfl ?_
        rintro rfl
        exact X_rd (rd_idx 3 rfl els_sl rfl rfl Try.underlying25 size38 lx11 ux11) rfl (cv_put [] rfl (cv_refl _))
      refine steps_cons rfl ?_ ?_
      · intro val
        refine X_start (s := [(20, val 8), (0, .func (.yield l) #[] #[]), (1, .pointer (some ⟨B1, 0, none⟩)), (3, .int .i64 p5)]) (L := [pureC ((val 8) = .int .i64 p5), slC rDValue (.slice A2 n2 c2) a1.Slots, slC rDValue (.slice A3 n3 c3) a1.More, rboxC B1 42 [.int .i64 a1.Kind, .int .i64 a1.Shape, .int .i64 a1.Flags, .int .i64 a1.Age, .slice A2 n2 c2, .slice A3 n3 c3]] ++ (G p6)) (A := fun u => [pureC (u = .int .i64 (p5 + 1))]) ?_ rfl rfl rfl
        generalize val 8 = u8
        refine X_pure 0 rfl ?_
        rintro rfl
        exact X_ev (ev_add rfl rfl q10.1 q10.2) rfl (cv_put [] rfl (cv_refl _))
      refine steps_cons rfl ?_ ?_
      · intro val
        refine X_start (s := [(0, .func (.yield l) #[] #[]), (1, .pointer (some ⟨B1, 0, none⟩)), (3, .int .i64 p5)]) (L := [slC rDValue (.slice A2 n2 c2) a1.Slots, slC rDValue (.slice A3 n3 c3) a1.More, rboxC B1 42 [.int .i64 a1.Kind, .int .i64 a1.Shape, .int .i64 a1.Flags, .int .i64 a1.Age, .slice A2 n2 c2, .slice A3 n3 c3]] ++ (G p6)) (A := fun u => [pureC (u = .int .i64 p5)]) ?_ rfl rfl rfl
        exact X_ev (ev_move rfl) rfl (cv_put [] rfl (cv_refl _))
      refine steps_cons rfl ?_ ?_
      · intro val
        refine X_start (s := [(18, val 6), (0, .func (.yield l) #[] #[]), (1, .pointer (some ⟨B1, 0, none⟩)), (3, .int .i64 p5)]) (L := [pureC ((val 6) = .pointer (some ⟨B1, 5, none⟩)), slC rDValue (.slice A2 n2 c2) a1.Slots, slC rDValue (.slice A3 n3 c3) a1.More, rboxC B1 42 [.int .i64 a1.Kind, .int .i64 a1.Shape, .int .i64 a1.Flags, .int .i64 a1.Age, .slice A2 n2 c2, .slice A3 n3 c3]] ++ (G p6)) (A := fun u => [pureC (u = .slice A3 n3 c3)]) ?_ rfl rfl rfl
        generalize val 6 = u6
        refine X_pure 0 rfl ?_
        rintro rfl
        exact X_rd (rd_rbox1 3 rfl rfl one25 rfl) rfl (cv_put [] rfl (cv_refl _))
      refine steps_cons rfl ?_ ?_
      · intro val
        refine X_start (s := [(0, .func (.yield l) #[] #[]), (1, .pointer (some ⟨B1, 0, none⟩)), (3, .int .i64 p5)]) (L := [slC rDValue (.slice A2 n2 c2) a1.Slots, slC rDValue (.slice A3 n3 c3) a1.More, rboxC B1 42 [.int .i64 a1.Kind, .int .i64 a1.Shape, .int .i64 a1.Flags, .int .i64 a1.Age, .slice A2 n2 c2, .slice A3 n3 c3]] ++ (G p6)) (A := fun u => [pureC (u = .pointer (some ⟨B1, 5, none⟩))]) ?_ rfl rfl rfl
        exact X_ev (ev_fa rfl fa_42_5) rfl (cv_put [] rfl (cv_refl _))
      refine steps_cons rfl ?_ ?_
      · intro val
        refine X_start (s := [(16, val 4), (0, .func (.yield l) #[] #[]), (1, .pointer (some ⟨B1, 0, none⟩)), (3, .int .i64 p5)]) (L := [pureC ((val 4) = elemQ (.slice A3 n3 c3) p5.toNat 3 0), slC rDValue (.slice A2 n2 c2) a1.Slots, slC rDValue (.slice A3 n3 c3) a1.More, rboxC B1 42 [.int .i64 a1.Kind, .int .i64 a1.Shape, .int .i64 a1.Flags, .int .i64 a1.Age, .slice A2 n2 c2, .slice A3 n3 c3]] ++ (G p6)) (A := fun u => [pureC (u = .agg #[.int .i64 x9.Kind, .int .i64 x9.N, .string x9.S])]) ?_ rfl rfl rfl
        generalize val 4 = u4
        refine X_pure 0 rfl ?_
        rintro rfl
        exact X_rd (rd_elemS (us := [.int .i64 x9.Kind, .int .i64 x9.N, .string x9.S]) 2 rfl els_sl rfl hx9 agg38 (fun _ _ _ h => by rw [show _ = _ from h]; rfl)) rfl (cv_put [] rfl (cv_refl _))
      refine steps_cons rfl ?_ ?_
      · intro val
        refine X_start (s := [(14, val 2), (15, val 3), (0, .func (.yield l) #[] #[]), (1, .pointer (some ⟨B1, 0, none⟩)), (3, .int .i64 p5)]) (L := [pureC ((val 2) = .slice A3 n3 c3), pureC ((val 3) = .int .i64 p5), slC rDValue (.slice A2 n2 c2) a1.Slots, slC rDValue (.slice A3 n3 c3) a1.More, rboxC B1 42 [.int .i64 a1.Kind, .int .i64 a1.Shape, .int .i64 a1.Flags, .int .i64 a1.Age, .slice A2 n2 c2, .slice A3 n3 c3]] ++ (G p6)) (A := fun u => [pureC (u = elemQ (.slice A3 n3 c3) p5.toNat 3 0)]) ?_ rfl rfl rfl
        generalize val 2 = u2
        generalize val 3 = u3
        refine X_pure 0 rfl ?_
        rintro rfl
        refine X_pure 1 rfl ?_
        rintro rfl
        exact X_rd (rd_idx 3 rfl els_sl rfl rfl Try.underlying25 size38 lx9 ux9) rfl (cv_put [] rfl (cv_refl _))
      refine steps_cons rfl ?_ ?_
      · intro val
        refine X_start (s := [(0, .func (.yield l) #[] #[]), (1, .pointer (some ⟨B1, 0, none⟩)), (3, .int .i64 p5)]) (L := [slC rDValue (.slice A2 n2 c2) a1.Slots, slC rDValue (.slice A3 n3 c3) a1.More, rboxC B1 42 [.int .i64 a1.Kind, .int .i64 a1.Shape, .int .i64 a1.Flags, .int .i64 a1.Age, .slice A2 n2 c2, .slice A3 n3 c3]] ++ (G p6)) (A := fun u => [pureC (u = .int .i64 p5)]) ?_ rfl rfl rfl
        exact X_ev (ev_move rfl) rfl (cv_put [] rfl (cv_refl _))
      refine steps_cons rfl ?_ ?_
      · intro val
        refine X_start (s := [(13, val 1), (0, .func (.yield l) #[] #[]), (1, .pointer (some ⟨B1, 0, none⟩)), (3, .int .i64 p5)]) (L := [pureC ((val 1) = .pointer (some ⟨B1, 5, none⟩)), slC rDValue (.slice A2 n2 c2) a1.Slots, slC rDValue (.slice A3 n3 c3) a1.More, rboxC B1 42 [.int .i64 a1.Kind, .int .i64 a1.Shape, .int .i64 a1.Flags, .int .i64 a1.Age, .slice A2 n2 c2, .slice A3 n3 c3]] ++ (G p6)) (A := fun u => [pureC (u = .slice A3 n3 c3)]) ?_ rfl rfl rfl
        generalize val 1 = u1
        refine X_pure 0 rfl ?_
        rintro rfl
        exact X_rd (rd_rbox1 3 rfl rfl one25 rfl) rfl (cv_put [] rfl (cv_refl _))
      refine steps_cons rfl ?_ ?_
      · intro val
        refine X_start (s := [(0, .func (.yield l) #[] #[]), (1, .pointer (some ⟨B1, 0, none⟩)), (3, .int .i64 p5)]) (L := [slC rDValue (.slice A2 n2 c2) a1.Slots, slC rDValue (.slice A3 n3 c3) a1.More, rboxC B1 42 [.int .i64 a1.Kind, .int .i64 a1.Shape, .int .i64 a1.Flags, .int .i64 a1.Age, .slice A2 n2 c2, .slice A3 n3 c3]] ++ (G p6)) (A := fun u => [pureC (u = .pointer (some ⟨B1, 5, none⟩))]) ?_ rfl rfl rfl
        exact X_ev (ev_fa rfl fa_42_5) rfl (cv_put [] rfl (cv_refl _))
      refine steps_cons rfl ?_ ?_
      · intro val
        refine X_start (s := [(0, .func (.yield l) #[] #[]), (1, .pointer (some ⟨B1, 0, none⟩)), (3, .int .i64 p5)]) (L := [slC rDValue (.slice A2 n2 c2) a1.Slots, slC rDValue (.slice A3 n3 c3) a1.More, rboxC B1 42 [.int .i64 a1.Kind, .int .i64 a1.Shape, .int .i64 a1.Flags, .int .i64 a1.Age, .slice A2 n2 c2, .slice A3 n3 c3]] ++ (G p6)) (A := fun u => [pureC (u = .func (.yield l) #[] #[])]) ?_ rfl rfl rfl
        exact X_ev (ev_move rfl) rfl (cv_put [] rfl (cv_refl _))
      exact steps_nil
    · intro val
      show TkN _ _ _ _ _ [(12, val 0), (13, val 1), (14, val 2), (15, val 3), (16, val 4), (17, val 5), (18, val 6), (19, val 7), (20, val 8), (21, val 9), (22, val 10), (23, val 11), (0, .func (.yield l) #[] #[]), (1, .pointer (some ⟨B1, 0, none⟩)), (3, .int .i64 p5)] ([pureC ((val 0) = .func (.yield l) #[] #[]), pureC ((val 1) = .pointer (some ⟨B1, 5, none⟩)), pureC ((val 2) = .slice A3 n3 c3), pureC ((val 3) = .int .i64 p5), pureC ((val 4) = elemQ (.slice A3 n3 c3) p5.toNat 3 0), pureC ((val 5) = .agg #[.int .i64 x9.Kind, .int .i64 x9.N, .string x9.S]), pureC ((val 6) = .pointer (some ⟨B1, 5, none⟩)), pureC ((val 7) = .slice A3 n3 c3), pureC ((val 8) = .int .i64 p5), pureC ((val 9) = .int .i64 (p5 + 1)), pureC ((val 10) = elemQ (.slice A3 n3 c3) ((p5 + 1).toNat) 3 0), pureC ((val 11) = .agg #[.int .i64 x11.Kind, .int .i64 x11.N, .string x11.S]), slC rDValue (.slice A2 n2 c2) a1.Slots, slC rDValue (.slice A3 n3 c3) a1.More, rboxC B1 42 [.int .i64 a1.Kind, .int .i64 a1.Shape, .int .i64 a1.Flags, .int .i64 a1.Age, .slice A2 n2 c2, .slice A3 n3 c3]] ++ (G p6))
      generalize val 0 = u0
      generalize val 1 = u1
      generalize val 2 = u2
      generalize val 3 = u3
      generalize val 4 = u4
      generalize val 5 = u5
      generalize val 6 = u6
      generalize val 7 = u7
      generalize val 8 = u8
      generalize val 9 = u9
      generalize val 10 = u10
      generalize val 11 = u11
      refine N_pure 0 rfl ?_
      rintro rfl
      refine N_pure 1 rfl ?_
      rintro rfl
      refine N_pure 2 rfl ?_
      rintro rfl
      refine N_pure 3 rfl ?_
      rintro rfl
      refine N_pure 4 rfl ?_
      rintro rfl
      refine N_pure 5 rfl ?_
      rintro rfl
      refine N_pure 6 rfl ?_
      rintro rfl
      refine N_pure 7 rfl ?_
      rintro rfl
      refine N_pure 8 rfl ?_
      rintro rfl
      refine N_pure 9 rfl ?_
      rintro rfl
      refine N_pure 10 rfl ?_
      rintro rfl
      refine N_pure 11 rfl ?_
      rintro rfl
      refine N_sub (L' := slC rDValue (.slice A2 n2 c2) a1.Slots :: slC rDValue (.slice A3 n3 c3) a1.More :: rboxC B1 42 [.int .i64 a1.Kind, .int .i64 a1.Shape, .int .i64 a1.Flags, .int .i64 a1.Age, .slice A2 n2 c2, .slice A3 n3 c3] :: (G p6)) ?_ sub_refl (cv_sel [12, 13, 14] 15 rfl rfl)
      obtain ⟨y12, hy12, h⟩ := bind_elim h
      refine N_opd 12 rfl (by kernel_rfl) (op_yieldE (a := (x9, x11)) [slC rDValue (.slice A2 n2 c2) a1.Slots, slC rDValue (.slice A3 n3 c3) a1.More, rboxC B1 42 [.int .i64 a1.Kind, .int .i64 a1.Shape, .int .i64 a1.Flags, .int .i64 a1.Age, .slice A2 n2 c2, .slice A3 n3 c3]] hY hy12 rfl rfl) rfl rfl rfl ?_
      rintro _ _ ⟨rfl, rfl⟩
      refine N_norm (slC rDValue (.slice A2 n2 c2) a1.Slots :: slC rDValue (.slice A3 n3 c3) a1.More :: rboxC B1 42 [.int .i64 a1.Kind, .int .i64 a1.Shape, .int .i64 a1.Flags, .int .i64 a1.Age, .slice A2 n2 c2, .slice A3 n3 c3] :: (G y12.2)) rfl ?_
      refine N_ev 13 rfl (by kernel_rfl) (ev_not rfl) rfl rfl rfl ?_
      refine N_done (by kernel_rfl) ?_
      refine nx_n ?_
      refine G_cond rfl (fun g13 => ?_) (fun g13 => ?_)
      · replace h := cond_t g13 h
        refine G_ret ?_
        refine bk_r ?_
        refine nx_r ?_
        refine nx_r ?_
        refine bk_r ?_
        obtain rfl := Option.some.inj h
        exact endG0 rfl (cv_sel [] 3 rfl rfl) ⟨rfl, rfl⟩
      · replace h := cond_f g13 h
        refine G_skip ?_
        refine bk_n ?_
        refine nx_n ?_
        refine G_region ?_
        refine G_ev (ev_move rfl) rfl rfl rfl ?_
        obtain ⟨q14, h⟩ := req_elim h
        refine G_ev (ev_add rfl rfl q14.1 q14.2) rfl rfl rfl ?_
        refine G_ev (ev_assign rfl) rfl rfl rfl ?_
        refine G_nil ?_
        refine nx_n ?_
        exact ⟨m4, _, _, Nat.lt_succ_self _, ⟨p5 + 2, y12.2, h, rfl, rfl⟩, sub_cons rfl (sub_cons rfl (sub_cons rfl sub_nil)), cv_sel [0, 1, 2] 3 rfl rfl⟩
  · replace h := cond_f g8 h
    refine G_exit ?_
    refine nx_e ?_
    refine nx_e ?_
    refine bk_x ?_
    obtain rfl := Option.some.inj h
    exact endG0n rfl (cv_sel [] 3 rfl rfl) ⟨rfl, rfl⟩
/-! pantomime/weak.entries -/
def weak_entries_O (N : Nat) (a0 : DCell) : Option Unit :=
  some ()
theorem weak_entries_ok {N : Nat} {a0 : DCell} {r : Unit} (h : weak_entries_O N a0 = some r) {A1 : Option Addr} {n1 c1 : Nat} {A2 : Option Addr} {n2 c2 : Nat} : Okc Try.prog 135 [.agg #[.int .i64 a0.Kind, .int .i64 a0.Shape, .int .i64 a0.Flags, .int .i64 a0.Age, .slice A1 n1 c1, .slice A2 n2 c2]] ([slC rDValue (.slice A1 n1 c1) a0.Slots, slC rDValue (.slice A2 n2 c2) a0.More]) (fun (u : Value) (post : List Chunk) => ∃ B900, u = .func (.func 150) #[] #[.pointer (some ⟨B900, 0, none⟩)] ∧ post = [boxC B900 42 [.int .i64 a0.Kind, .int .i64 a0.Shape, .int .i64 a0.Flags, .int .i64 a0.Age, .slice A1 n1 c1, .slice A2 n2 c2]]) := by
  refine ok_E Try.func135 rfl rfl ?_
  simp only [envOf]
  refine G_seq ?_
  refine G_region ?_
  refine G_opd (op_box rfl rfl) rfl rfl rfl ?_
  rintro _ _ ⟨B3, rfl, rfl⟩
  refine G_ev (ev_assign rfl) rfl rfl rfl ?_
  refine G_nil ?_
  refine nx_n ?_
  refine G_seq ?_
  refine G_region ?_
  refine G_ev (ev_makeFunc rfl) rfl rfl rfl ?_
  refine G_ev (ev_assign rfl) rfl rfl rfl ?_
  refine G_nil ?_
  refine nx_n ?_
  refine G_ret ?_
  obtain rfl := Option.some.inj h
  exact endG1 rfl rfl (cv_sel [0] 3 rfl rfl) ⟨_, rfl, rfl⟩
theorem weak_entries_free {a0 : DCell} {A1 : Option Addr} {n1 : Nat} {c1 : Nat} {A2 : Option Addr} {n2 : Nat} {c2 : Nat} : ∀ v post, ((fun (u : Value) (post : List Chunk) => ∃ B900, u = .func (.func 150) #[] #[.pointer (some ⟨B900, 0, none⟩)] ∧ post = [boxC B900 42 [.int .i64 a0.Kind, .int .i64 a0.Shape, .int .i64 a0.Flags, .int .i64 a0.Age, .slice A1 n1 c1, .slice A2 n2 c2]])) v post → ∀ c ∈ post, Free c := by
  rintro _ _ ⟨_, rfl, rfl⟩; exact mem_cons free_box (mem_nil)
/-! slices.Index[[]int,int] -/
def slices_Index_j2 (N : Nat) : Option Int :=
  some (-1)
def slices_Index_l3 (N : Nat) (a1 : Int) (a0 : (List Int)) : Nat → Int → Option Int
  | 0, _ => none
  | m3 + 1, p4 => bif decide (p4 < (a0.length : Int)) then ((getE a0 p4).bind fun x6 => bif decide (a1 = x6) then (some p4) else (req (in64 (p4 + 1)) ((slices_Index_l3 N a1 a0 m3) (p4 + 1)))) else (slices_Index_j2 N)
theorem slices_Index_l3_s {N m3 : Nat} {a1 : Int} {a0 : (List Int)} {p4 : Int} : slices_Index_l3 N a1 a0 (m3 + 1) p4 = bif decide (p4 < (a0.length : Int)) then ((getE a0 p4).bind fun x6 => bif decide (a1 = x6) then (some p4) else (req (in64 (p4 + 1)) ((slices_Index_l3 N a1 a0 m3) (p4 + 1)))) else (slices_Index_j2 N) := rfl
def slices_Index_O (N : Nat) (a0 : (List Int)) (a1 : Int) : Option Int :=
  slices_Index_l3 N a1 a0 N 0
theorem slices_Index_ok {N : Nat} {a0 : (List Int)} {a1 : Int} {r : Int} (h : slices_Index_O N a0 a1 = some r) {A1 : Option Addr} {n1 c1 : Nat} : Okc Try.prog 78 [.slice A1 n1 c1, .int .i64 a1] ([slC (rInt .i64) (.slice A1 n1 c1) a0]) (fun (u : Value) (post : List Chunk) => u = .int .i64 r ∧ post = []) := by
  refine ok_E Try.func78 rfl rfl ?_
  simp only [envOf]
  refine G_seq ?_
  refine G_region ?_
  refine G_ev (ev_assign rfl) rfl rfl rfl ?_
  refine G_nil ?_
  refine nx_n ?_
  refine G_joinF (fun s L => slices_Index_j2 N = some r ∧ s = [(4, .int .i64 0)] ∧ L = []) ?_ ?_
  · refine G_seq ?_
    refine G_region ?_
    refine G_ev (ev_move rfl) rfl rfl rfl ?_
    refine G_rd (rd_len 0 rfl els_sl rfl Try.underlying31) rfl rfl rfl ?_
    refine G_ev (ev_move rfl) rfl rfl rfl ?_
    refine G_nil ?_
    refine nx_n ?_
    refine G_block ?_
    refine G_loopF (fun m s L => ∃ (p4 : Int), slices_Index_l3 N a1 a0 m p4 = some r ∧ s = [(0, .slice A1 n1 c1), (1, .int .i64 a1), (4, .int .i64 0), (7, .int .i64 (a0.length : Int)), (8, .int .i64 p4)] ∧ L = [slC (rInt .i64) (.slice A1 n1 c1) a0]) N _ _ ⟨0, h, rfl, rfl⟩ (sub_cons rfl (sub_cons rfl (sub_cons rfl (sub_cons rfl (sub_cons rfl sub_nil))))) (cv_sel [0] 1 rfl rfl) ?_
    rintro (_ | m3) _ _ ⟨p4, h, rfl, rfl⟩
    · exact none_some h
    rw [slices_Index_l3_s] at h
    refine G_seq ?_
    refine G_region ?_
    refine G_ev (ev_lt rfl rfl) rfl rfl rfl ?_
    refine G_nil ?_
    refine nx_n ?_
    refine G_seq ?_
    refine G_cond rfl (fun g5 => ?_) (fun g5 => ?_)
    · replace h := cond_t g5 h
      refine G_skip ?_
      refine nx_n ?_
      refine G_seq ?_
      refine G_block ?_
      refine G_seq ?_
      refine G_region ?_
      refine G_ev (ev_move rfl) rfl rfl rfl ?_
      refine G_ev (ev_assign rfl) rfl rfl rfl ?_
      refine G_nil ?_
      refine nx_n ?_
      refine G_seq ?_
      refine G_region ?_
      refine G_ev (ev_move rfl) rfl rfl rfl ?_
      refine G_ev (ev_move rfl) rfl rfl rfl ?_
      refine G_ev (ev_move rfl) rfl rfl rfl ?_
      obtain ⟨x6, hx6, h⟩ := bind_elim h
      obtain ⟨lx6, ux6, hx6⟩ := getE_elim hx6
      refine G_rd (rd_idx 0 rfl els_sl rfl rfl Try.underlying31 size3 lx6 ux6) rfl rfl rfl ?_
      refine G_rd (rd_elem1 (u := .int .i64 x6) 0 rfl els_sl rfl hx6 one3 (fun _ _ _ h => by rw [show _ = _ from h]; rfl)) rfl rfl rfl ?_
      refine G_ev (ev_eq rfl rfl) rfl rfl rfl ?_
      refine G_nil ?_
      refine nx_n ?_
      refine G_cond rfl (fun g7 => ?_) (fun g7 => ?_)
      · replace h := cond_t g7 h
        refine G_seq ?_
        refine G_region ?_
        refine G_ev (ev_move rfl) rfl rfl rfl ?_
        refine G_ev (ev_assign rfl) rfl rfl rfl ?_
        refine G_nil ?_
        refine nx_n ?_
        refine G_ret ?_
        refine bk_r ?_
        refine nx_r ?_
        refine nx_r ?_
        refine bk_r ?_
        refine nx_r ?_
        obtain rfl := Option.some.inj h
        exact endG1 rfl rfl (cv_sel [] 1 rfl rfl) ⟨rfl, rfl⟩
      · replace h := cond_f g7 h
        refine G_skip ?_
        refine bk_n ?_
        refine nx_n ?_
        refine G_region ?_
        obtain ⟨q8, h⟩ := req_elim h
        refine G_ev (ev_add rfl rfl q8.1 q8.2) rfl rfl rfl ?_
        refine G_ev (ev_move rfl) rfl rfl rfl ?_
        refine G_nil ?_
        refine nx_n ?_
        exact ⟨m3, _, _, Nat.lt_succ_self _, ⟨p4 + 1, h, rfl, rfl⟩, sub_cons rfl (sub_cons rfl (sub_cons rfl (sub_cons rfl (sub_cons rfl sub_nil)))), cv_sel [0] 1 rfl rfl⟩
    · replace h := cond_f g5 h
      refine G_exit ?_
      refine nx_e ?_
      refine nx_e ?_
      refine bk_x ?_
      refine nx_n ?_
      exact ⟨_, _, ⟨h, rfl, rfl⟩, sub_cons rfl sub_nil, cv_sel [] 1 rfl rfl⟩
  · rintro _ _ ⟨h, rfl, rfl⟩
    refine G_seq ?_
    refine G_region ?_
    refine G_ev (ev_assign rfl) rfl rfl rfl ?_
    refine G_nil ?_
    refine nx_n ?_
    refine G_ret ?_
    obtain rfl := Option.some.inj h
    exact endG1 rfl rfl (cv_sel [] 0 rfl rfl) ⟨rfl, rfl⟩
theorem slices_Index_free {r : Int} : ∀ v post, ((fun (u : Value) (post : List Chunk) => u = .int .i64 r ∧ post = [])) v post → ∀ c ∈ post, Free c := by
  rintro _ _ ⟨rfl, rfl⟩; exact mem_nil
/-! slices.Contains[[]int,int] -/
def slices_Contains_O (N : Nat) (a0 : (List Int)) (a1 : Int) : Option Bool :=
  (slices_Index_O N a0 a1).bind fun y2 => some (decide (0 ≤ y2))
theorem slices_Contains_ok {N : Nat} {a0 : (List Int)} {a1 : Int} {r : Bool} (h : slices_Contains_O N a0 a1 = some r) {A1 : Option Addr} {n1 c1 : Nat} : Okc Try.prog 35 [.slice A1 n1 c1, .int .i64 a1] ([slC (rInt .i64) (.slice A1 n1 c1) a0]) (fun (u : Value) (post : List Chunk) => u = .bool r ∧ post = []) := by
  refine ok_E Try.func35 rfl rfl ?_
  simp only [envOf]
  refine G_seq ?_
  refine G_region ?_
  refine G_ev (ev_assign rfl) rfl rfl rfl ?_
  refine G_nil ?_
  refine nx_n ?_
  refine G_seq ?_
  refine G_region ?_
  refine G_ev (ev_move rfl) rfl rfl rfl ?_
  refine G_ev (ev_move rfl) rfl rfl rfl ?_
  obtain ⟨y2, hy2, h⟩ := bind_elim h
  refine G_opd (op_callR (slices_Index_ok hy2) call78 rfl (mem_cons (lent_ro (i := 0) rfl rfl) mem_nil) slices_Index_free) rfl rfl rfl ?_
  rintro _ _ ⟨_, ⟨rfl, rfl⟩, rfl⟩
  refine G_ev (ev_ge rfl rfl) rfl rfl rfl ?_
  refine G_ev (ev_assign rfl) rfl rfl rfl ?_
  refine G_nil ?_
  refine nx_n ?_
  refine G_ret ?_
  obtain rfl := Option.some.inj h
  exact endG1 rfl rfl (cv_sel [] 1 rfl rfl) ⟨rfl, rfl⟩
theorem slices_Contains_free {r : Bool} : ∀ v post, ((fun (u : Value) (post : List Chunk) => u = .bool r ∧ post = [])) v post → ∀ c ∈ post, Free c := by
  rintro _ _ ⟨rfl, rfl⟩; exact mem_nil
/-! pantomime/weak.Opens -/
def weak_Opens_b12 (N : Nat) (a1 : (List Int)) (x12 : DValue × DValue) : ((List Int)) → Option (Option Exit × (List Int))
  | p13 => (bif decide (x12.2.Kind = 7) then (some true) else (some (decide (x12.2.Kind = 9)))).bind fun b18 => (bif b18 then ((slices_Contains_O N a1 x12.1.N).bind fun y20 => some y20) else (some false)).bind fun b19 => bif b19 then (req (fitsL (p13.length + ([x12.2.N] : List Int).length)) (some (none, p13 ++ ([x12.2.N] : List Int)))) else (some (none, p13))
def weak_Opens_O (N : Nat) (a0 : DCell) (a1 : (List Int)) : Option (List Int) :=
  (weak_is_O N a0).bind fun y6 => bif !y6 then (some []) else ((weak_entries_O N a0).bind fun y10 => (weak_entries_c1_O N a0 (liftR (fun x st => weak_Opens_b12 N a1 x st)) (none, [])).bind fun y14 => caseX y14.1 (some y14.2) none (fun _ => none))
theorem weak_Opens_ok {N : Nat} {a0 : DCell} {a1 : (List Int)} {r : (List Int)} (h : weak_Opens_O N a0 a1 = some r) {A1 : Option Addr} {n1 c1 : Nat} {A2 : Option Addr} {n2 c2 : Nat} {A3 : Option Addr} {n3 c3 : Nat} : Okc Try.prog 95 [.agg #[.int .i64 a0.Kind, .int .i64 a0.Shape, .int .i64 a0.Flags, .int .i64 a0.Age, .slice A1 n1 c1, .slice A2 n2 c2], .slice A3 n3 c3] ([slC rDValue (.slice A1 n1 c1) a0.Slots, slC rDValue (.slice A2 n2 c2) a0.More, slC (rInt .i64) (.slice A3 n3 c3) a1]) (fun (u : Value) (post : List Chunk) => ∃ A0 n0 c0, u = .slice A0 n0 c0 ∧ post = [ownC (rInt .i64) 3 (.slice A0 n0 c0) r]) := by
  refine ok_E Try.func95 rfl rfl ?_
  simp only [envOf]
  refine G_seq ?_
  refine G_region ?_
  refine G_opd (op_box rfl rfl) rfl rfl rfl ?_
  rintro _ _ ⟨B4, rfl, rfl⟩
  refine G_opd (op_box rfl rfl) rfl rfl rfl ?_
  rintro _ _ ⟨B5, rfl, rfl⟩
  refine G_ev (ev_assign rfl) rfl rfl rfl ?_
  refine G_nil ?_
  refine nx_n ?_
  refine G_seq ?_
  refine G_seq ?_
  refine G_region ?_
  refine G_rd (rd_boxS (us := [.int .i64 a0.Kind, .int .i64 a0.Shape, .int .i64 a0.Flags, .int .i64 a0.Age, .slice A1 n1 c1, .slice A2 n2 c2]) 1 rfl rfl agg42 rfl) rfl rfl rfl ?_
  obtain ⟨y6, hy6, h⟩ := bind_elim h
  refine G_opd (op_callR (weak_is_ok hy6) call112 rfl (mem_cons (lent_ro (i := 2) rfl rfl) (mem_cons (lent_ro (i := 3) rfl rfl) mem_nil)) weak_is_free) rfl rfl rfl ?_
  rintro _ _ ⟨_, ⟨rfl, rfl⟩, rfl⟩
  refine G_ev (ev_not rfl) rfl rfl rfl ?_
  refine G_nil ?_
  refine nx_n ?_
  refine G_cond rfl (fun g7 => ?_) (fun g7 => ?_)
  · replace h := cond_t g7 h
    refine G_seq ?_
    refine G_region ?_
    refine G_ev (ev_assign rfl) rfl rfl rfl ?_
    refine G_nil ?_
    refine nx_n ?_
    refine G_ret ?_
    refine nx_r ?_
    obtain rfl := Option.some.inj h
    exact endG1 rfl rfl ((cv_nil (rInt .i64) 3 _).trans (cv_sel [0] 6 rfl rfl)) ⟨_, _, _, rfl, rfl⟩
  · replace h := cond_f g7 h
    refine G_skip ?_
    refine nx_n ?_
    refine G_seq ?_
    refine G_region ?_
    refine G_opd (op_alloc zero31 rfl) rfl rfl rfl ?_
    rintro _ _ ⟨B9, rfl, rfl⟩
    refine G_nil ?_
    refine nx_n ?_
    refine G_seq ?_
    refine G_seq ?_
    refine G_region ?_
    refine G_rd (rd_boxS (us := [.int .i64 a0.Kind, .int .i64 a0.Shape, .int .i64 a0.Flags, .int .i64 a0.Age, .slice A1 n1 c1, .slice A2 n2 c2]) 2 rfl rfl agg42 rfl) rfl rfl rfl ?_
    obtain ⟨y10, hy10, h⟩ := bind_elim h
    refine G_opd (op_callR (weak_entries_ok hy10) call135 rfl (mem_cons (lent_ro (i := 3) rfl rfl) (mem_cons (lent_ro (i := 4) rfl rfl) mem_nil)) weak_entries_free) rfl rfl rfl ?_
    rintro _ _ ⟨_, ⟨B11, rfl, rfl⟩, rfl⟩
    refine G_nil ?_
    refine nx_n ?_
    refine G_sub ?_ sub_refl (cv_frzbox 0 rfl)
    refine Wq_norm ([rboxC B11 42 [.int .i64 a0.Kind, .int .i64 a0.Shape, .int .i64 a0.Flags, .int .i64 a0.Age, .slice A1 n1 c1, .slice A2 n2 c2], boxC B9 31 [.slice none 0 0], boxC B5 31 [.slice A3 n3 c3], boxC B4 42 [.int .i64 a0.Kind, .int .i64 a0.Shape, .int .i64 a0.Flags, .int .i64 a0.Age, .slice A1 n1 c1, .slice A2 n2 c2], slC rDValue (.slice A1 n1 c1) a0.Slots, slC rDValue (.slice A2 n2 c2) a0.More, slC (rInt .i64) (.slice A3 n3 c3) a1]) rfl ?_
    obtain ⟨y14, hy14, h⟩ := bind_elim h
    refine G_rangeX (en := (fun x => [.agg #[.int .i64 x.1.Kind, .int .i64 x.1.N, .string x.1.S], .agg #[.int .i64 x.2.Kind, .int .i64 x.2.N, .string x.2.S]])) (fun x st => weak_Opens_b12 N a1 x st) (fun (st : (List Int)) (mz : ((Option Addr × Nat × Nat))) => [slC (rInt .i64) (.slice A3 n3 c3) a1, boxC B5 31 [.slice A3 n3 c3], ownC (rInt .i64) 3 (.slice mz.1 mz.2.1 mz.2.2) st, boxC B9 31 [.slice mz.1 mz.2.1 mz.2.2]]) [rboxC B11 42 [.int .i64 a0.Kind, .int .i64 a0.Shape, .int .i64 a0.Flags, .int .i64 a0.Age, .slice A1 n1 c1, .slice A2 n2 c2], slC rDValue (.slice A1 n1 c1) a0.Slots, slC rDValue (.slice A2 n2 c2) a0.More] ([]) ((none, 0, 0)) rfl rfl call150 rfl (fun _ => rfl) (fun l G hY => (weak_entries_c1_ok hy14 hY).mono fun _ _ hh => hh.2) ((cv_nil (rInt .i64) 3 _).trans (cv_take [1, 5, 6] [] [7, 3, 0, 2] 8 rfl)) h ?_ ?_ ?_ ?_
    · rintro l x12 p13 je sr12 ⟨A13, n13, c13⟩ h
      replace h : weak_Opens_b12 N a1 x12 p13 = some (je, sr12) := h
      simp only [envR, List.zip_cons_cons, List.zip_nil_left, List.zip_nil_right, List.reverse_cons, List.reverse_nil, List.nil_append, List.cons_append]
      refine G_seq ?_
      refine G_region ?_
      refine G_opd (op_alloc zero38 rfl) rfl rfl rfl ?_
      rintro _ _ ⟨B16, rfl, rfl⟩
      refine G_opn (op_store (us := [.int .i64 x12.1.Kind, .int .i64 x12.1.N, .string x12.1.S]) (cs' := [.int .i64 x12.1.Kind, .int .i64 x12.1.N, .string x12.1.S]) 0 rfl rfl rfl rfl size38 rfl rfl rfl) rfl rfl ?_
      rintro _ _ rfl
      refine G_norm ([boxC B16 38 [.int .i64 x12.1.Kind, .int .i64 x12.1.N, .string x12.1.S], slC (rInt .i64) (.slice A3 n3 c3) a1, boxC B5 31 [.slice A3 n3 c3], ownC (rInt .i64) 3 (.slice A13 n13 c13) p13, boxC B9 31 [.slice A13 n13 c13]]) rfl ?_
      refine G_nil ?_
      refine nx_n ?_
      refine G_region ?_
      refine G_opd (op_alloc zero38 rfl) rfl rfl rfl ?_
      rintro _ _ ⟨B17, rfl, rfl⟩
      refine G_opn (op_store (us := [.int .i64 x12.2.Kind, .int .i64 x12.2.N, .string x12.2.S]) (cs' := [.int .i64 x12.2.Kind, .int .i64 x12.2.N, .string x12.2.S]) 0 rfl rfl rfl rfl size38 rfl rfl rfl) rfl rfl ?_
      rintro _ _ rfl
      refine G_norm ([boxC B17 38 [.int .i64 x12.2.Kind, .int .i64 x12.2.N, .string x12.2.S], boxC B16 38 [.int .i64 x12.1.Kind, .int .i64 x12.1.N, .string x12.1.S], slC (rInt .i64) (.slice A3 n3 c3) a1, boxC B5 31 [.slice A3 n3 c3], ownC (rInt .i64) 3 (.slice A13 n13 c13) p13, boxC B9 31 [.slice A13 n13 c13]]) rfl ?_
      refine G_nil ?_
      refine nx_n ?_
      refine G_block ?_
      refine G_seq ?_
      refine G_region ?_
      refine G_ev (ev_fa0 rfl fa_38_0) rfl rfl rfl ?_
      refine G_rd (rd_box1 0 rfl rfl one3 rfl) rfl rfl rfl ?_
      refine G_ev (ev_eq rfl rfl) rfl rfl rfl ?_
      refine G_ev (ev_move rfl) rfl rfl rfl ?_
      obtain ⟨b18, hb18, h⟩ := bind_elim h
      refine G_segb 4 22 b18 ?_ ?_
      · clear h
        refine G_case 18 rfl (fun g18 => ?_) (fun g18 => ?_)
        · have h := cond_t g18 hb18
          refine G_no (g_ft g18 rfl) rfl ?_
          refine G_no (g_ft g18 rfl) rfl ?_
          refine G_no (g_ft g18 rfl) rfl ?_
          refine G_ev (ev_pick_t' g18 rfl rfl) rfl rfl rfl ?_
          obtain rfl := Option.some.inj h
          exact G_joined (sub_cons rfl (sub_skip (sub_skip (sub_skip (sub_skip sub_refl rfl) rfl) rfl) rfl)) (cv_sel [0, 1, 2, 3, 4, 5] 6 rfl rfl)
        · have h := cond_f g18 hb18
          refine G_ev (ev_fa0 rfl fa_38_0) rfl (g_ff g18 rfl) rfl ?_
          refine G_rd (rd_box1 0 rfl rfl one3 rfl) rfl (g_ff g18 rfl) rfl ?_
          refine G_ev (ev_eq rfl rfl) rfl (g_ff g18 rfl) rfl ?_
          refine G_ev (ev_pick_f' g18 rfl rfl) rfl rfl rfl ?_
          obtain rfl := Option.some.inj h
          exact G_joined (sub_cons rfl (sub_skip (sub_skip (sub_skip (sub_skip sub_refl rfl) rfl) rfl) rfl)) (cv_sel [0, 1, 2, 3, 4, 5] 6 rfl rfl)
      refine G_ev (ev_move rfl) rfl rfl rfl ?_
      obtain ⟨b19, hb19, h⟩ := bind_elim h
      refine G_segb 5 28 b19 ?_ ?_
      · clear h
        refine G_case 23 rfl (fun g19 => ?_) (fun g19 => ?_)
        · have h := cond_t g19 hb19
          refine G_rd (rd_box1 3 rfl rfl one31 rfl) rfl (g_tt g19 rfl) rfl ?_
          refine G_ev (ev_fa rfl fa_38_1) rfl (g_tt g19 rfl) rfl ?_
          refine G_rd (rd_box1 1 rfl rfl one3 rfl) rfl (g_tt g19 rfl) rfl ?_
          obtain ⟨y20, hy20, h⟩ := bind_elim h
          refine G_opd (op_callR (slices_Contains_ok hy20) call35 rfl (mem_cons (lent_ro (i := 2) rfl rfl) mem_nil) slices_Contains_free) rfl (g_tt g19 rfl) rfl ?_
          rintro _ _ ⟨_, ⟨rfl, rfl⟩, rfl⟩
          refine G_ev (ev_pick_t' g19 rfl rfl) rfl rfl rfl ?_
          obtain rfl := Option.some.inj h
          exact G_joined (sub_cons rfl (sub_skip (sub_skip (sub_skip (sub_skip (sub_skip sub_refl rfl) rfl) rfl) rfl) rfl)) (cv_sel [0, 1, 2, 3, 4, 5] 6 rfl rfl)
        · have h := cond_f g19 hb19
          refine G_no (g_tf g19 rfl) rfl ?_
          refine G_no (g_tf g19 rfl) rfl ?_
          refine G_no (g_tf g19 rfl) rfl ?_
          refine G_no (g_tf g19 rfl) rfl ?_
          refine G_ev (ev_pick_f' g19 rfl rfl) rfl rfl rfl ?_
          obtain rfl := Option.some.inj h
          exact G_joined (sub_cons rfl (sub_skip (sub_skip (sub_skip (sub_skip (sub_skip sub_refl rfl) rfl) rfl) rfl) rfl)) (cv_sel [0, 1, 2, 3, 4, 5] 6 rfl rfl)
      refine G_nil ?_
      refine nx_n ?_
      refine G_cond rfl (fun g21 => ?_) (fun g21 => ?_)
      · replace h := cond_t g21 h
        refine G_region ?_
        refine G_rd (rd_box1 5 rfl rfl one31 rfl) rfl rfl rfl ?_
        refine G_ev (ev_fa rfl fa_38_1) rfl rfl rfl ?_
        refine G_rd (rd_box1 0 rfl rfl one3 rfl) rfl rfl rfl ?_
        refine G_opd (op_bslice (R := (rInt .i64)) (vss := [[.int .i64 x12.2.N]]) (xs := [x12.2.N]) rfl (bsl_31_1 _) rfl rfl (fun _ _ hr => .cons rfl All2.nil)) rfl rfl rfl ?_
        rintro _ _ ⟨A22, n22, c22, rfl, rfl⟩
        obtain ⟨q23, h⟩ := req_elim h
        refine G_opd (op_append 5 0 rfl rfl els_own rfl rfl Try.underlying31 zb3 rfl rfl q23) rfl rfl rfl ?_
        rintro _ _ ⟨A24, n24, c24, rfl, rfl⟩
        refine G_norm ([ownC (rInt .i64) 3 (.slice A22 n22 c22) ([x12.2.N] : List Int), boxC B17 38 [.int .i64 x12.2.Kind, .int .i64 x12.2.N, .string x12.2.S], boxC B16 38 [.int .i64 x12.1.Kind, .int .i64 x12.1.N, .string x12.1.S], slC (rInt .i64) (.slice A3 n3 c3) a1, boxC B5 31 [.slice A3 n3 c3], ownC (rInt .i64) 3 (.slice A24 n24 c24) (p13 ++ ([x12.2.N] : List Int)), boxC B9 31 [.slice A13 n13 c13]]) rfl ?_
        refine G_opn (op_store (us := [.slice A24 n24 c24]) (cs' := [.slice A24 n24 c24]) 6 rfl rfl rfl rfl size31 rfl rfl rfl) rfl rfl ?_
        rintro _ _ rfl
        refine G_norm ([ownC (rInt .i64) 3 (.slice A22 n22 c22) ([x12.2.N] : List Int), boxC B17 38 [.int .i64 x12.2.Kind, .int .i64 x12.2.N, .string x12.2.S], boxC B16 38 [.int .i64 x12.1.Kind, .int .i64 x12.1.N, .string x12.1.S], slC (rInt .i64) (.slice A3 n3 c3) a1, boxC B5 31 [.slice A3 n3 c3], ownC (rInt .i64) 3 (.slice A24 n24 c24) (p13 ++ ([x12.2.N] : List Int)), boxC B9 31 [.slice A24 n24 c24]]) rfl ?_
        refine G_nil ?_
        refine bk_n ?_
        obtain ⟨rfl, rfl⟩ := Prod.mk.inj (Option.some.inj h)
        exact RK_n ((cv_sel [3, 4, 5, 6] 7 rfl rfl).trans (cv_pack1 (A24, n24, c24) rfl))
      · replace h := cond_f g21 h
        refine G_skip ?_
        refine bk_n ?_
        obtain ⟨rfl, rfl⟩ := Prod.mk.inj (Option.some.inj h)
        exact RK_n ((cv_sel [2, 3, 4, 5] 6 rfl rfl).trans (cv_pack1 (A13, n13, c13) rfl))
    · rintro ⟨A13, n13, c13⟩ h
      refine K3_norm ([slC (rInt .i64) (.slice A3 n3 c3) a1, boxC B5 31 [.slice A3 n3 c3], ownC (rInt .i64) 3 (.slice A13 n13 c13) y14.2, boxC B9 31 [.slice A13 n13 c13]]) rfl ?_
      refine bk_n ?_
      refine nx_n ?_
      refine G_seq ?_
      refine G_region ?_
      refine G_rd (rd_box1 3 rfl rfl one31 rfl) rfl rfl rfl ?_
      refine G_ev (ev_assign rfl) rfl rfl rfl ?_
      refine G_nil ?_
      refine nx_n ?_
      refine G_ret ?_
      obtain rfl := Option.some.inj h
      exact endG1 rfl rfl (cv_sel [2] 4 rfl rfl) ⟨_, _, _, rfl, rfl⟩
    · rintro ⟨A13, n13, c13⟩ h
      exact none_some h
    · rintro i ⟨A13, n13, c13⟩ h
      exact none_some h
theorem weak_Opens_free {r : (List Int)} : ∀ v post, ((fun (u : Value) (post : List Chunk) => ∃ A0 n0 c0, u = .slice A0 n0 c0 ∧ post = [ownC (rInt .i64) 3 (.slice A0 n0 c0) r])) v post → ∀ c ∈ post, Free c := by
  rintro _ _ ⟨_, _, _, rfl, rfl⟩; exact mem_cons free_own (mem_nil)
/-! (*pantomime/reach.row).pass -/
def reach_row_pass_j6 (N : Nat) (a0 : DRow) (p7 : (List DCell)) (p8 : (List DCell)) (p9 : (List Int)) (p10 : (List (Int × Unit))) (p11 : Int) : Option (Bool × DRow) :=
  some (decide ((a0.all_.length : Int) < (p9.length : Int)), (⟨(⟨p7, p8⟩ : DMemory), p9, p10, p11⟩ : DRow))
def reach_row_pass_j21 (N : Nat) (kb13 : Int → (List DCell) → (List DCell) → (List Int) → (List (Int × Unit)) → Int → Option (Bool × DRow)) (a0 : DRow) (p14 : Int) (p22 : (List DCell)) (p23 : (List DCell)) (p24 : (List Int)) (p25 : (List (Int × Unit))) (p26 : Int) : Option (Bool × DRow) :=
  req (in64 (p14 + 1)) (kb13 (p14 + 1) p22 p23 p24 p25 p26)
def reach_row_pass_l13 (N : Nat) (a0 : DRow) : Nat → Int → (List DCell) → (List DCell) → (List Int) → (List (Int × Unit)) → Int → Option (Bool × DRow)
  | 0, _, _, _, _, _, _ => none
  | m13 + 1, p14, p15, p16, p17, p18, p19 => bif decide (p14 < ((List.take a0.all_.length a0.all_).length : Int)) then ((getE (List.take a0.all_.length p17) p14).bind fun x27 => (reach_At_O N (⟨p15, p16⟩ : DMemory) x27).bind fun y28 => bif decide (y28.Kind = 8) then ((weak_Opens_O N y28 p17).bind fun y33 => (reach_row_lay_O N (⟨(⟨p15, p16⟩ : DMemory), p17, p18, p19⟩ : DRow) y33).bind fun y35 => reach_row_pass_j21 N (reach_row_pass_l13 N a0 m13) a0 p14 y35.m_.Young y35.m_.Old y35.all_ y35.met_ y35.done_) else (reach_row_pass_j21 N (reach_row_pass_l13 N a0 m13) a0 p14 p15 p16 p17 p18 p19)) else (reach_row_pass_j6 N a0 p15 p16 p17 p18 p19)
theorem reach_row_pass_l13_s {N m13 : Nat} {a0 : DRow} {p14 : Int} {p15 : (List DCell)} {p16 : (List DCell)} {p17 : (List Int)} {p18 : (List (Int × Unit))} {p19 : Int} : reach_row_pass_l13 N a0 (m13 + 1) p14 p15 p16 p17 p18 p19 = bif decide (p14 < ((List.take a0.all_.length a0.all_).length : Int)) then ((getE (List.take a0.all_.length p17) p14).bind fun x27 => (reach_At_O N (⟨p15, p16⟩ : DMemory) x27).bind fun y28 => bif decide (y28.Kind = 8) then ((weak_Opens_O N y28 p17).bind fun y33 => (reach_row_lay_O N (⟨(⟨p15, p16⟩ : DMemory), p17, p18, p19⟩ : DRow) y33).bind fun y35 => reach_row_pass_j21 N (reach_row_pass_l13 N a0 m13) a0 p14 y35.m_.Young y35.m_.Old y35.all_ y35.met_ y35.done_) else (reach_row_pass_j21 N (reach_row_pass_l13 N a0 m13) a0 p14 p15 p16 p17 p18 p19)) else (reach_row_pass_j6 N a0 p15 p16 p17 p18 p19) := rfl
def reach_row_pass_O (N : Nat) (a0 : DRow) : Option (Bool × DRow) :=
  reach_row_pass_l13 N a0 N 0 a0.m_.Young a0.m_.Old a0.all_ a0.met_ a0.done_
theorem reach_row_pass_ok {N : Nat} {a0 : DRow} {r : (Bool × DRow)} (h : reach_row_pass_O N a0 = some r) {A2 : Option Addr} {n2 c2 : Nat} {A3 : Option Addr} {n3 c3 : Nat} {B1 : Nat} {A4 : Option Addr} {n4 c4 : Nat} {M5 : Nat} : Okc Try.prog 56 [.pointer (some ⟨B1, 0, none⟩)] ([slC rDCell (.slice A2 n2 c2) a0.m_.Young, slC rDCell (.slice A3 n3 c3) a0.m_.Old, boxC B1 79 [.slice A2 n2 c2, .slice A3 n3 c3, .slice A4 n4 c4, .map (some M5), .int .i64 a0.done_], ownC (rInt .i64) 3 (.slice A4 n4 c4) a0.all_, mapC ekI evU M5 a0.met_]) (fun (u : Value) (post : List Chunk) => ∃ A0 n0 c0 A1 n1 c1 A2 n2 c2 M3, u = .bool r.1 ∧ post = [boxC B1 79 [.slice A0 n0 c0, .slice A1 n1 c1, .slice A2 n2 c2, .map (some M3), .int .i64 r.2.done_], slC rDCell (.slice A0 n0 c0) r.2.m_.Young, slC rDCell (.slice A1 n1 c1) r.2.m_.Old, ownC (rInt .i64) 3 (.slice A2 n2 c2) r.2.all_, mapC ekI evU M3 r.2.met_]) := by
  refine ok_E Try.func56 rfl rfl ?_
  simp only [envOf]
  refine G_seq ?_
  refine G_region ?_
  refine G_ev (ev_assign rfl) rfl rfl rfl ?_
  refine G_nil ?_
  refine nx_n ?_
  refine G_seq ?_
  refine G_region ?_
  refine G_ev (ev_move rfl) rfl rfl rfl ?_
  refine G_ev (ev_nilCheck rfl) rfl rfl rfl ?_
  refine G_ev (ev_fa rfl fa_79_1) rfl rfl rfl ?_
  refine G_rd (rd_box1 2 rfl rfl one31 rfl) rfl rfl rfl ?_
  refine G_rd (rd_len 3 rfl els_own rfl Try.underlying31) rfl rfl rfl ?_
  refine G_ev (ev_assign rfl) rfl rfl rfl ?_
  refine G_nil ?_
  refine nx_n ?_
  refine G_joinF (fun s L => ∃ (p7 : (List DCell)) (p8 : (List DCell)) (p9 : (List Int)) (p10 : (List (Int × Unit))) (p11 : Int) (A7 : Option Addr) (n7 c7 : Nat) (A8 : Option Addr) (n8 c8 : Nat) (A9 : Option Addr) (n9 c9 : Nat) (M10 : Nat), reach_row_pass_j6 N a0 p7 p8 p9 p10 p11 = some r ∧ s = [(0, .pointer (some ⟨B1, 0, none⟩)), (2, .bool false), (3, .int .i64 (a0.all_.length : Int))] ∧ L = [slC rDCell (.slice A7 n7 c7) p7, slC rDCell (.slice A8 n8 c8) p8, ownC (rInt .i64) 3 (.slice A9 n9 c9) p9, mapC ekI evU M10 p10, boxC B1 79 [.slice A7 n7 c7, .slice A8 n8 c8, .slice A9 n9 c9, .map (some M10), .int .i64 p11]]) ?_ ?_
  · refine G_seq ?_
    refine G_region ?_
    refine G_ev (ev_move rfl) rfl rfl rfl ?_
    refine G_ev (ev_nilCheck rfl) rfl rfl rfl ?_
    refine G_ev (ev_fa rfl fa_79_1) rfl rfl rfl ?_
    refine G_rd (rd_box1 2 rfl rfl one31 rfl) rfl rfl rfl ?_
    refine G_ev (ev_move rfl) rfl rfl rfl ?_
    refine G_ev (ev_move rfl) rfl rfl rfl ?_
    refine G_cv (cv_grow0 3 rfl) ?_
    refine G_norm ([slC rDCell (.slice A2 n2 c2) a0.m_.Young, slC rDCell (.slice A3 n3 c3) a0.m_.Old, boxC B1 79 [.slice A2 n2 c2, .slice A3 n3 c3, .slice A4 n4 c4, .map (some M5), .int .i64 a0.done_], growC (rInt .i64) 3 (.slice A4 n4 c4) a0.all_ (.slice none 0 0) 0, mapC ekI evU M5 a0.met_]) rfl ?_
    refine G_opd (op_view (n := a0.all_.length) 3 rfl rfl Try.underlying31 size3 rfl rfl rfl (Nat.le_refl _)) rfl rfl rfl ?_
    rintro _ _ ⟨A12, rfl, rfl⟩
    refine G_norm ([slC rDCell (.slice A2 n2 c2) a0.m_.Young, slC rDCell (.slice A3 n3 c3) a0.m_.Old, boxC B1 79 [.slice A2 n2 c2, .slice A3 n3 c3, .slice A4 n4 c4, .map (some M5), .int .i64 a0.done_], growC (rInt .i64) 3 (.slice A4 n4 c4) a0.all_ (.slice A12 a0.all_.length a0.all_.length) a0.all_.length, mapC ekI evU M5 a0.met_]) rfl ?_
    refine G_rd (rd_len 3 rfl els_view rfl Try.underlying31) rfl rfl rfl ?_
    refine G_ev (ev_move rfl) rfl rfl rfl ?_
    refine G_nil ?_
    refine nx_n ?_
    refine G_block ?_
    refine G_loopF (fun m s L => ∃ (p14 : Int) (p15 : (List DCell)) (p16 : (List DCell)) (p17 : (List Int)) (p18 : (List (Int × Unit))) (p19 : Int) (A15 : Option Addr) (n15 c15 : Nat) (A16 : Option Addr) (n16 c16 : Nat) (A17 : Option Addr) (n17 c17 : Nat) (M18 : Nat), reach_row_pass_l13 N a0 m p14 p15 p16 p17 p18 p19 = some r ∧ s = [(0, .pointer (some ⟨B1, 0, none⟩)), (2, .bool false), (3, .int .i64 (a0.all_.length : Int)), (18, .slice A12 a0.all_.length a0.all_.length), (19, .int .i64 ((List.take a0.all_.length a0.all_).length : Int)), (20, .int .i64 p14)] ∧ L = [slC rDCell (.slice A15 n15 c15) p15, slC rDCell (.slice A16 n16 c16) p16, growC (rInt .i64) 3 (.slice A17 n17 c17) p17 (.slice A12 a0.all_.length a0.all_.length) a0.all_.length, mapC ekI evU M18 p18, boxC B1 79 [.slice A15 n15 c15, .slice A16 n16 c16, .slice A17 n17 c17, .map (some M18), .int .i64 p19]]) N _ _ ⟨0, a0.m_.Young, a0.m_.Old, a0.all_, a0.met_, a0.done_, A2, n2, c2, A3, n3, c3, A4, n4, c4, M5, h, rfl, rfl⟩ (sub_cons rfl (sub_cons rfl (sub_cons rfl (sub_cons rfl (sub_cons rfl (sub_cons rfl sub_nil)))))) (cv_sel [0, 1, 3, 4, 2] 5 rfl rfl) ?_
    rintro (_ | m13) _ _ ⟨p14, p15, p16, p17, p18, p19, A15, n15, c15, A16, n16, c16, A17, n17, c17, M18, h, rfl, rfl⟩
    · exact none_some h
    rw [reach_row_pass_l13_s] at h
    refine G_seq ?_
    refine G_region ?_
    refine G_ev (ev_lt rfl rfl) rfl rfl rfl ?_
    refine G_nil ?_
    refine nx_n ?_
    refine G_seq ?_
    refine G_cond rfl (fun g20 => ?_) (fun g20 => ?_)
    · replace h := cond_t g20 h
      refine G_skip ?_
      refine nx_n ?_
      refine G_joinF (fun s L => ∃ (p22 : (List DCell)) (p23 : (List DCell)) (p24 : (List Int)) (p25 : (List (Int × Unit))) (p26 : Int) (A22 : Option Addr) (n22 c22 : Nat) (A23 : Option Addr) (n23 c23 : Nat) (A24 : Option Addr) (n24 c24 : Nat) (M25 : Nat), reach_row_pass_j21 N (reach_row_pass_l13 N a0 m13) a0 p14 p22 p23 p24 p25 p26 = some r ∧ s = [(0, .pointer (some ⟨B1, 0, none⟩)), (2, .bool false), (3, .int .i64 (a0.all_.length : Int)), (18, .slice A12 a0.all_.length a0.all_.length), (19, .int .i64 ((List.take a0.all_.length a0.all_).length : Int)), (20, .int .i64 p14)] ∧ L = [slC rDCell (.slice A22 n22 c22) p22, slC rDCell (.slice A23 n23 c23) p23, growC (rInt .i64) 3 (.slice A24 n24 c24) p24 (.slice A12 a0.all_.length a0.all_.length) a0.all_.length, mapC ekI evU M25 p25, boxC B1 79 [.slice A22 n22 c22, .slice A23 n23 c23, .slice A24 n24 c24, .map (some M25), .int .i64 p26]]) ?_ ?_
      · refine G_block ?_
        refine G_seq ?_
        refine G_region ?_
        obtain ⟨x27, hx27, h⟩ := bind_elim h
        obtain ⟨lx27, ux27, hx27⟩ := getE_elim hx27
        refine G_rd (rd_idx 2 rfl els_view rfl rfl Try.underlying31 size3 lx27 ux27) rfl rfl rfl ?_
        refine G_rd (rd_elem1 (u := .int .i64 x27) 2 rfl els_view rfl hx27 one3 (fun _ _ _ h => by rw [show _ = _ from h]; rfl)) rfl rfl rfl ?_
        refine G_ev (ev_assign rfl) rfl rfl rfl ?_
        refine G_nil ?_
        refine nx_n ?_
        refine G_seq ?_
        refine G_region ?_
        refine G_ev (ev_move rfl) rfl rfl rfl ?_
        refine G_ev (ev_nilCheck rfl) rfl rfl rfl ?_
        refine G_ev (ev_fa0 rfl fa_79_0) rfl rfl rfl ?_
        refine G_rd (rd_boxS (us := [.slice A15 n15 c15, .slice A16 n16 c16]) 4 rfl rfl agg24 rfl) rfl rfl rfl ?_
        refine G_ev (ev_move rfl) rfl rfl rfl ?_
        obtain ⟨y28, hy28, h⟩ := bind_elim h
        refine G_opd (op_call (reach_At_ok hy28) call62 rfl (cv_take [0, 1] [] [0, 1, 2, 3, 4] 5 rfl)) rfl rfl rfl ?_
        rintro _ _ ⟨_, ⟨A29, n29, c29, A30, n30, c30, rfl, rfl⟩, rfl⟩
        refine G_norm ([ownC rDValue 38 (.slice A29 n29 c29) y28.Slots, ownC rDValue 38 (.slice A30 n30 c30) y28.More, slC rDCell (.slice A15 n15 c15) p15, slC rDCell (.slice A16 n16 c16) p16, growC (rInt .i64) 3 (.slice A17 n17 c17) p17 (.slice A12 a0.all_.length a0.all_.length) a0.all_.length, mapC ekI evU M18 p18, boxC B1 79 [.slice A15 n15 c15, .slice A16 n16 c16, .slice A17 n17 c17, .map (some M18), .int .i64 p19]]) rfl ?_
        refine G_opd (op_alloc zero42 rfl) rfl rfl rfl ?_
        rintro _ _ ⟨B31, rfl, rfl⟩
        refine G_opn (op_store (us := [.int .i64 y28.Kind, .int .i64 y28.Shape, .int .i64 y28.Flags, .int .i64 y28.Age, .slice A29 n29 c29, .slice A30 n30 c30]) (cs' := [.int .i64 y28.Kind, .int .i64 y28.Shape, .int .i64 y28.Flags, .int .i64 y28.Age, .slice A29 n29 c29, .slice A30 n30 c30]) 0 rfl rfl rfl rfl size42 rfl rfl rfl) rfl rfl ?_
        rintro _ _ rfl
        refine G_norm ([boxC B31 42 [.int .i64 y28.Kind, .int .i64 y28.Shape, .int .i64 y28.Flags, .int .i64 y28.Age, .slice A29 n29 c29, .slice A30 n30 c30], ownC rDValue 38 (.slice A29 n29 c29) y28.Slots, ownC rDValue 38 (.slice A30 n30 c30) y28.More, slC rDCell (.slice A15 n15 c15) p15, slC rDCell (.slice A16 n16 c16) p16, growC (rInt .i64) 3 (.slice A17 n17 c17) p17 (.slice A12 a0.all_.length a0.all_.length) a0.all_.length, mapC ekI evU M18 p18, boxC B1 79 [.slice A15 n15 c15, .slice A16 n16 c16, .slice A17 n17 c17, .map (some M18), .int .i64 p19]]) rfl ?_
        refine G_nil ?_
        refine nx_n ?_
        refine G_seq ?_
        refine G_region ?_
        refine G_ev (ev_fa0 rfl fa_42_0) rfl rfl rfl ?_
        refine G_rd (rd_box1 0 rfl rfl one3 rfl) rfl rfl rfl ?_
        refine G_ev (ev_eq rfl rfl) rfl rfl rfl ?_
        refine G_nil ?_
        refine nx_n ?_
        refine G_cond rfl (fun g32 => ?_) (fun g32 => ?_)
        · replace h := cond_t g32 h
          refine G_sub (t := [(0, .pointer (some ⟨B1, 0, none⟩)), (2, .bool false), (3, .int .i64 (a0.all_.length : Int)), (6, .pointer (some ⟨B31, 0, none⟩)), (18, .slice A12 a0.all_.length a0.all_.length), (19, .int .i64 ((List.take a0.all_.length a0.all_).length : Int)), (20, .int .i64 p14)]) ?_ (sub_cons rfl (sub_cons rfl (sub_cons rfl (sub_cons rfl (sub_cons rfl (sub_cons rfl (sub_cons rfl sub_nil))))))) (cv_refl _)
          refine G_monoR (by kernel_rfl) 6 [0] [33, 34, 35, 36, 37, 38] [[], [], [], [2], [3], [4]] [fun u => [pureC (u = .pointer (some ⟨B1, 0, none⟩))],
      fun u => [pureC (u = .agg #[.int .i64 y28.Kind, .int .i64 y28.Shape, .int .i64 y28.Flags, .int .i64 y28.Age, .slice A29 n29 c29, .slice A30 n30 c30])],
      fun u => [pureC (u = .pointer (some ⟨B1, 0, none⟩))],
      fun u => [pureC (u = .pointer (some ⟨B1, 0, none⟩))],
      fun u => [pureC (u = .pointer (some ⟨B1, 2, none⟩))],
      fun u => [pureC (u = .slice A17 n17 c17)]] (by kernel_rfl) ?_ ?_ ?_
          · refine qs_cons rfl ?_ ?_
            · intro val
              refine Q_start (s := [(0, .pointer (some ⟨B1, 0, none⟩)), (2, .bool false), (3, .int .i64 (a0.all_.length : Int)), (6, .pointer (some ⟨B31, 0, none⟩)), (18, .slice A12 a0.all_.length a0.all_.length), (19, .int .i64 ((List.take a0.all_.length a0.all_).length : Int)), (20, .int .i64 p14)]) (L := [boxC B31 42 [.int .i64 y28.Kind, .int .i64 y28.Shape, .int .i64 y28.Flags, .int .i64 y28.Age, .slice A29 n29 c29, .slice A30 n30 c30], ownC rDValue 38 (.slice A29 n29 c29) y28.Slots, ownC rDValue 38 (.slice A30 n30 c30) y28.More, slC rDCell (.slice A15 n15 c15) p15, slC rDCell (.slice A16 n16 c16) p16, growC (rInt .i64) 3 (.slice A17 n17 c17) p17 (.slice A12 a0.all_.length a0.all_.length) a0.all_.length, mapC ekI evU M18 p18, boxC B1 79 [.slice A15 n15 c15, .slice A16 n16 c16, .slice A17 n17 c17, .map (some M18), .int .i64 p19]]) (A := fun u => [pureC (u = .pointer (some ⟨B1, 0, none⟩))]) ?_ rfl rfl rfl
              exact QS_ev (ev_move rfl) rfl (cv_put [] rfl (cv_refl _))
            exact qs_nil
          · refine steps_cons rfl ?_ ?_
            · intro val
              refine X_start (s := [(37, val 4), (0, .pointer (some ⟨B1, 0, none⟩)), (2, .bool false), (3, .int .i64 (a0.all_.length : Int)), (6, .pointer (some ⟨B31, 0, none⟩)), (18, .slice A12 a0.all_.length a0.all_.length), (19, .int .i64 ((List.take a0.all_.length a0.all_).length : Int)), (20, .int .i64 p14)]) (L := [pureC ((val 4) = .pointer (some ⟨B1, 2, none⟩)), boxC B31 42 [.int .i64 y28.Kind, .int .i64 y28.Shape, .int .i64 y28.Flags, .int .i64 y28.Age, .slice A29 n29 c29, .slice A30 n30 c30], ownC rDValue 38 (.slice A29 n29 c29) y28.Slots, ownC rDValue 38 (.slice A30 n30 c30) y28.More, slC rDCell (.slice A15 n15 c15) p15, slC rDCell (.slice A16 n16 c16) p16, growC (rInt .i64) 3 (.slice A17 n17 c17) p17 (.slice A12 a0.all_.length a0.all_.length) a0.all_.length, mapC ekI evU M18 p18, boxC B1 79 [.slice A15 n15 c15, .slice A16 n16 c16, .slice A17 n17 c17, .map (some M18), .int .i64 p19]]) (A := fun u => [pureC (u = .slice A17 n17 c17)]) ?_ rfl rfl rfl
              generalize val 4 = u4
              refine X_pure 0 rfl ?_
              rintro rfl
              exact X_rd (rd_box1 8 rfl rfl one31 rfl) rfl (cv_put [] rfl (cv_refl _))
            refine steps_cons rfl ?_ ?_
            · intro val
              refine X_start (s := [(36, val 3), (0, .pointer (some ⟨B1, 0, none⟩)), (2, .bool false), (3, .int .i64 (a0.all_.length : Int)), (6, .pointer (some ⟨B31, 0, none⟩)), (18, .slice A12 a0.all_.length a0.all_.length), (19, .int .i64 ((List.take a0.all_.length a0.all_).length : Int)), (20, .int .i64 p14)]) (L := [pureC ((val 3) = .pointer (some ⟨B1, 0, none⟩)), boxC B31 42 [.int .i64 y28.Kind, .int .i64 y28.Shape, .int .i64 y28.Flags, .int .i64 y28.Age, .slice A29 n29 c29, .slice A30 n30 c30], ownC rDValue 38 (.slice A29 n29 c29) y28.Slots, ownC rDValue 38 (.slice A30 n30 c30) y28.More, slC rDCell (.slice A15 n15 c15) p15, slC rDCell (.slice A16 n16 c16) p16, growC (rInt .i64) 3 (.slice A17 n17 c17) p17 (.slice A12 a0.all_.length a0.all_.length) a0.all_.length, mapC ekI evU M18 p18, boxC B1 79 [.slice A15 n15 c15, .slice A16 n16 c16, .slice A17 n17 c17, .map (some M18), .int .i64 p19]]) (A := fun u => [pureC (u = .pointer (some ⟨B1, 2, none⟩))]) ?_ rfl rfl rfl
              generalize val 3 = u3
              refine X_pure 0 rfl ?_
              rintro rfl
              exact X_ev (ev_fa rfl fa_79_1) rfl (cv_put [] rfl (cv_refl _))
            refine steps_cons rfl ?_ ?_
            · intro val
              refine X_start (s := [(35, val 2), (0, .pointer (some ⟨B1, 0, none⟩)), (2, .bool false), (3, .int .i64 (a0.all_.length : Int)), (6, .pointer (some ⟨B31, 0, none⟩)), (18, .slice A12 a0.all_.length a0.all_.length), (19, .int .i64 ((List.take a0.all_.length a0.all_).length : Int)), (20, .int .i64 p14)]) (L := [pureC ((val 2) = .pointer (some ⟨B1, 0, none⟩)), boxC B31 42 [.int .i64 y28.Kind, .int .i64 y28.Shape, .int .i64 y28.Flags, .int .i64 y28.Age, .slice A29 n29 c29, .slice A30 n30 c30], ownC rDValue 38 (.slice A29 n29 c29) y28.Slots, ownC rDValue 38 (.slice A30 n30 c30) y28.More, slC rDCell (.slice A15 n15 c15) p15, slC rDCell (.slice A16 n16 c16) p16, growC (rInt .i64) 3 (.slice A17 n17 c17) p17 (.slice A12 a0.all_.length a0.all_.length) a0.all_.length, mapC ekI evU M18 p18, boxC B1 79 [.slice A15 n15 c15, .slice A16 n16 c16, .slice A17 n17 c17, .map (some M18), .int .i64 p19]]) (A := fun u => [pureC (u = .pointer (some ⟨B1, 0, none⟩))]) ?_ rfl rfl rfl
              generalize val 2 = u2
              refine X_pure 0 rfl ?_
              rintro rfl
              exact X_ev (ev_nilCheck rfl) rfl (cv_put [] rfl (cv_refl _))
            refine steps_cons rfl ?_ ?_
            · intro val
              refine X_start (s := [(0, .pointer (some ⟨B1, 0, none⟩)), (2, .bool false), (3, .int .i64 (a0.all_.length : Int)), (6, .pointer (some ⟨B31, 0, none⟩)), (18, .slice A12 a0.all_.length a0.all_.length), (19, .int .i64 ((List.take a0.all_.length a0.all_).length : Int)), (20, .int .i64 p14)]) (L := [boxC B31 42 [.int .i64 y28.Kind, .int .i64 y28.Shape, .int .i64 y28.Flags, .int .i64 y28.Age, .slice A29 n29 c29, .slice A30 n30 c30], ownC rDValue 38 (.slice A29 n29 c29) y28.Slots, ownC rDValue 38 (.slice A30 n30 c30) y28.More, slC rDCell (.slice A15 n15 c15) p15, slC rDCell (.slice A16 n16 c16) p16, growC (rInt .i64) 3 (.slice A17 n17 c17) p17 (.slice A12 a0.all_.length a0.all_.length) a0.all_.length, mapC ekI evU M18 p18, boxC B1 79 [.slice A15 n15 c15, .slice A16 n16 c16, .slice A17 n17 c17, .map (some M18), .int .i64 p19]]) (A := fun u => [pureC (u = .pointer (some ⟨B1, 0, none⟩))]) ?_ rfl rfl rfl
              exact X_ev (ev_move rfl) rfl (cv_put [] rfl (cv_refl _))
            refine steps_cons rfl ?_ ?_
            · intro val
              refine X_start (s := [(0, .pointer (some ⟨B1, 0, none⟩)), (2, .bool false), (3, .int .i64 (a0.all_.length : Int)), (6, .pointer (some ⟨B31, 0, none⟩)), (18, .slice A12 a0.all_.length a0.all_.length), (19, .int .i64 ((List.take a0.all_.length a0.all_).length : Int)), (20, .int .i64 p14)]) (L := [boxC B31 42 [.int .i64 y28.Kind, .int .i64 y28.Shape, .int .i64 y28.Flags, .int .i64 y28.Age, .slice A29 n29 c29, .slice A30 n30 c30], ownC rDValue 38 (.slice A29 n29 c29) y28.Slots, ownC rDValue 38 (.slice A30 n30 c30) y28.More, slC rDCell (.slice A15 n15 c15) p15, slC rDCell (.slice A16 n16 c16) p16, growC (rInt .i64) 3 (.slice A17 n17 c17) p17 (.slice A12 a0.all_.length a0.all_.length) a0.all_.length, mapC ekI evU M18 p18, boxC B1 79 [.slice A15 n15 c15, .slice A16 n16 c16, .slice A17 n17 c17, .map (some M18), .int .i64 p19]]) (A := fun u => [pureC (u = .agg #[.int .i64 y28.Kind, .int .i64 y28.Shape, .int .i64 y28.Flags, .int .i64 y28.Age, .slice A29 n29 c29, .slice A30 n30 c30])]) ?_ rfl rfl rfl
              exact X_rd (rd_boxS (us := [.int .i64 y28.Kind, .int .i64 y28.Shape, .int .i64 y28.Flags, .int .i64 y28.Age, .slice A29 n29 c29, .slice A30 n30 c30]) 0 rfl rfl agg42 rfl) rfl (cv_put [] rfl (cv_refl _))
            refine steps_cons rfl ?_ ?_
            · intro val
              refine X_start (s := [(0, .pointer (some ⟨B1, 0, none⟩)), (2, .bool false), (3, .int .i64 (a0.all_.length : Int)), (6, .pointer (some ⟨B31, 0, none⟩)), (18, .slice A12 a0.all_.length a0.all_.length), (19, .int .i64 ((List.take a0.all_.length a0.all_).length : Int)), (20, .int .i64 p14)]) (L := [boxC B31 42 [.int .i64 y28.Kind, .int .i64 y28.Shape, .int .i64 y28.Flags, .int .i64 y28.Age, .slice A29 n29 c29, .slice A30 n30 c30], ownC rDValue 38 (.slice A29 n29 c29) y28.Slots, ownC rDValue 38 (.slice A30 n30 c30) y28.More, slC rDCell (.slice A15 n15 c15) p15, slC rDCell (.slice A16 n16 c16) p16, growC (rInt .i64) 3 (.slice A17 n17 c17) p17 (.slice A12 a0.all_.length a0.all_.length) a0.all_.length, mapC ekI evU M18 p18, boxC B1 79 [.slice A15 n15 c15, .slice A16 n16 c16, .slice A17 n17 c17, .map (some M18), .int .i64 p19]]) (A := fun u => [pureC (u = .pointer (some ⟨B1, 0, none⟩))]) ?_ rfl rfl rfl
              exact X_ev (ev_move rfl) rfl (cv_put [] rfl (cv_refl _))
            exact steps_nil
          · intro val
            show TkN _ _ _ _ _ [(33, val 0), (34, val 1), (35, val 2), (36, val 3), (37, val 4), (38, val 5), (0, .pointer (some ⟨B1, 0, none⟩)), (2, .bool false), (3, .int .i64 (a0.all_.length : Int)), (6, .pointer (some ⟨B31, 0, none⟩)), (18, .slice A12 a0.all_.length a0.all_.length), (19, .int .i64 ((List.take a0.all_.length a0.all_).length : Int)), (20, .int .i64 p14)] ([pureC ((val 0) = .pointer (some ⟨B1, 0, none⟩)), pureC ((val 1) = .agg #[.int .i64 y28.Kind, .int .i64 y28.Shape, .int .i64 y28.Flags, .int .i64 y28.Age, .slice A29 n29 c29, .slice A30 n30 c30]), pureC ((val 2) = .pointer (some ⟨B1, 0, none⟩)), pureC ((val 3) = .pointer (some ⟨B1, 0, none⟩)), pureC ((val 4) = .pointer (some ⟨B1, 2, none⟩)), pureC ((val 5) = .slice A17 n17 c17), boxC B31 42 [.int .i64 y28.Kind, .int .i64 y28.Shape, .int .i64 y28.Flags, .int .i64 y28.Age, .slice A29 n29 c29, .slice A30 n30 c30], ownC rDValue 38 (.slice A29 n29 c29) y28.Slots, ownC rDValue 38 (.slice A30 n30 c30) y28.More, slC rDCell (.slice A15 n15 c15) p15, slC rDCell (.slice A16 n16 c16) p16, growC (rInt .i64) 3 (.slice A17 n17 c17) p17 (.slice A12 a0.all_.length a0.all_.length) a0.all_.length, mapC ekI evU M18 p18, boxC B1 79 [.slice A15 n15 c15, .slice A16 n16 c16, .slice A17 n17 c17, .map (some M18), .int .i64 p19]])
            generalize val 0 = u0
            generalize val 1 = u1
            generalize val 2 = u2
            generalize val 3 = u3
            generalize val 4 = u4
            generalize val 5 = u5
            refine N_pure 0 rfl ?_
            rintro rfl
            refine N_pure 1 rfl ?_
            rintro rfl
            refine N_pure 2 rfl ?_
            rintro rfl
            refine N_pure 3 rfl ?_
            rintro rfl
            refine N_pure 4 rfl ?_
            rintro rfl
            refine N_pure 5 rfl ?_
            rintro rfl
            refine N_sub (L' := [boxC B31 42 [.int .i64 y28.Kind, .int .i64 y28.Shape, .int .i64 y28.Flags, .int .i64 y28.Age, .slice A29 n29 c29, .slice A30 n30 c30], ownC rDValue 38 (.slice A29 n29 c29) y28.Slots, ownC rDValue 38 (.slice A30 n30 c30) y28.More, slC rDCell (.slice A15 n15 c15) p15, slC rDCell (.slice A16 n16 c16) p16, growC (rInt .i64) 3 (.slice A17 n17 c17) p17 (.slice A12 a0.all_.length a0.all_.length) a0.all_.length, mapC ekI evU M18 p18, boxC B1 79 [.slice A15 n15 c15, .slice A16 n16 c16, .slice A17 n17 c17, .map (some M18), .int .i64 p19]]) ?_ sub_refl (cv_sel [6, 7, 8, 9, 10, 11, 12, 13] 14 rfl rfl)
            obtain ⟨y33, hy33, h⟩ := bind_elim h
            refine N_opd 6 rfl (by kernel_rfl) (op_callR (weak_Opens_ok hy33) call95 rfl (mem_cons (lent_own (i := 1) rfl) (mem_cons (lent_own (i := 2) rfl) (mem_cons (lent_grow (i := 5) rfl) mem_nil))) weak_Opens_free) rfl rfl rfl ?_
            rintro _ _ ⟨_, ⟨A34, n34, c34, rfl, rfl⟩, rfl⟩
            refine N_sub ?_ sub_refl (cv_frz 0 rfl)
            refine N_norm ([slC (rInt .i64) (.slice A34 n34 c34) y33, boxC B31 42 [.int .i64 y28.Kind, .int .i64 y28.Shape, .int .i64 y28.Flags, .int .i64 y28.Age, .slice A29 n29 c29, .slice A30 n30 c30], ownC rDValue 38 (.slice A29 n29 c29) y28.Slots, ownC rDValue 38 (.slice A30 n30 c30) y28.More, slC rDCell (.slice A15 n15 c15) p15, slC rDCell (.slice A16 n16 c16) p16, growC (rInt .i64) 3 (.slice A17 n17 c17) p17 (.slice A12 a0.all_.length a0.all_.length) a0.all_.length, mapC ekI evU M18 p18, boxC B1 79 [.slice A15 n15 c15, .slice A16 n16 c16, .slice A17 n17 c17, .map (some M18), .int .i64 p19]]) rfl ?_
            obtain ⟨y35, hy35, h⟩ := bind_elim h
            refine N_opd 7 rfl (by kernel_rfl) (op_call (reach_row_lay_v_ok hy35) call94 rfl (cv_take [4, 5, 0] [8, 6, 7] [0, 1, 2, 3, 4, 5] 9 rfl)) rfl rfl rfl ?_
            rintro _ _ ⟨_, ⟨A36, n36, c36, A37, n37, c37, A38, n38, c38, M39, rfl, rfl⟩, rfl⟩
            refine N_norm ([boxC B1 79 [.slice A36 n36 c36, .slice A37 n37 c37, .slice A38 n38 c38, .map (some M39), .int .i64 y35.done_], slC rDCell (.slice A36 n36 c36) y35.m_.Young, slC rDCell (.slice A37 n37 c37) y35.m_.Old, growC (rInt .i64) 3 (.slice A38 n38 c38) y35.all_ (.slice A12 a0.all_.length a0.all_.length) a0.all_.length, mapC ekI evU M39 y35.met_, slC (rInt .i64) (.slice A34 n34 c34) y33, boxC B31 42 [.int .i64 y28.Kind, .int .i64 y28.Shape, .int .i64 y28.Flags, .int .i64 y28.Age, .slice A29 n29 c29, .slice A30 n30 c30], ownC rDValue 38 (.slice A29 n29 c29) y28.Slots, ownC rDValue 38 (.slice A30 n30 c30) y28.More, slC rDCell (.slice A15 n15 c15) p15, slC rDCell (.slice A16 n16 c16) p16]) rfl ?_
            refine N_done (by kernel_rfl) ?_
            refine bk_n ?_
            refine nx_n ?_
            exact ⟨_, _, ⟨y35.m_.Young, y35.m_.Old, y35.all_, y35.met_, y35.done_, A36, n36, c36, A37, n37, c37, A38, n38, c38, M39, h, rfl, rfl⟩, sub_cons rfl (sub_cons rfl (sub_cons rfl (sub_cons rfl (sub_cons rfl (sub_cons rfl sub_nil))))), cv_sel [1, 2, 3, 4, 0] 11 rfl rfl⟩
        · replace h := cond_f g32 h
          refine G_skip ?_
          refine bk_n ?_
          refine nx_n ?_
          exact ⟨_, _, ⟨p15, p16, p17, p18, p19, A15, n15, c15, A16, n16, c16, A17, n17, c17, M18, h, rfl, rfl⟩, sub_cons rfl (sub_cons rfl (sub_cons rfl (sub_cons rfl (sub_cons rfl (sub_cons rfl sub_nil))))), cv_sel [3, 4, 5, 6, 7] 8 rfl rfl⟩
      · rintro _ _ ⟨p22, p23, p24, p25, p26, A22, n22, c22, A23, n23, c23, A24, n24, c24, M25, h, rfl, rfl⟩
        refine G_region ?_
        obtain ⟨q40, h⟩ := req_elim h
        refine G_ev (ev_add rfl rfl q40.1 q40.2) rfl rfl rfl ?_
        refine G_ev (ev_move rfl) rfl rfl rfl ?_
        refine G_nil ?_
        refine nx_n ?_
        exact ⟨m13, _, _, Nat.lt_succ_self _, ⟨p14 + 1, p22, p23, p24, p25, p26, A22, n22, c22, A23, n23, c23, A24, n24, c24, M25, h, rfl, rfl⟩, sub_cons rfl (sub_cons rfl (sub_cons rfl (sub_cons rfl (sub_cons rfl (sub_cons rfl sub_nil))))), cv_sel [0, 1, 2, 3, 4] 5 rfl rfl⟩
    · replace h := cond_f g20 h
      refine G_exit ?_
      refine nx_e ?_
      refine nx_e ?_
      refine bk_x ?_
      refine nx_n ?_
      exact ⟨_, _, ⟨p15, p16, p17, p18, p19, A15, n15, c15, A16, n16, c16, A17, n17, c17, M18, h, rfl, rfl⟩, sub_cons rfl (sub_cons rfl (sub_cons rfl sub_nil)), (cv_ungrow 2 rfl).trans (cv_sel [0, 1, 2, 3, 4] 5 rfl rfl)⟩
  · rintro _ _ ⟨p7, p8, p9, p10, p11, A7, n7, c7, A8, n8, c8, A9, n9, c9, M10, h, rfl, rfl⟩
    refine G_seq ?_
    refine G_region ?_
    refine G_ev (ev_move rfl) rfl rfl rfl ?_
    refine G_ev (ev_nilCheck rfl) rfl rfl rfl ?_
    refine G_ev (ev_fa rfl fa_79_1) rfl rfl rfl ?_
    refine G_rd (rd_box1 4 rfl rfl one31 rfl) rfl rfl rfl ?_
    refine G_rd (rd_len 2 rfl els_own rfl Try.underlying31) rfl rfl rfl ?_
    refine G_ev (ev_move rfl) rfl rfl rfl ?_
    refine G_ev (ev_gt rfl rfl) rfl rfl rfl ?_
    refine G_ev (ev_assign rfl) rfl rfl rfl ?_
    refine G_nil ?_
    refine nx_n ?_
    refine G_ret ?_
    obtain rfl := Option.some.inj h
    exact endG1 rfl rfl (cv_sel [4, 0, 1, 2, 3] 5 rfl rfl) ⟨_, _, _, _, _, _, _, _, _, _, rfl, rfl⟩
/-! pantomime/reach.Order -/
def reach_Order_j11 (N : Nat) (p12 : (List DCell)) (p13 : (List DCell)) (p14 : (List Int)) (p15 : (List (Int × Unit))) (p16 : Int) : Option (List Int) :=
  some p14
def reach_Order_l17 (N : Nat) : Nat → (List DCell) → (List DCell) → (List Int) → (List (Int × Unit)) → Int → Option (List Int)
  | 0, _, _, _, _, _ => none
  | m17 + 1, p18, p19, p20, p21, p22 => (reach_row_pass_O N (⟨(⟨p18, p19⟩ : DMemory), p20, p21, p22⟩ : DRow)).bind fun y23 => bif y23.1 then ((reach_row_through_O N y23.2).bind fun y29 => (reach_Order_l17 N m17) y29.m_.Young y29.m_.Old y29.all_ y29.met_ y29.done_) else (reach_Order_j11 N y23.2.m_.Young y23.2.m_.Old y23.2.all_ y23.2.met_ y23.2.done_)
theorem reach_Order_l17_s {N m17 : Nat} {p18 : (List DCell)} {p19 : (List DCell)} {p20 : (List Int)} {p21 : (List (Int × Unit))} {p22 : Int} : reach_Order_l17 N (m17 + 1) p18 p19 p20 p21 p22 = (reach_row_pass_O N (⟨(⟨p18, p19⟩ : DMemory), p20, p21, p22⟩ : DRow)).bind fun y23 => bif y23.1 then ((reach_row_through_O N y23.2).bind fun y29 => (reach_Order_l17 N m17) y29.m_.Young y29.m_.Old y29.all_ y29.met_ y29.done_) else (reach_Order_j11 N y23.2.m_.Young y23.2.m_.Old y23.2.all_ y23.2.met_ y23.2.done_) := rfl
def reach_Order_O (N : Nat) (a0 : DMemory) (a1 : (List DValue)) : Option (List Int) :=
  (reach_begin_O N a0 a1).bind fun y5 => reach_Order_l17 N N y5.m_.Young y5.m_.Old y5.all_ y5.met_ y5.done_
theorem reach_Order_ok {N : Nat} {a0 : DMemory} {a1 : (List DValue)} {r : (List Int)} (h : reach_Order_O N a0 a1 = some r) {A1 : Option Addr} {n1 c1 : Nat} {A2 : Option Addr} {n2 c2 : Nat} {A3 : Option Addr} {n3 c3 : Nat} : Okc Try.prog 23 [.agg #[.slice A1 n1 c1, .slice A2 n2 c2], .slice A3 n3 c3] ([slC rDCell (.slice A1 n1 c1) a0.Young, slC rDCell (.slice A2 n2 c2) a0.Old, slC rDValue (.slice A3 n3 c3) a1]) (fun (u : Value) (post : List Chunk) => ∃ A0 n0 c0, u = .slice A0 n0 c0 ∧ post = [ownC (rInt .i64) 3 (.slice A0 n0 c0) r]) := by
  refine ok_E Try.func23 rfl rfl ?_
  simp only [envOf]
  refine G_seq ?_
  refine G_region ?_
  refine G_opd (op_box rfl rfl) rfl rfl rfl ?_
  rintro _ _ ⟨B4, rfl, rfl⟩
  refine G_ev (ev_assign rfl) rfl rfl rfl ?_
  refine G_nil ?_
  refine nx_n ?_
  refine G_seq ?_
  refine G_region ?_
  refine G_rd (rd_boxS (us := [.slice A1 n1 c1, .slice A2 n2 c2]) 0 rfl rfl agg24 rfl) rfl rfl rfl ?_
  refine G_ev (ev_move rfl) rfl rfl rfl ?_
  obtain ⟨y5, hy5, h⟩ := bind_elim h
  refine G_opd (op_call (reach_begin_ok hy5) call55 rfl (cv_take [1, 2, 3] [] [0, 1, 2, 3] 4 rfl)) rfl rfl rfl ?_
  rintro _ _ ⟨_, ⟨B6, A7, n7, c7, A8, n8, c8, A9, n9, c9, M10, rfl, rfl⟩, rfl⟩
  refine G_norm ([boxC B6 79 [.slice A7 n7 c7, .slice A8 n8 c8, .slice A9 n9 c9, .map (some M10), .int .i64 y5.done_], slC rDCell (.slice A7 n7 c7) y5.m_.Young, slC rDCell (.slice A8 n8 c8) y5.m_.Old, ownC (rInt .i64) 3 (.slice A9 n9 c9) y5.all_, mapC ekI evU M10 y5.met_, boxC B4 24 [.slice A1 n1 c1, .slice A2 n2 c2], slC rDCell (.slice A1 n1 c1) a0.Young, slC rDCell (.slice A2 n2 c2) a0.Old, slC rDValue (.slice A3 n3 c3) a1]) rfl ?_
  refine G_ev (ev_assign rfl) rfl rfl rfl ?_
  refine G_nil ?_
  refine nx_n ?_
  refine G_joinF (fun s L => ∃ (p12 : (List DCell)) (p13 : (List DCell)) (p14 : (List Int)) (p15 : (List (Int × Unit))) (p16 : Int) (A12 : Option Addr) (n12 c12 : Nat) (A13 : Option Addr) (n13 c13 : Nat) (A14 : Option Addr) (n14 c14 : Nat) (M15 : Nat), reach_Order_j11 N p12 p13 p14 p15 p16 = some r ∧ s = [(4, .slice none 0 0), (5, .pointer (some ⟨B6, 0, none⟩))] ∧ L = [slC rDCell (.slice A12 n12 c12) p12, slC rDCell (.slice A13 n13 c13) p13, ownC (rInt .i64) 3 (.slice A14 n14 c14) p14, mapC ekI evU M15 p15, boxC B6 79 [.slice A12 n12 c12, .slice A13 n13 c13, .slice A14 n14 c14, .map (some M15), .int .i64 p16]]) ?_ ?_
  · refine G_block ?_
    refine G_loopF (fun m s L => ∃ (p18 : (List DCell)) (p19 : (List DCell)) (p20 : (List Int)) (p21 : (List (Int × Unit))) (p22 : Int) (A18 : Option Addr) (n18 c18 : Nat) (A19 : Option Addr) (n19 c19 : Nat) (A20 : Option Addr) (n20 c20 : Nat) (M21 : Nat), reach_Order_l17 N m p18 p19 p20 p21 p22 = some r ∧ s = [(4, .slice none 0 0), (5, .pointer (some ⟨B6, 0, none⟩))] ∧ L = [slC rDCell (.slice A18 n18 c18) p18, slC rDCell (.slice A19 n19 c19) p19, ownC (rInt .i64) 3 (.slice A20 n20 c20) p20, mapC ekI evU M21 p21, boxC B6 79 [.slice A18 n18 c18, .slice A19 n19 c19, .slice A20 n20 c20, .map (some M21), .int .i64 p22]]) N _ _ ⟨y5.m_.Young, y5.m_.Old, y5.all_, y5.met_, y5.done_, A7, n7, c7, A8, n8, c8, A9, n9, c9, M10, h, rfl, rfl⟩ (sub_cons rfl (sub_cons rfl sub_nil)) (cv_sel [1, 2, 3, 4, 0] 9 rfl rfl) ?_
    rintro (_ | m17) _ _ ⟨p18, p19, p20, p21, p22, A18, n18, c18, A19, n19, c19, A20, n20, c20, M21, h, rfl, rfl⟩
    · exact none_some h
    rw [reach_Order_l17_s] at h
    refine G_seq ?_
    refine G_seq ?_
    refine G_region ?_
    refine G_ev (ev_move rfl) rfl rfl rfl ?_
    obtain ⟨y23, hy23, h⟩ := bind_elim h
    refine G_opd (op_call (reach_row_pass_ok hy23) call56 rfl (cv_take [0, 1] [4, 2, 3] [0, 1] 5 rfl)) rfl rfl rfl ?_
    rintro _ _ ⟨_, ⟨A24, n24, c24, A25, n25, c25, A26, n26, c26, M27, rfl, rfl⟩, rfl⟩
    refine G_norm ([boxC B6 79 [.slice A24 n24 c24, .slice A25 n25 c25, .slice A26 n26 c26, .map (some M27), .int .i64 y23.2.done_], slC rDCell (.slice A24 n24 c24) y23.2.m_.Young, slC rDCell (.slice A25 n25 c25) y23.2.m_.Old, ownC (rInt .i64) 3 (.slice A26 n26 c26) y23.2.all_, mapC ekI evU M27 y23.2.met_, slC rDCell (.slice A18 n18 c18) p18, slC rDCell (.slice A19 n19 c19) p19]) rfl ?_
    refine G_nil ?_
    refine nx_n ?_
    refine G_cond rfl (fun g28 => ?_) (fun g28 => ?_)
    · replace h := cond_t g28 h
      refine G_skip ?_
      refine nx_n ?_
      refine G_block ?_
      refine G_region ?_
      refine G_ev (ev_move rfl) rfl rfl rfl ?_
      obtain ⟨y29, hy29, h⟩ := bind_elim h
      refine G_opd (op_call (reach_row_through_ok hy29) call57 rfl (cv_take [1, 2] [0, 3, 4] [1, 2, 5, 6] 7 rfl)) rfl rfl rfl ?_
      rintro _ _ ⟨_, ⟨A30, n30, c30, A31, n31, c31, A32, n32, c32, M33, rfl, rfl⟩, rfl⟩
      refine G_norm ([boxC B6 79 [.slice A30 n30 c30, .slice A31 n31 c31, .slice A32 n32 c32, .map (some M33), .int .i64 y29.done_], slC rDCell (.slice A30 n30 c30) y29.m_.Young, slC rDCell (.slice A31 n31 c31) y29.m_.Old, ownC (rInt .i64) 3 (.slice A32 n32 c32) y29.all_, mapC ekI evU M33 y29.met_, slC rDCell (.slice A24 n24 c24) y23.2.m_.Young, slC rDCell (.slice A25 n25 c25) y23.2.m_.Old, slC rDCell (.slice A18 n18 c18) p18, slC rDCell (.slice A19 n19 c19) p19]) rfl ?_
      refine G_nil ?_
      refine bk_n ?_
      refine nx_n ?_
      exact ⟨m17, _, _, Nat.lt_succ_self _, ⟨y29.m_.Young, y29.m_.Old, y29.all_, y29.met_, y29.done_, A30, n30, c30, A31, n31, c31, A32, n32, c32, M33, h, rfl, rfl⟩, sub_cons rfl (sub_cons rfl sub_nil), cv_sel [1, 2, 3, 4, 0] 9 rfl rfl⟩
    · replace h := cond_f g28 h
      refine G_exit ?_
      refine nx_e ?_
      refine nx_e ?_
      refine bk_x ?_
      refine nx_n ?_
      exact ⟨_, _, ⟨y23.2.m_.Young, y23.2.m_.Old, y23.2.all_, y23.2.met_, y23.2.done_, A24, n24, c24, A25, n25, c25, A26, n26, c26, M27, h, rfl, rfl⟩, sub_cons rfl (sub_cons rfl sub_nil), cv_sel [1, 2, 3, 4, 0] 7 rfl rfl⟩
  · rintro _ _ ⟨p12, p13, p14, p15, p16, A12, n12, c12, A13, n13, c13, A14, n14, c14, M15, h, rfl, rfl⟩
    refine G_seq ?_
    refine G_region ?_
    refine G_ev (ev_move rfl) rfl rfl rfl ?_
    refine G_ev (ev_nilCheck rfl) rfl rfl rfl ?_
    refine G_ev (ev_fa rfl fa_79_1) rfl rfl rfl ?_
    refine G_rd (rd_box1 4 rfl rfl one31 rfl) rfl rfl rfl ?_
    refine G_ev (ev_assign rfl) rfl rfl rfl ?_
    refine G_nil ?_
    refine nx_n ?_
    refine G_ret ?_
    obtain rfl := Option.some.inj h
    exact endG1 rfl rfl (cv_sel [2] 5 rfl rfl) ⟨_, _, _, rfl, rfl⟩
theorem reach_Order_free {r : (List Int)} : ∀ v post, ((fun (u : Value) (post : List Chunk) => ∃ A0 n0 c0, u = .slice A0 n0 c0 ∧ post = [ownC (rInt .i64) 3 (.slice A0 n0 c0) r])) v post → ∀ c ∈ post, Free c := by
  rintro _ _ ⟨_, _, _, rfl, rfl⟩; exact mem_cons free_own (mem_nil)
/-! pantomime/pantomimeref19.Same -/
def pantomimeref19_Same_j4 (N : Nat) : Option Bool :=
  some true
def pantomimeref19_Same_l5 (N : Nat) (a0 : (List Int)) (a1 : (List Int)) : Nat → Int → Option Bool
  | 0, _ => none
  | m5 + 1, p6 => bif decide (p6 < (a0.length : Int)) then ((getE a0 p6).bind fun x8 => (getE a1 p6).bind fun x9 => bif !decide (x8 = x9) then (some false) else (req (in64 (p6 + 1)) ((pantomimeref19_Same_l5 N a0 a1 m5) (p6 + 1)))) else (pantomimeref19_Same_j4 N)
theorem pantomimeref19_Same_l5_s {N m5 : Nat} {a0 : (List Int)} {a1 : (List Int)} {p6 : Int} : pantomimeref19_Same_l5 N a0 a1 (m5 + 1) p6 = bif decide (p6 < (a0.length : Int)) then ((getE a0 p6).bind fun x8 => (getE a1 p6).bind fun x9 => bif !decide (x8 = x9) then (some false) else (req (in64 (p6 + 1)) ((pantomimeref19_Same_l5 N a0 a1 m5) (p6 + 1)))) else (pantomimeref19_Same_j4 N) := rfl
def pantomimeref19_Same_O (N : Nat) (a0 : (List Int)) (a1 : (List Int)) : Option Bool :=
  bif !decide ((a0.length : Int) = (a1.length : Int)) then (some false) else (pantomimeref19_Same_l5 N a0 a1 N 0)
theorem pantomimeref19_Same_ok {N : Nat} {a0 : (List Int)} {a1 : (List Int)} {r : Bool} (h : pantomimeref19_Same_O N a0 a1 = some r) {A1 : Option Addr} {n1 c1 : Nat} {A2 : Option Addr} {n2 c2 : Nat} : Okc Try.prog 25 [.slice A1 n1 c1, .slice A2 n2 c2] ([slC (rInt .i64) (.slice A1 n1 c1) a0, slC (rInt .i64) (.slice A2 n2 c2) a1]) (fun (u : Value) (post : List Chunk) => u = .bool r ∧ post = []) := by
  refine ok_E Try.func25 rfl rfl ?_
  simp only [envOf]
  refine G_seq ?_
  refine G_region ?_
  refine G_ev (ev_assign rfl) rfl rfl rfl ?_
  refine G_nil ?_
  refine nx_n ?_
  refine G_seq ?_
  refine G_seq ?_
  refine G_region ?_
  refine G_ev (ev_move rfl) rfl rfl rfl ?_
  refine G_rd (rd_len 0 rfl els_sl rfl Try.underlying31) rfl rfl rfl ?_
  refine G_ev (ev_move rfl) rfl rfl rfl ?_
  refine G_rd (rd_len 1 rfl els_sl rfl Try.underlying31) rfl rfl rfl ?_
  refine G_ev (ev_ne rfl rfl) rfl rfl rfl ?_
  refine G_nil ?_
  refine nx_n ?_
  refine G_cond rfl (fun g3 => ?_) (fun g3 => ?_)
  · replace h := cond_t g3 h
    refine G_seq ?_
    refine G_region ?_
    refine G_ev (ev_assign rfl) rfl rfl rfl ?_
    refine G_nil ?_
    refine nx_n ?_
    refine G_ret ?_
    refine nx_r ?_
    obtain rfl := Option.some.inj h
    exact endG1 rfl rfl (cv_sel [] 2 rfl rfl) ⟨rfl, rfl⟩
  · replace h := cond_f g3 h
    refine G_skip ?_
    refine nx_n ?_
    refine G_joinF (fun s L => pantomimeref19_Same_j4 N = some r ∧ s = [(4, .bool false)] ∧ L = []) ?_ ?_
    · refine G_seq ?_
      refine G_region ?_
      refine G_ev (ev_assign rfl) rfl rfl rfl ?_
      refine G_nil ?_
      refine nx_n ?_
      refine G_block ?_
      refine G_loopF (fun m s L => ∃ (p6 : Int), pantomimeref19_Same_l5 N a0 a1 m p6 = some r ∧ s = [(0, .slice A1 n1 c1), (1, .slice A2 n2 c2), (4, .bool false), (5, .int .i64 p6)] ∧ L = [slC (rInt .i64) (.slice A1 n1 c1) a0, slC (rInt .i64) (.slice A2 n2 c2) a1]) N _ _ ⟨0, h, rfl, rfl⟩ (sub_cons rfl (sub_cons rfl (sub_cons rfl (sub_cons rfl sub_nil)))) (cv_sel [0, 1] 2 rfl rfl) ?_
      rintro (_ | m5) _ _ ⟨p6, h, rfl, rfl⟩
      · exact none_some h
      rw [pantomimeref19_Same_l5_s] at h
      refine G_seq ?_
      refine G_seq ?_
      refine G_region ?_
      refine G_ev (ev_move rfl) rfl rfl rfl ?_
      refine G_ev (ev_move rfl) rfl rfl rfl ?_
      refine G_rd (rd_len 0 rfl els_sl rfl Try.underlying31) rfl rfl rfl ?_
      refine G_ev (ev_lt rfl rfl) rfl rfl rfl ?_
      refine G_nil ?_
      refine nx_n ?_
      refine G_cond rfl (fun g7 => ?_) (fun g7 => ?_)
      · replace h := cond_t g7 h
        refine G_skip ?_
        refine nx_n ?_
        refine G_seq ?_
        refine G_block ?_
        refine G_seq ?_
        refine G_drawn (by kernel_rfl) _ (cv_refl _) ?_
        refine T3_ev 0 rfl (by kernel_rfl) (ev_move rfl) rfl rfl ?_
        refine T3_ev 1 rfl (by kernel_rfl) (ev_move rfl) rfl rfl ?_
        obtain ⟨x8, hx8, h⟩ := bind_elim h
        obtain ⟨lx8, ux8, hx8⟩ := getE_elim hx8
        refine T3_rd 2 rfl (by kernel_rfl) (rd_idx 0 rfl els_sl rfl rfl Try.underlying31 size3 lx8 ux8) rfl rfl ?_
        refine T3_rd 3 rfl (by kernel_rfl) (rd_elem1 (u := .int .i64 x8) 0 rfl els_sl rfl hx8 one3 (fun _ _ _ h => by rw [show _ = _ from h]; rfl)) rfl rfl ?_
        refine T3_ev 4 rfl (by kernel_rfl) (ev_move rfl) rfl rfl ?_
        refine T3_ev 5 rfl (by kernel_rfl) (ev_move rfl) rfl rfl ?_
        obtain ⟨x9, hx9, h⟩ := bind_elim h
        obtain ⟨lx9, ux9, hx9⟩ := getE_elim hx9
        refine T3_rd 6 rfl (by kernel_rfl) (rd_idx 1 rfl els_sl rfl rfl Try.underlying31 size3 lx9 ux9) rfl rfl ?_
        refine T3_rd 7 rfl (by kernel_rfl) (rd_elem1 (u := .int .i64 x9) 1 rfl els_sl rfl hx9 one3 (fun _ _ _ h => by rw [show _ = _ from h]; rfl)) rfl rfl ?_
        refine T3_ev 8 rfl (by kernel_rfl) (ev_ne rfl rfl) rfl rfl ?_
        refine T3_done (by kernel_rfl) ?_
        refine nx_n ?_
        refine G_cond rfl (fun g10 => ?_) (fun g10 => ?_)
        · replace h := cond_t g10 h
          refine G_seq ?_
          refine G_region ?_
          refine G_ev (ev_assign rfl) rfl rfl rfl ?_
          refine G_nil ?_
          refine nx_n ?_
          refine G_ret ?_
          refine bk_r ?_
          refine nx_r ?_
          refine nx_r ?_
          refine bk_r ?_
          refine nx_r ?_
          obtain rfl := Option.some.inj h
          exact endG1 rfl rfl (cv_sel [] 2 rfl rfl) ⟨rfl, rfl⟩
        · replace h := cond_f g10 h
          refine G_skip ?_
          refine bk_n ?_
          refine nx_n ?_
          refine G_region ?_
          refine G_ev (ev_move rfl) rfl rfl rfl ?_
          obtain ⟨q11, h⟩ := req_elim h
          refine G_ev (ev_add rfl rfl q11.1 q11.2) rfl rfl rfl ?_
          refine G_ev (ev_assign rfl) rfl rfl rfl ?_
          refine G_nil ?_
          refine nx_n ?_
          exact ⟨m5, _, _, Nat.lt_succ_self _, ⟨p6 + 1, h, rfl, rfl⟩, sub_cons rfl (sub_cons rfl (sub_cons rfl (sub_cons rfl sub_nil))), cv_sel [0, 1] 2 rfl rfl⟩
      · replace h := cond_f g7 h
        refine G_exit ?_
        refine nx_e ?_
        refine nx_e ?_
        refine bk_x ?_
        refine nx_n ?_
        exact ⟨_, _, ⟨h, rfl, rfl⟩, sub_cons rfl sub_nil, cv_sel [] 2 rfl rfl⟩
    · rintro _ _ ⟨h, rfl, rfl⟩
      refine G_seq ?_
      refine G_region ?_
      refine G_ev (ev_assign rfl) rfl rfl rfl ?_
      refine G_nil ?_
      refine nx_n ?_
      refine G_ret ?_
      obtain rfl := Option.some.inj h
      exact endG1 rfl rfl (cv_sel [] 0 rfl rfl) ⟨rfl, rfl⟩
theorem pantomimeref19_Same_free {r : Bool} : ∀ v post, ((fun (u : Value) (post : List Chunk) => u = .bool r ∧ post = [])) v post → ∀ c ∈ post, Free c := by
  rintro _ _ ⟨rfl, rfl⟩; exact mem_nil
/-! cmp.isNaN[int] -/
def cmp_isNaN_O (N : Nat) (a0 : Int) : Option Bool :=
  some (!decide (a0 = a0))
theorem cmp_isNaN_ok {N : Nat} {a0 : Int} {r : Bool} (h : cmp_isNaN_O N a0 = some r) : Okc Try.prog 149 [.int .i64 a0] ([]) (fun (u : Value) (post : List Chunk) => u = .bool r ∧ post = []) := by
  refine ok_E Try.func149 rfl rfl ?_
  simp only [envOf]
  refine G_seq ?_
  refine G_region ?_
  refine G_ev (ev_assign rfl) rfl rfl rfl ?_
  refine G_nil ?_
  refine nx_n ?_
  refine G_seq ?_
  refine G_region ?_
  refine G_ev (ev_move rfl) rfl rfl rfl ?_
  refine G_ev (ev_move rfl) rfl rfl rfl ?_
  refine G_ev (ev_ne rfl rfl) rfl rfl rfl ?_
  refine G_ev (ev_assign rfl) rfl rfl rfl ?_
  refine G_nil ?_
  refine nx_n ?_
  refine G_ret ?_
  obtain rfl := Option.some.inj h
  exact endG1 rfl rfl (cv_sel [] 0 rfl rfl) ⟨rfl, rfl⟩
theorem cmp_isNaN_free {r : Bool} : ∀ v post, ((fun (u : Value) (post : List Chunk) => u = .bool r ∧ post = [])) v post → ∀ c ∈ post, Free c := by
  rintro _ _ ⟨rfl, rfl⟩; exact mem_nil
/-! cmp.Less[int] -/
def cmp_Less_O (N : Nat) (a0 : Int) (a1 : Int) : Option Bool :=
  (cmp_isNaN_O N a0).bind fun y1 => (bif y1 then ((cmp_isNaN_O N a1).bind fun y3 => some (!y3)) else (some false)).bind fun b2 => (bif b2 then (some true) else (some (decide (a0 < a1)))).bind fun b4 => some b4
theorem cmp_Less_ok {N : Nat} {a0 : Int} {a1 : Int} {r : Bool} (h : cmp_Less_O N a0 a1 = some r) : Okc Try.prog 129 [.int .i64 a0, .int .i64 a1] ([]) (fun (u : Value) (post : List Chunk) => u = .bool r ∧ post = []) := by
  refine ok_E Try.func129 rfl rfl ?_
  simp only [envOf]
  refine G_seq ?_
  refine G_region ?_
  refine G_ev (ev_assign rfl) rfl rfl rfl ?_
  refine G_nil ?_
  refine nx_n ?_
  refine G_seq ?_
  refine G_region ?_
  refine G_ev (ev_move rfl) rfl rfl rfl ?_
  obtain ⟨y1, hy1, h⟩ := bind_elim h
  refine G_opd (op_callR (cmp_isNaN_ok hy1) call149 rfl (mem_nil) cmp_isNaN_free) rfl rfl rfl ?_
  rintro _ _ ⟨_, ⟨rfl, rfl⟩, rfl⟩
  refine G_ev (ev_move rfl) rfl rfl rfl ?_
  obtain ⟨b2, hb2, h⟩ := bind_elim h
  refine G_segb 4 11 b2 ?_ ?_
  · clear h
    refine G_case 7 rfl (fun g2 => ?_) (fun g2 => ?_)
    · have h := cond_t g2 hb2
      refine G_ev (ev_move rfl) rfl (g_tt g2 rfl) rfl ?_
      obtain ⟨y3, hy3, h⟩ := bind_elim h
      refine G_opd (op_callR (cmp_isNaN_ok hy3) call149 rfl (mem_nil) cmp_isNaN_free) rfl (g_tt g2 rfl) rfl ?_
      rintro _ _ ⟨_, ⟨rfl, rfl⟩, rfl⟩
      refine G_ev (ev_not rfl) rfl (g_tt g2 rfl) rfl ?_
      refine G_ev (ev_pick_t' g2 rfl rfl) rfl rfl rfl ?_
      obtain rfl := Option.some.inj h
      exact G_joined (sub_cons rfl (sub_skip (sub_skip (sub_skip (sub_skip sub_refl rfl) rfl) rfl) rfl)) (cv_sel [] 0 rfl rfl)
    · have h := cond_f g2 hb2
      refine G_no (g_tf g2 rfl) rfl ?_
      refine G_no (g_tf g2 rfl) rfl ?_
      refine G_no (g_tf g2 rfl) rfl ?_
      refine G_ev (ev_pick_f' g2 rfl rfl) rfl rfl rfl ?_
      obtain rfl := Option.some.inj h
      exact G_joined (sub_cons rfl (sub_skip (sub_skip (sub_skip (sub_skip sub_refl rfl) rfl) rfl) rfl)) (cv_sel [] 0 rfl rfl)
  refine G_ev (ev_move rfl) rfl rfl rfl ?_
  obtain ⟨b4, hb4, h⟩ := bind_elim h
  refine G_segb 4 16 b4 ?_ ?_
  · clear h
    refine G_case 12 rfl (fun g4 => ?_) (fun g4 => ?_)
    · have h := cond_t g4 hb4
      refine G_no (g_ft g4 rfl) rfl ?_
      refine G_no (g_ft g4 rfl) rfl ?_
      refine G_no (g_ft g4 rfl) rfl ?_
      refine G_ev (ev_pick_t' g4 rfl rfl) rfl rfl rfl ?_
      obtain rfl := Option.some.inj h
      exact G_joined (sub_cons rfl (sub_skip (sub_skip (sub_skip (sub_skip sub_refl rfl) rfl) rfl) rfl)) (cv_sel [] 0 rfl rfl)
    · have h := cond_f g4 hb4
      refine G_ev (ev_move rfl) rfl (g_ff g4 rfl) rfl ?_
      refine G_ev (ev_move rfl) rfl (g_ff g4 rfl) rfl ?_
      refine G_ev (ev_lt rfl rfl) rfl (g_ff g4 rfl) rfl ?_
      refine G_ev (ev_pick_f' g4 rfl rfl) rfl rfl rfl ?_
      obtain rfl := Option.some.inj h
      exact G_joined (sub_cons rfl (sub_skip (sub_skip (sub_skip (sub_skip sub_refl rfl) rfl) rfl) rfl)) (cv_sel [] 0 rfl rfl)
  refine G_ev (ev_assign rfl) rfl rfl rfl ?_
  refine G_nil ?_
  refine nx_n ?_
  refine G_ret ?_
  obtain rfl := Option.some.inj h
  exact endG1 rfl rfl (cv_sel [] 0 rfl rfl) ⟨rfl, rfl⟩
theorem cmp_Less_free {r : Bool} : ∀ v post, ((fun (u : Value) (post : List Chunk) => u = .bool r ∧ post = [])) v post → ∀ c ∈ post, Free c := by
  rintro _ _ ⟨rfl, rfl⟩; exact mem_nil
/-! pantomime/reach.Live -/
def reach_Live_O (N : Nat) (a0 : DMemory) (a1 : (List DValue)) : Option (List Int) :=
  (reach_Order_O N a0 a1).bind fun y5 => (slices_Sort_O N y5).bind fun y7 => some y7
theorem reach_Live_ok {N : Nat} {a0 : DMemory} {a1 : (List DValue)} {r : (List Int)} (h : reach_Live_O N a0 a1 = some r) {A1 : Option Addr} {n1 c1 : Nat} {A2 : Option Addr} {n2 c2 : Nat} {A3 : Option Addr} {n3 c3 : Nat} : Okc Try.prog 16 [.agg #[.slice A1 n1 c1, .slice A2 n2 c2], .slice A3 n3 c3] ([slC rDCell (.slice A1 n1 c1) a0.Young, slC rDCell (.slice A2 n2 c2) a0.Old, slC rDValue (.slice A3 n3 c3) a1]) (fun (u : Value) (post : List Chunk) => ∃ A0 n0 c0, u = .slice A0 n0 c0 ∧ post = [ownC (rInt .i64) 3 (.slice A0 n0 c0) r]) := by
  refine ok_E Try.func16 rfl rfl ?_
  simp only [envOf]
  refine G_seq ?_
  refine G_region ?_
  refine G_opd (op_box rfl rfl) rfl rfl rfl ?_
  rintro _ _ ⟨B4, rfl, rfl⟩
  refine G_ev (ev_assign rfl) rfl rfl rfl ?_
  refine G_nil ?_
  refine nx_n ?_
  refine G_seq ?_
  refine G_region ?_
  refine G_rd (rd_boxS (us := [.slice A1 n1 c1, .slice A2 n2 c2]) 0 rfl rfl agg24 rfl) rfl rfl rfl ?_
  refine G_ev (ev_move rfl) rfl rfl rfl ?_
  obtain ⟨y5, hy5, h⟩ := bind_elim h
  refine G_opd (op_callR (reach_Order_ok hy5) call23 rfl (mem_cons (lent_ro (i := 1) rfl rfl) (mem_cons (lent_ro (i := 2) rfl rfl) (mem_cons (lent_ro (i := 3) rfl rfl) mem_nil))) reach_Order_free) rfl rfl rfl ?_
  rintro _ _ ⟨_, ⟨A6, n6, c6, rfl, rfl⟩, rfl⟩
  refine G_ev (ev_assign rfl) rfl rfl rfl ?_
  refine G_nil ?_
  refine nx_n ?_
  refine G_seq ?_
  refine G_region ?_
  refine G_ev (ev_move rfl) rfl rfl rfl ?_
  obtain ⟨y7, hy7, h⟩ := bind_elim h
  refine G_opd (op_call (slices_Sort_ok hy7) call48 rfl (cv_take [] [0] [1, 2, 3, 4] 5 rfl)) rfl rfl rfl ?_
  rintro _ _ ⟨_, ⟨rfl, rfl⟩, rfl⟩
  refine G_norm ([ownC (rInt .i64) 3 (.slice A6 n6 c6) y7, boxC B4 24 [.slice A1 n1 c1, .slice A2 n2 c2], slC rDCell (.slice A1 n1 c1) a0.Young, slC rDCell (.slice A2 n2 c2) a0.Old, slC rDValue (.slice A3 n3 c3) a1]) rfl ?_
  refine G_nil ?_
  refine nx_n ?_
  refine G_seq ?_
  refine G_region ?_
  refine G_ev (ev_move rfl) rfl rfl rfl ?_
  refine G_ev (ev_assign rfl) rfl rfl rfl ?_
  refine G_nil ?_
  refine nx_n ?_
  refine G_ret ?_
  obtain rfl := Option.some.inj h
  exact endG1 rfl rfl (cv_sel [0] 5 rfl rfl) ⟨_, _, _, rfl, rfl⟩
theorem reach_Live_free {r : (List Int)} : ∀ v post, ((fun (u : Value) (post : List Chunk) => ∃ A0 n0 c0, u = .slice A0 n0 c0 ∧ post = [ownC (rInt .i64) 3 (.slice A0 n0 c0) r])) v post → ∀ c ∈ post, Free c := by
  rintro _ _ ⟨_, _, _, rfl, rfl⟩; exact mem_cons free_own (mem_nil)
/-! slices.Values[[]int,int]$1 -/
def slices_Values_l3 (N : Nat) {σ : Type} (fy : Int → σ → Option (Bool × σ)) (a1 : (List Int)) : Nat → Int → σ → Option σ
  | 0, _, _ => none
  | m3 + 1, p4, p5 => bif decide (p4 < (a1.length : Int)) then ((getE a1 p4).bind fun x7 => (fy x7 p5).bind fun y8 => bif !y8.1 then (some y8.2) else (req (in64 (p4 + 1)) ((slices_Values_l3 N fy a1 m3) (p4 + 1) y8.2))) else (some p5)
theorem slices_Values_l3_s {N m3 : Nat} {σ : Type} {fy : Int → σ → Option (Bool × σ)} {a1 : (List Int)} {p4 : Int} {p5 : σ} : slices_Values_l3 N fy a1 (m3 + 1) p4 p5 = bif decide (p4 < (a1.length : Int)) then ((getE a1 p4).bind fun x7 => (fy x7 p5).bind fun y8 => bif !y8.1 then (some y8.2) else (req (in64 (p4 + 1)) ((slices_Values_l3 N fy a1 m3) (p4 + 1) y8.2))) else (some p5) := rfl
def slices_Values_O (N : Nat) {σ : Type} (a1 : (List Int)) (fy : Int → σ → Option (Bool × σ)) (s0 : σ) : Option σ :=
  slices_Values_l3 N fy a1 N 0 s0
theorem slices_Values_ok {N : Nat} {σ : Type} {a1 : (List Int)} {fy : Int → σ → Option (Bool × σ)} {s0 : σ} {r : σ} (h : slices_Values_O N a1 fy s0 = some r) {B1 : Nat} {A2 : Option Addr} {n2 c2 : Nat} {l : Nat} {G : σ → List Chunk} (hY : YieldOk Try.prog l G (fun x => [.int .i64 x]) fy) : Okc Try.prog 91 [.func (.yield l) #[] #[], .pointer (some ⟨B1, 0, none⟩)] (rboxC B1 31 [.slice A2 n2 c2] :: slC (rInt .i64) (.slice A2 n2 c2) a1 :: (G s0)) (fun (u : Value) (post : List Chunk) => u = .tuple #[] ∧ post = G r) := by
  refine ok_E Try.func91 rfl rfl ?_
  simp only [envOf]
  refine G_seq ?_
  refine G_region ?_
  refine G_rd (rd_rbox1 0 rfl rfl one31 rfl) rfl rfl rfl ?_
  refine G_rd (rd_len 1 rfl els_sl rfl Try.underlying31) rfl rfl rfl ?_
  refine G_ev (ev_move rfl) rfl rfl rfl ?_
  refine G_nil ?_
  refine nx_n ?_
  refine G_block ?_
  refine G_loopF (fun m s L => ∃ (p4 : Int) (p5 : σ), slices_Values_l3 N fy a1 m p4 p5 = some r ∧ s = [(0, .func (.yield l) #[] #[]), (5, .slice A2 n2 c2), (6, .int .i64 (a1.length : Int)), (7, .int .i64 p4)] ∧ L = slC (rInt .i64) (.slice A2 n2 c2) a1 :: (G p5)) N _ _ ⟨0, s0, h, rfl, rfl⟩ (sub_cons rfl (sub_cons rfl (sub_cons rfl (sub_cons rfl sub_nil)))) (cv_sel [1] 2 rfl rfl) ?_
  rintro (_ | m3) _ _ ⟨p4, p5, h, rfl, rfl⟩
  · exact none_some h
  rw [slices_Values_l3_s] at h
  refine G_seq ?_
  refine G_region ?_
  refine G_ev (ev_lt rfl rfl) rfl rfl rfl ?_
  refine G_nil ?_
  refine nx_n ?_
  refine G_seq ?_
  refine G_cond rfl (fun g6 => ?_) (fun g6 => ?_)
  · replace h := cond_t g6 h
    refine G_skip ?_
    refine nx_n ?_
    refine G_seq ?_
    refine G_block ?_
    refine G_seq ?_
    refine G_region ?_
    obtain ⟨x7, hx7, h⟩ := bind_elim h
    obtain ⟨lx7, ux7, hx7⟩ := getE_elim hx7
    refine G_rd (rd_idx 0 rfl els_sl rfl rfl Try.underlying31 size3 lx7 ux7) rfl rfl rfl ?_
    refine G_rd (rd_elem1 (u := .int .i64 x7) 0 rfl els_sl rfl hx7 one3 (fun _ _ _ h => by rw [show _ = _ from h]; rfl)) rfl rfl rfl ?_
    refine G_ev (ev_assign rfl) rfl rfl rfl ?_
    refine G_nil ?_
    refine nx_n ?_
    refine G_seq ?_
    refine G_region ?_
    refine G_ev (ev_move rfl) rfl rfl rfl ?_
    refine G_ev (ev_move rfl) rfl rfl rfl ?_
    obtain ⟨y8, hy8, h⟩ := bind_elim h
    refine G_opd (op_yieldE (a := x7) [slC (rInt .i64) (.slice A2 n2 c2) a1] hY hy8 rfl rfl) rfl rfl rfl ?_
    rintro _ _ ⟨rfl, rfl⟩
    refine G_norm (slC (rInt .i64) (.slice A2 n2 c2) a1 :: (G y8.2)) rfl ?_
    refine G_ev (ev_not rfl) rfl rfl rfl ?_
    refine G_nil ?_
    refine nx_n ?_
    refine G_cond rfl (fun g9 => ?_) (fun g9 => ?_)
    · replace h := cond_t g9 h
      refine G_ret ?_
      refine bk_r ?_
      refine nx_r ?_
      refine nx_r ?_
      refine bk_r ?_
      obtain rfl := Option.some.inj h
      exact endG0 rfl (cv_sel [] 1 rfl rfl) ⟨rfl, rfl⟩
    · replace h := cond_f g9 h
      refine G_skip ?_
      refine bk_n ?_
      refine nx_n ?_
      refine G_region ?_
      obtain ⟨q10, h⟩ := req_elim h
      refine G_ev (ev_add rfl rfl q10.1 q10.2) rfl rfl rfl ?_
      refine G_ev (ev_move rfl) rfl rfl rfl ?_
      refine G_nil ?_
      refine nx_n ?_
      exact ⟨m3, _, _, Nat.lt_succ_self _, ⟨p4 + 1, y8.2, h, rfl, rfl⟩, sub_cons rfl (sub_cons rfl (sub_cons rfl (sub_cons rfl sub_nil))), cv_sel [0] 1 rfl rfl⟩
  · replace h := cond_f g6 h
    refine G_exit ?_
    refine nx_e ?_
    refine nx_e ?_
    refine bk_x ?_
    obtain rfl := Option.some.inj h
    exact endG0n rfl (cv_sel [] 1 rfl rfl) ⟨rfl, rfl⟩
/-! slices.Values[[]int,int] -/
def slices_Values_54_O (N : Nat) (a0 : (List Int)) : Option Unit :=
  some ()
theorem slices_Values_54_ok {N : Nat} {a0 : (List Int)} {r : Unit} (h : slices_Values_54_O N a0 = some r) {A1 : Option Addr} {n1 c1 : Nat} : Okc Try.prog 54 [.slice A1 n1 c1] ([slC (rInt .i64) (.slice A1 n1 c1) a0]) (fun (u : Value) (post : List Chunk) => ∃ B900, u = .func (.func 91) #[] #[.pointer (some ⟨B900, 0, none⟩)] ∧ post = [boxC B900 31 [.slice A1 n1 c1]]) := by
  refine ok_E Try.func54 rfl rfl ?_
  simp only [envOf]
  refine G_seq ?_
  refine G_region ?_
  refine G_opd (op_box rfl rfl) rfl rfl rfl ?_
  rintro _ _ ⟨B2, rfl, rfl⟩
  refine G_ev (ev_assign rfl) rfl rfl rfl ?_
  refine G_nil ?_
  refine nx_n ?_
  refine G_seq ?_
  refine G_region ?_
  refine G_ev (ev_makeFunc rfl) rfl rfl rfl ?_
  refine G_ev (ev_assign rfl) rfl rfl rfl ?_
  refine G_nil ?_
  refine nx_n ?_
  refine G_ret ?_
  obtain rfl := Option.some.inj h
  exact endG1 rfl rfl (cv_sel [0] 2 rfl rfl) ⟨_, rfl, rfl⟩
theorem slices_Values_54_free {A1 : Option Addr} {n1 : Nat} {c1 : Nat} : ∀ v post, ((fun (u : Value) (post : List Chunk) => ∃ B900, u = .func (.func 91) #[] #[.pointer (some ⟨B900, 0, none⟩)] ∧ post = [boxC B900 31 [.slice A1 n1 c1]])) v post → ∀ c ∈ post, Free c := by
  rintro _ _ ⟨_, rfl, rfl⟩; exact mem_cons free_box (mem_nil)
/-! slices.AppendSeq[[]int,int] -/
def slices_AppendSeq_V_b5 (N : Nat) (x5 : Int) : ((List Int)) → Option (Option Exit × (List Int))
  | p6 => req (fitsL (p6.length + ([x5] : List Int).length)) (some (none, p6 ++ ([x5] : List Int)))
def slices_AppendSeq_V_O (N : Nat) (a0 : (List Int)) (a1_0 : (List Int)) : Option (List Int) :=
  (slices_Values_O N a1_0 (liftR (fun x st => slices_AppendSeq_V_b5 N x st)) (none, a0)).bind fun y7 => caseX y7.1 (some y7.2) none (fun _ => none)
theorem slices_AppendSeq_V_ok {N : Nat} {a0 : (List Int)} {a1_0 : (List Int)} {r : (List Int)} (h : slices_AppendSeq_V_O N a0 a1_0 = some r) {B2 : Nat} {A3 : Option Addr} {n3 c3 : Nat} {A1 : Option Addr} {n1 c1 : Nat} : Okc Try.prog 134 [.slice A1 n1 c1, .func (.func 91) #[] #[.pointer (some ⟨B2, 0, none⟩)]] ([rboxC B2 31 [.slice A3 n3 c3], slC (rInt .i64) (.slice A3 n3 c3) a1_0, ownC (rInt .i64) 3 (.slice A1 n1 c1) a0]) (fun (u : Value) (post : List Chunk) => ∃ A0 n0 c0, u = .slice A0 n0 c0 ∧ post = [ownC (rInt .i64) 3 (.slice A0 n0 c0) r]) := by
  refine ok_E Try.func134 rfl rfl ?_
  simp only [envOf]
  refine G_seq ?_
  refine G_region ?_
  refine G_opd (op_box rfl rfl) rfl rfl rfl ?_
  rintro _ _ ⟨B4, rfl, rfl⟩
  refine G_ev (ev_assign rfl) rfl rfl rfl ?_
  refine G_nil ?_
  refine nx_n ?_
  refine G_seq ?_
  refine G_seq ?_
  refine G_region ?_
  refine G_ev (ev_move rfl) rfl rfl rfl ?_
  refine G_nil ?_
  refine nx_n ?_
  obtain ⟨y7, hy7, h⟩ := bind_elim h
  refine G_rangeX (en := (fun x => [.int .i64 x])) (fun x st => slices_AppendSeq_V_b5 N x st) (fun (st : (List Int)) (mz : ((Option Addr × Nat × Nat))) => [ownC (rInt .i64) 3 (.slice mz.1 mz.2.1 mz.2.2) st, boxC B4 31 [.slice mz.1 mz.2.1 mz.2.2]]) [rboxC B2 31 [.slice A3 n3 c3], slC (rInt .i64) (.slice A3 n3 c3) a1_0] (a0) ((A1, n1, c1)) rfl rfl call91 rfl (fun _ => rfl) (fun l G hY => (slices_Values_ok hy7 hY).mono fun _ _ hh => hh.2) (cv_take [1, 2] [] [3, 0] 4 rfl) h ?_ ?_ ?_ ?_
  · rintro l x5 p6 je sr5 ⟨A6, n6, c6⟩ h
    replace h : slices_AppendSeq_V_b5 N x5 p6 = some (je, sr5) := h
    simp only [envR, List.zip_cons_cons, List.zip_nil_left, List.zip_nil_right, List.reverse_cons, List.reverse_nil, List.nil_append, List.cons_append]
    refine G_region ?_
    refine G_ev (ev_assign rfl) rfl rfl rfl ?_
    refine G_nil ?_
    refine nx_n ?_
    refine G_block ?_
    refine G_region ?_
    refine G_rd (rd_box1 1 rfl rfl one31 rfl) rfl rfl rfl ?_
    refine G_ev (ev_move rfl) rfl rfl rfl ?_
    refine G_opd (op_bslice (R := (rInt .i64)) (vss := [[.int .i64 x5]]) (xs := [x5]) rfl (bsl_31_1 _) rfl rfl (fun _ _ hr => .cons rfl All2.nil)) rfl rfl rfl ?_
    rintro _ _ ⟨A8, n8, c8, rfl, rfl⟩
    obtain ⟨q9, h⟩ := req_elim h
    refine G_opd (op_append 1 0 rfl rfl els_own rfl rfl Try.underlying31 zb3 rfl rfl q9) rfl rfl rfl ?_
    rintro _ _ ⟨A10, n10, c10, rfl, rfl⟩
    refine G_norm ([ownC (rInt .i64) 3 (.slice A8 n8 c8) ([x5] : List Int), ownC (rInt .i64) 3 (.slice A10 n10 c10) (p6 ++ ([x5] : List Int)), boxC B4 31 [.slice A6 n6 c6]]) rfl ?_
    refine G_opn (op_store (us := [.slice A10 n10 c10]) (cs' := [.slice A10 n10 c10]) 2 rfl rfl rfl rfl size31 rfl rfl rfl) rfl rfl ?_
    rintro _ _ rfl
    refine G_norm ([ownC (rInt .i64) 3 (.slice A8 n8 c8) ([x5] : List Int), ownC (rInt .i64) 3 (.slice A10 n10 c10) (p6 ++ ([x5] : List Int)), boxC B4 31 [.slice A10 n10 c10]]) rfl ?_
    refine G_nil ?_
    refine bk_n ?_
    obtain ⟨rfl, rfl⟩ := Prod.mk.inj (Option.some.inj h)
    exact RK_n ((cv_sel [1, 2] 3 rfl rfl).trans (cv_pack1 (A10, n10, c10) rfl))
  · rintro ⟨A6, n6, c6⟩ h
    refine K3_norm ([ownC (rInt .i64) 3 (.slice A6 n6 c6) y7.2, boxC B4 31 [.slice A6 n6 c6]]) rfl ?_
    refine bk_n ?_
    refine nx_n ?_
    refine G_seq ?_
    refine G_region ?_
    refine G_rd (rd_box1 1 rfl rfl one31 rfl) rfl rfl rfl ?_
    refine G_ev (ev_assign rfl) rfl rfl rfl ?_
    refine G_nil ?_
    refine nx_n ?_
    refine G_ret ?_
    obtain rfl := Option.some.inj h
    exact endG1 rfl rfl (cv_sel [0] 2 rfl rfl) ⟨_, _, _, rfl, rfl⟩
  · rintro ⟨A6, n6, c6⟩ h
    exact none_some h
  · rintro i ⟨A6, n6, c6⟩ h
    exact none_some h
theorem slices_AppendSeq_V_free {r : (List Int)} : ∀ v post, ((fun (u : Value) (post : List Chunk) => ∃ A0 n0 c0, u = .slice A0 n0 c0 ∧ post = [ownC (rInt .i64) 3 (.slice A0 n0 c0) r])) v post → ∀ c ∈ post, Free c := by
  rintro _ _ ⟨_, _, _, rfl, rfl⟩; exact mem_cons free_own (mem_nil)
/-! slices.Collect[int] -/
def slices_Collect_V_O (N : Nat) (a0_0 : (List Int)) : Option (List Int) :=
  (slices_AppendSeq_V_O N ([] : List Int) a0_0).bind fun y4 => some y4
theorem slices_Collect_V_ok {N : Nat} {a0_0 : (List Int)} {r : (List Int)} (h : slices_Collect_V_O N a0_0 = some r) {B1 : Nat} {A2 : Option Addr} {n2 c2 : Nat} : Okc Try.prog 90 [.func (.func 91) #[] #[.pointer (some ⟨B1, 0, none⟩)]] ([rboxC B1 31 [.slice A2 n2 c2], slC (rInt .i64) (.slice A2 n2 c2) a0_0]) (fun (u : Value) (post : List Chunk) => ∃ A0 n0 c0, u = .slice A0 n0 c0 ∧ post = [ownC (rInt .i64) 3 (.slice A0 n0 c0) r]) := by
  refine ok_E Try.func90 rfl rfl ?_
  simp only [envOf]
  refine G_seq ?_
  refine G_region ?_
  refine G_ev (ev_assign rfl) rfl rfl rfl ?_
  refine G_nil ?_
  refine nx_n ?_
  refine G_seq ?_
  refine G_region ?_
  refine G_ev (ev_move rfl) rfl rfl rfl ?_
  refine G_cv (cv_nil (rInt .i64) 3 _) ?_
  obtain ⟨y4, hy4, h⟩ := bind_elim h
  refine G_opd (op_call (slices_AppendSeq_V_ok hy4) call134 rfl (cv_take [1, 2] [0] [1, 2] 3 rfl)) rfl rfl rfl ?_
  rintro _ _ ⟨_, ⟨A5, n5, c5, rfl, rfl⟩, rfl⟩
  refine G_norm ([ownC (rInt .i64) 3 (.slice A5 n5 c5) y4, rboxC B1 31 [.slice A2 n2 c2], slC (rInt .i64) (.slice A2 n2 c2) a0_0]) rfl ?_
  refine G_ev (ev_assign rfl) rfl rfl rfl ?_
  refine G_nil ?_
  refine nx_n ?_
  refine G_ret ?_
  obtain rfl := Option.some.inj h
  exact endG1 rfl rfl (cv_sel [0] 3 rfl rfl) ⟨_, _, _, rfl, rfl⟩
theorem slices_Collect_V_free {r : (List Int)} : ∀ v post, ((fun (u : Value) (post : List Chunk) => ∃ A0 n0 c0, u = .slice A0 n0 c0 ∧ post = [ownC (rInt .i64) 3 (.slice A0 n0 c0) r])) v post → ∀ c ∈ post, Free c := by
  rintro _ _ ⟨_, _, _, rfl, rfl⟩; exact mem_cons free_own (mem_nil)
/-! slices.Sorted[int] -/
def slices_Sorted_V_O (N : Nat) (a0_0 : (List Int)) : Option (List Int) :=
  (slices_Collect_V_O N a0_0).bind fun y3 => (slices_Sort_O N y3).bind fun y5 => some y5
theorem slices_Sorted_V_ok {N : Nat} {a0_0 : (List Int)} {r : (List Int)} (h : slices_Sorted_V_O N a0_0 = some r) {B1 : Nat} {A2 : Option Addr} {n2 c2 : Nat} : Okc Try.prog 53 [.func (.func 91) #[] #[.pointer (some ⟨B1, 0, none⟩)]] ([rboxC B1 31 [.slice A2 n2 c2], slC (rInt .i64) (.slice A2 n2 c2) a0_0]) (fun (u : Value) (post : List Chunk) => ∃ A0 n0 c0, u = .slice A0 n0 c0 ∧ post = [ownC (rInt .i64) 3 (.slice A0 n0 c0) r]) := by
  refine ok_E Try.func53 rfl rfl ?_
  simp only [envOf]
  refine G_seq ?_
  refine G_region ?_
  refine G_ev (ev_assign rfl) rfl rfl rfl ?_
  refine G_nil ?_
  refine nx_n ?_
  refine G_seq ?_
  refine G_region ?_
  refine G_ev (ev_move rfl) rfl rfl rfl ?_
  obtain ⟨y3, hy3, h⟩ := bind_elim h
  refine G_opd (op_callR (slices_Collect_V_ok hy3) call90 rfl (mem_cons (lent_ro (i := 0) rfl rfl) (mem_cons (lent_ro (i := 1) rfl rfl) mem_nil)) slices_Collect_V_free) rfl rfl rfl ?_
  rintro _ _ ⟨_, ⟨A4, n4, c4, rfl, rfl⟩, rfl⟩
  refine G_ev (ev_assign rfl) rfl rfl rfl ?_
  refine G_nil ?_
  refine nx_n ?_
  refine G_seq ?_
  refine G_region ?_
  refine G_ev (ev_move rfl) rfl rfl rfl ?_
  obtain ⟨y5, hy5, h⟩ := bind_elim h
  refine G_opd (op_call (slices_Sort_ok hy5) call48 rfl (cv_take [] [0] [1, 2] 3 rfl)) rfl rfl rfl ?_
  rintro _ _ ⟨_, ⟨rfl, rfl⟩, rfl⟩
  refine G_norm ([ownC (rInt .i64) 3 (.slice A4 n4 c4) y5, rboxC B1 31 [.slice A2 n2 c2], slC (rInt .i64) (.slice A2 n2 c2) a0_0]) rfl ?_
  refine G_nil ?_
  refine nx_n ?_
  refine G_seq ?_
  refine G_region ?_
  refine G_ev (ev_move rfl) rfl rfl rfl ?_
  refine G_ev (ev_assign rfl) rfl rfl rfl ?_
  refine G_nil ?_
  refine nx_n ?_
  refine G_ret ?_
  obtain rfl := Option.some.inj h
  exact endG1 rfl rfl (cv_sel [0] 3 rfl rfl) ⟨_, _, _, rfl, rfl⟩
theorem slices_Sorted_V_free {r : (List Int)} : ∀ v post, ((fun (u : Value) (post : List Chunk) => ∃ A0 n0 c0, u = .slice A0 n0 c0 ∧ post = [ownC (rInt .i64) 3 (.slice A0 n0 c0) r])) v post → ∀ c ∈ post, Free c := by
  rintro _ _ ⟨_, _, _, rfl, rfl⟩; exact mem_cons free_own (mem_nil)
/-! pantomime/reach.Strong -/
def reach_Strong_O (N : Nat) (a0 : DMemory) (a1 : (List DValue)) : Option (List Int) :=
  (reach_begin_O N a0 a1).bind fun y5 => (slices_Values_54_O N y5.all_).bind fun y11 => (slices_Sorted_V_O N y5.all_).bind fun y13 => some y13
theorem reach_Strong_ok {N : Nat} {a0 : DMemory} {a1 : (List DValue)} {r : (List Int)} (h : reach_Strong_O N a0 a1 = some r) {A1 : Option Addr} {n1 c1 : Nat} {A2 : Option Addr} {n2 c2 : Nat} {A3 : Option Addr} {n3 c3 : Nat} : Okc Try.prog 22 [.agg #[.slice A1 n1 c1, .slice A2 n2 c2], .slice A3 n3 c3] ([slC rDCell (.slice A1 n1 c1) a0.Young, slC rDCell (.slice A2 n2 c2) a0.Old, slC rDValue (.slice A3 n3 c3) a1]) (fun (u : Value) (post : List Chunk) => ∃ A0 n0 c0, u = .slice A0 n0 c0 ∧ post = [ownC (rInt .i64) 3 (.slice A0 n0 c0) r]) := by
  refine ok_E Try.func22 rfl rfl ?_
  simp only [envOf]
  refine G_seq ?_
  refine G_region ?_
  refine G_opd (op_box rfl rfl) rfl rfl rfl ?_
  rintro _ _ ⟨B4, rfl, rfl⟩
  refine G_ev (ev_assign rfl) rfl rfl rfl ?_
  refine G_nil ?_
  refine nx_n ?_
  refine G_seq ?_
  refine G_region ?_
  refine G_rd (rd_boxS (us := [.slice A1 n1 c1, .slice A2 n2 c2]) 0 rfl rfl agg24 rfl) rfl rfl rfl ?_
  refine G_ev (ev_move rfl) rfl rfl rfl ?_
  obtain ⟨y5, hy5, h⟩ := bind_elim h
  refine G_opd (op_call (reach_begin_ok hy5) call55 rfl (cv_take [1, 2, 3] [] [0, 1, 2, 3] 4 rfl)) rfl rfl rfl ?_
  rintro _ _ ⟨_, ⟨B6, A7, n7, c7, A8, n8, c8, A9, n9, c9, M10, rfl, rfl⟩, rfl⟩
  refine G_norm ([boxC B6 79 [.slice A7 n7 c7, .slice A8 n8 c8, .slice A9 n9 c9, .map (some M10), .int .i64 y5.done_], slC rDCell (.slice A7 n7 c7) y5.m_.Young, slC rDCell (.slice A8 n8 c8) y5.m_.Old, ownC (rInt .i64) 3 (.slice A9 n9 c9) y5.all_, mapC ekI evU M10 y5.met_, boxC B4 24 [.slice A1 n1 c1, .slice A2 n2 c2], slC rDCell (.slice A1 n1 c1) a0.Young, slC rDCell (.slice A2 n2 c2) a0.Old, slC rDValue (.slice A3 n3 c3) a1]) rfl ?_
  refine G_ev (ev_nilCheck rfl) rfl rfl rfl ?_
  refine G_ev (ev_fa rfl fa_79_1) rfl rfl rfl ?_
  refine G_rd (rd_box1 0 rfl rfl one31 rfl) rfl rfl rfl ?_
  obtain ⟨y11, hy11, h⟩ := bind_elim h
  refine G_opd (op_callR (slices_Values_54_ok hy11) call54 rfl (mem_cons (lent_own (i := 3) rfl) mem_nil) slices_Values_54_free) rfl rfl rfl ?_
  rintro _ _ ⟨_, ⟨B12, rfl, rfl⟩, rfl⟩
  obtain ⟨y13, hy13, h⟩ := bind_elim h
  refine G_opd (op_callR (slices_Sorted_V_ok hy13) call53 rfl (mem_cons (lent_box (i := 0) rfl) (mem_cons (lent_own (i := 4) rfl) mem_nil)) slices_Sorted_V_free) rfl rfl rfl ?_
  rintro _ _ ⟨_, ⟨A14, n14, c14, rfl, rfl⟩, rfl⟩
  refine G_ev (ev_assign rfl) rfl rfl rfl ?_
  refine G_nil ?_
  refine nx_n ?_
  refine G_ret ?_
  obtain rfl := Option.some.inj h
  exact endG1 rfl rfl (cv_sel [0] 11 rfl rfl) ⟨_, _, _, rfl, rfl⟩
theorem reach_Strong_free {r : (List Int)} : ∀ v post, ((fun (u : Value) (post : List Chunk) => ∃ A0 n0 c0, u = .slice A0 n0 c0 ∧ post = [ownC (rInt .i64) 3 (.slice A0 n0 c0) r])) v post → ∀ c ∈ post, Free c := by
  rintro _ _ ⟨_, _, _, rfl, rfl⟩; exact mem_cons free_own (mem_nil)
end Go.Proofs.Ytmbaennilhdieaa
