/- Shapes: row and what follows (walks printed by shape5.py). -/
import Derived.Test.YtmiecljgcbfklaaShape4
namespace Go.Proofs.Ytmiecljgcbfklaa
open Go.RowKit
def zeroS : ShD := ⟨0, ⟨0, 0, ⟨#[]⟩⟩, 0, 0⟩
theorem set_last (k : Nat) (x : ShD) (r : List ShD) (h : 0 < k) : (List.replicate k zeroS ++ r).set ((k : Int) - 1).toNat x = List.replicate (k - 1) zeroS ++ x :: r := by
  rw [show ((k : Int) - 1).toNat = k - 1 by omega]
  obtain ⟨n, rfl⟩ : ∃ n, k = n + 1 := ⟨k - 1, by omega⟩
  simp only [Nat.add_sub_cancel, List.replicate_succ', List.append_assoc, List.singleton_append]
  rw [List.set_append_right _ _ (by simp)]
  simp
theorem row_in {p b m : Nat} {T : List ShD} (i0 : Nat) (x0 : ShD) (w : World) (hT : Tab w p b m T) (hw : WF T) (h0 : T[i0]? = some x0) : Calls Try.prog 22 #[.pointer (some ⟨p, 0, none⟩), .int .i64 i0] w fun e w' => ∃ g, e = .returned (.slice (some ⟨g, 0, none⟩) (rowL T i0).length (rowL T i0).length) ∧ w.heap.size ≤ g ∧ Rw w' g 37 enS (rowL T i0) ∧ Ext w w' := by
  obtain ⟨cap, hc1, hc2, hP⟩ := hT.row
  have hlt0 : i0 < T.length := (List.getElem?_eq_some_iff.1 h0).1
  have hl0 := hw.len i0 x0 h0
  have hr0 := row_len hw i0 x0 h0
  have hs := hw.size
  refine calls_E Try.func22 rfl rfl ?_
  simp only [envOf]
  refine W_seq ?_
  refine W_region ?_
  refine R_ev (ev_assign rfl) rfl rfl ?_
  refine R_nil ?_
  refine nxt_n ?_
  refine W_seq ?_
  refine W_region ?_
  refine R_ev (ev_move rfl) rfl rfl ?_
  refine R_ev (ev_move rfl) rfl rfl ?_
  refine R_call call11 rfl rfl rfl ?_
  refine (len_in _ _ _ hT h0).mono ?_
  rintro e w1_2 ⟨rfl, x1_2⟩
  refine ⟨_, rfl, ?_⟩
  rw [← hr0]
  refine A_make (l := (rowL T i0).length) (sz := 6) rfl rfl Try.underlying35 rfl rfl rfl (by show 56 * _ ≤ _; omega) (by omega) rfl rfl (fun w1_3 x1_3 b1_3 => ?_)
  replace b1_3 : Rw w1_3 w1_2.heap.size 37 enS (List.replicate ((rowL T i0).length) zeroS) := by have h := made_rows (en := enS) zeroS (z := (enS zeroS).toArray) rfl ((rowL T i0).length) (by decide); unfold Rw; rw [← h]; exact b1_3
  refine R_ev (ev_assign rfl) rfl rfl ?_
  refine R_nil ?_
  refine nxt_n ?_
  refine W_seq ?_
  refine W_seq ?_
  refine W_region ?_
  refine R_ev (ev_move rfl) rfl rfl ?_
  refine R_ev (ev_len rfl Try.underlying35) rfl rfl ?_
  refine R_ev (ev_sub rfl rfl (by omega) (by omega)) rfl rfl ?_
  refine R_ev (ev_assign rfl) rfl rfl ?_
  refine R_nil ?_
  refine nxt_n ?_
  refine W_block ?_
  have e0_2_1 : Ext w w1_3 := x1_2.trans x1_3
  refine W_loop (ι := Nat × Nat × List ShD) (fun z => [(0, .pointer (some ⟨p, 0, none⟩)), (1, .int .i64 (z.1 : Int)), (5, .slice (some ⟨w1_2.heap.size, 0, none⟩) ((rowL T i0).length) ((rowL T i0).length)), (6, .int .i64 ((z.2.1 : Int) - 1))]) (fun z => fun w' => Ext w w' ∧ (∃ x, T[z.1]? = some x ∧ x.len = (z.2.1 : Int)) ∧ (rowL T z.1 ++ z.2.2 = rowL T i0) ∧ (Rw w' w1_2.heap.size 37 enS (List.replicate z.2.1 zeroS ++ z.2.2))) (fun z => z.2.1) (i0, (rowL T i0).length, []) (sub_cons rfl (sub_cons rfl (sub_cons rfl (sub_cons rfl sub_nil)))) ?_ ?_
  · exact ⟨e0_2_1, ⟨x0, h0, hr0.symm⟩, List.append_nil _, (by rw [List.append_nil]; exact b1_3)⟩
  rintro ⟨i, k, r⟩ wl0 ⟨hl0, hx, hq, hB⟩
  try dsimp only
  obtain ⟨x, hx, hk⟩ := hx
  dsimp only at hx hk hq hB
  have hlen : (rowL T i).length + r.length = (rowL T i0).length := by rw [← List.length_append, hq]
  have hri := row_len hw i x hx
  have hlt : i < T.length := (List.getElem?_eq_some_iff.1 hx).1
  refine W_seq ?_
  refine W_seq ?_
  refine W_region ?_
  refine R_ev (ev_move rfl) rfl rfl ?_
  refine R_ev (ev_ge rfl rfl) rfl rfl ?_
  refine R_nil ?_
  refine nxt_n ?_
  refine W_cond rfl (fun c0 => ?_) (fun c0 => ?_)
  · first | replace c0 := of_decide_eq_true c0 | replace c0 := of_decide_eq_false c0 | replace c0 := nd_true c0 | replace c0 := nd_false c0 | replace c0 := nb_true c0 | replace c0 := nb_false c0 | skip
    have hpos : 0 < i := by rcases Nat.eq_zero_or_pos i with rfl | h; (rw [hw.head] at hx; cases hx; simp only [root] at hk; omega); exact h
    obtain ⟨u, y, hu, hlu, hy, hly⟩ := hw.up i x hx hpos
    refine W_skip ?_
    refine nxt_n ?_
    refine W_seq ?_
    refine W_block ?_
    refine W_seq ?_
    refine W_region ?_
    refine R_ev (ev_move rfl) rfl rfl ?_
    refine R_ev (ev_move rfl) rfl rfl ?_
    refine R_ev (ev_move rfl) rfl rfl ?_
    refine R_ev (ev_nilCheck rfl) rfl rfl ?_
    refine R_ev (ev_fa0 rfl fa_54_0) rfl rfl ?_
    refine R_ev (ev_load1 rfl one35 (here ((hP.ext hl0).at rfl))) rfl rfl ?_
    refine R_ev (ev_move rfl) rfl rfl ?_
    refine R_ev (ev_idx rfl rfl Try.underlying35 size37 (by omega) (by omega)) rfl rfl ?_
    refine R_ev (ev_loadS rfl (here ((hT.ext hl0).get hx)) agg37) rfl rfl ?_
    refine R_ev (ev_idx rfl rfl Try.underlying35 size37 (by omega) (by omega)) rfl rfl ?_
    refine A_storeElem (c := x) rfl rfl hB enS_len size37 (by simp; omega) rfl rfl (fun w5_10 x5_10 b5_10 => ?_)
    replace b5_10 : Rw w5_10 w1_2.heap.size 37 enS (List.replicate (k - 1) zeroS ++ x :: r) := by rw [show (List.replicate k zeroS ++ r).set ((k : Int) - 1).toNat x = List.replicate (k - 1) zeroS ++ x :: r from set_last k x r (by omega)] at b5_10; exact b5_10
    refine R_nil ?_
    refine nxt_n ?_
    refine W_region ?_
    refine R_ev (ev_move rfl) rfl rfl ?_
    refine R_ev (ev_move rfl) rfl rfl ?_
    refine R_ev (ev_idx rfl rfl Try.underlying35 size37 (by omega) (by omega)) rfl rfl ?_
    refine R_ev (ev_fa0 rfl fa_37_0) rfl rfl ?_
    refine R_ev (ev_load1 rfl one3 (here ((b5_10.at enS_len (show (List.replicate (k - 1) zeroS ++ x :: r)[((k : Int) - 1).toNat]? = some x by rw [show ((k : Int) - 1).toNat = k - 1 by omega, List.getElem?_append_right (by simp)]; simp)) 0 _ rfl))) rfl rfl ?_
    refine R_ev (ev_assign rfl) rfl rfl ?_
    refine R_nil ?_
    refine blk_n ?_
    refine nxt_n ?_
    refine W_region ?_
    refine R_ev (ev_move rfl) rfl rfl ?_
    refine R_ev (ev_sub rfl rfl (by omega) (by omega)) rfl rfl ?_
    refine R_ev (ev_assign rfl) rfl rfl ?_
    refine R_nil ?_
    refine nxt_n ?_
    have e0_2_2 : Ext w w5_10 := x5_10.ext hl0 (fun q e => e ▸ x1_2.size)
    exact ⟨(u, k - 1, x :: r), sub_cons rfl (sub_cons (congrArg (fun z => some (Value.int .i64 z)) hu) (sub_cons rfl (sub_cons (congrArg (fun z => some (Value.int .i64 z)) (by dsimp only; omega)) sub_nil))), ⟨e0_2_2, ⟨y, hy, by simp only; omega⟩, (by simp only; rw [← hq, row_up hx (by omega) hu hlu, List.append_assoc]; rfl), b5_10⟩, by simp only; omega⟩
  · first | replace c0 := of_decide_eq_true c0 | replace c0 := of_decide_eq_false c0 | replace c0 := nd_true c0 | replace c0 := nd_false c0 | replace c0 := nb_true c0 | replace c0 := nb_false c0 | skip
    have hk0 : k = 0 := by omega
    subst hk0
    refine W_exit ?_
    refine nxt_e ?_
    refine nxt_e ?_
    refine blk_x ?_
    refine nxt_n ?_
    refine W_seq ?_
    refine W_region ?_
    refine R_ev (ev_move rfl) rfl rfl ?_
    refine R_ev (ev_assign rfl) rfl rfl ?_
    refine R_nil ?_
    refine nxt_n ?_
    refine W_ret ?_
    simp only [List.replicate_zero, List.nil_append] at hB
    have hri0 : rowL T i = [] := List.eq_nil_of_length_eq_zero (by omega)
    rw [hri0, List.nil_append] at hq
    exact end1 rfl rfl ⟨_, rfl, by have := x1_2.size; omega, hq ▸ hB, hl0⟩
end Go.Proofs.Ytmiecljgcbfklaa

