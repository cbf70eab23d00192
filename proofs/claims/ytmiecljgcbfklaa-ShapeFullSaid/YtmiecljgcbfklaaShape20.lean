/- Shapes: the law of a full shape (walk printed by shape20.py). -/
import Derived.Test.YtmiecljgcbfklaaShape19
namespace Go.Proofs.Ytmiecljgcbfklaa
open Go.RowKit
theorem modN (a : Int) (n : Nat) (hn : 0 < n) : ∃ q : Nat, (IntKind.u64.wrap a).tmod (n : Int) = (q : Int) ∧ q < n := by
  have h0 : 0 ≤ IntKind.u64.wrap a := by simp [IntKind.wrap, IntKind.bits, IntKind.signed]; exact Int.emod_nonneg _ (by decide)
  have h1 : (IntKind.u64.wrap a).tmod (n : Int) = IntKind.u64.wrap a % (n : Int) := Int.tmod_eq_emod_of_nonneg h0
  have h2 := Int.emod_nonneg (IntKind.u64.wrap a) (show (n : Int) ≠ 0 by omega)
  have h3 := Int.emod_lt_of_pos (IntKind.u64.wrap a) (show 0 < (n : Int) by omega)
  exact ⟨(IntKind.u64.wrap a % (n : Int)).toNat, by rw [h1]; omega, by omega⟩
theorem may_even (q : Nat) (h : q < 4) : mayB ((q : Int) * 2) = true := by
  match q, h with
  | 0, _ => decide
  | 1, _ => decide
  | 2, _ => decide
  | 3, _ => decide
theorem may_odd (q : Nat) (h : q < 4) : mayB ((q : Int) * 2 + 1) = true := by
  match q, h with
  | 0, _ => decide
  | 1, _ => decide
  | 2, _ => decide
  | 3, _ => decide
section
variable {P : Program} {s : Env} {C : World → Prop} {d : Option Nat} {ty : TypeId} {pos : String} {af : Array Edge} {gd : Option (Nat × Bool)}
theorem ev_convU {t u : TypeId} {k k' : IntKind} {x : Operand} {z : Int} (hx : evE s x = some (.int k z)) (ht : (P.underlying t).isSome = true) (hu : P.underlying u = some (.int k')) : Ev P s C ⟨d, .convert t u x, ty, pos, af, gd⟩ (.int k' (k'.wrap z)) := fun ρ hρ w _ => by
  obtain ⟨q, hq⟩ := Option.isSome_iff_exists.1 ht
  unfold execOp
  simp only [hρ x _ hx, convert, Sem.run_bind, run_underlying hq, run_underlying hu, Result.andThen_ok]
  cases q <;> simp [Conv.intToInt]
theorem ev_eq_t {t u : TypeId} {x y : Operand} {k : IntKind} {a b : Int} (hx : evE s x = some (.int k a)) (hy : evE s y = some (.int k b)) (h : a = b) : Ev P s C ⟨d, .binOp .eql t x y u, ty, pos, af, gd⟩ (.bool true) := by
  have := ev_eq (P := P) (C := C) (d := d) (ty := ty) (pos := pos) (af := af) (gd := gd) (t := t) (u := u) hx hy
  rwa [decide_eq_true h] at this
theorem ev_remU {t u : TypeId} {x y : Operand} {a b : Int} (hx : evE s x = some (.int .u64 a)) (hy : evE s y = some (.int .u64 b)) (h : b ≠ 0) : Ev P s C ⟨d, .binOp .rem t x y u, ty, pos, af, gd⟩ (.int .u64 (a.tmod b)) :=
  ev_bin hx hy fun w => (by show (Op.intDiv .rem .u64 a b).run P w = _; unfold Op.intDiv; rw [if_neg h]; rfl)
end
theorem full_law (a0 c0 : Int) (w : World) : Calls Try.prog 4 #[.int .i64 a0, .int .i64 c0] w fun e w' => e = .returned (.bool true) ∧ Ext w w' := by
  obtain ⟨q, hq, hq4⟩ := modN a0 4 (by decide)
  obtain ⟨c, hcc, hc4⟩ := modN c0 1024 (by decide)
  replace hq : (IntKind.u64.wrap a0).tmod 4 = (q : Int) := hq
  replace hcc : (IntKind.u64.wrap c0).tmod 1024 = (c : Int) := hcc
  have hm0 : mayB ((q : Int) * 2) = true := may_even q hq4
  have hm1 : mayB (((q : Int) * 2) + 1) = true := may_odd q hq4
  obtain ⟨T1, less, T2, other, x, y, z, f1, f2, f3, f4, f5, hx, hxl, hy, hyl, hz, hzl⟩ := full_facts ((q : Int) * 2) c hm1 hc4
  refine calls_E Try.func4 rfl rfl ?_
  simp only [envOf]
  refine W_seq ?_
  refine W_region ?_
  refine R_ev (ev_assign rfl) rfl rfl ?_
  refine R_nil ?_
  refine nxt_n ?_
  refine W_seq ?_
  refine W_seq ?_
  refine W_region ?_
  refine R_call call6 rfl rfl rfl ?_
  refine (awake_any _).mono ?_
  rintro e w1_0 ⟨rfl, x1_0⟩
  refine ⟨_, rfl, ?_⟩
  refine R_ev (ev_not rfl) rfl rfl ?_
  refine R_nil ?_
  refine nxt_n ?_
  refine W_cond_f rfl ?_
  refine W_skip ?_
  refine nxt_n ?_
  refine W_seq ?_
  refine W_region ?_
  refine R_ev (ev_move rfl) rfl rfl ?_
  refine R_ev (ev_convU rfl rfl Try.underlying42) rfl rfl ?_
  refine R_ev (ev_remU rfl rfl (by decide)) rfl rfl ?_
  rw [hq]
  refine R_ev (ev_conv rfl rfl Try.underlying3 (wrap64_in (by omega) (by omega))) rfl rfl ?_
  refine R_ev (ev_mul rfl rfl (by omega) (by omega)) rfl rfl ?_
  refine R_ev (ev_assign rfl) rfl rfl ?_
  refine R_nil ?_
  refine nxt_n ?_
  refine W_seq ?_
  refine W_region ?_
  refine R_call call7 rfl rfl rfl ?_
  refine (new_law w _ x1_0).mono ?_
  rintro e w4_0 ⟨p, rfl, hT0, x4_0⟩
  refine ⟨_, rfl, ?_⟩
  refine R_ev (ev_assign rfl) rfl rfl ?_
  refine R_nil ?_
  refine nxt_n ?_
  refine W_seq ?_
  refine W_region ?_
  refine R_ev (ev_assign rfl) rfl rfl ?_
  refine R_nil ?_
  refine nxt_n ?_
  refine W_seq ?_
  refine W_seq ?_
  refine W_region ?_
  refine R_ev (ev_assign rfl) rfl rfl ?_
  refine R_nil ?_
  refine nxt_n ?_
  refine W_block ?_
  have e0_2_1 : Ext w w4_0 := x1_0.trans x4_0
  refine W_loop (ι := Nat) (fun z => [(0, .int .i64 ((q : Int) * 2)), (1, .int .i64 c0), (5, .pointer (some ⟨p, 0, none⟩)), (6, .int .i64 (z : Int)), (7, .int .i64 (z : Int))]) (fun z => fun w' => Ext w w' ∧ (TabN w w' p (chain ((q : Int) * 2) z)) ∧ (z ≤ 1024)) (fun z => 1024 - z) 0 (sub_cons rfl (sub_cons rfl (sub_cons rfl (sub_cons rfl (sub_cons rfl sub_nil))))) ?_ ?_
  · exact ⟨e0_2_1, hT0, Nat.zero_le _⟩
  rintro i wl0 ⟨hl0, hT, hi⟩
  try dsimp only
  refine W_seq ?_
  refine W_seq ?_
  refine W_region ?_
  refine R_ev (ev_move rfl) rfl rfl ?_
  refine R_ev (ev_lt rfl rfl) rfl rfl ?_
  refine R_nil ?_
  refine nxt_n ?_
  refine W_cond rfl (fun c1 => ?_) (fun c1 => ?_)
  · first | replace c1 := of_decide_eq_true c1 | replace c1 := of_decide_eq_false c1 | replace c1 := nd_true c1 | replace c1 := nd_false c1 | replace c1 := nb_true c1 | replace c1 := nb_false c1 | skip
    refine W_skip ?_
    refine nxt_n ?_
    refine W_seq ?_
    refine W_block ?_
    refine W_seq ?_
    refine W_region ?_
    refine R_ev (ev_move rfl) rfl rfl ?_
    refine R_ev (ev_move rfl) rfl rfl ?_
    refine R_ev (ev_move rfl) rfl rfl ?_
    refine R_ev (ev_build rfl (bld_31_1 _)) rfl rfl ?_
    refine R_ev (ev_move rfl) rfl rfl ?_
    refine R_call call12 rfl rfl rfl ?_
    refine (next_law (i : Int) (kN i) ((q : Int) * 2) hT).mono ?_
    rintro e w9_5 ⟨rfl, hT1, hR9_5⟩
    refine ⟨_, rfl, ?_⟩
    rw [chain_next ((q : Int) * 2) hm0 i (by omega)] at hT1 ⊢
    refine R_ev (ev_move rfl) rfl rfl ?_
    refine R_ev (ev_extract rfl rfl) rfl rfl ?_
    refine R_ev (ev_extract rfl rfl) rfl rfl ?_
    refine R_ev (ev_assign rfl) rfl rfl ?_
    refine R_ev (ev_assign rfl) rfl rfl ?_
    refine R_nil ?_
    refine nxt_n ?_
    refine W_seq ?_
    refine W_seq ?_
    refine W_region ?_
    refine R_ev (ev_move rfl) rfl rfl ?_
    refine R_ev (ev_ne rfl rfl) rfl rfl ?_
    refine R_ev (ev_move rfl) rfl rfl ?_
    refine R_ev (ev_move rfl) rfl rfl ?_
    refine R_ev (ev_move rfl) rfl rfl ?_
    refine R_ev (ev_add rfl rfl (by omega) (by omega)) rfl rfl ?_
    refine R_ev (ev_ne_f rfl rfl rfl) rfl rfl ?_
    refine R_ev (ev_pick rfl rfl rfl) rfl rfl ?_
    refine R_nil ?_
    refine nxt_n ?_
    refine W_cond_f rfl ?_
    refine W_skip ?_
    refine nxt_n ?_
    refine W_region ?_
    refine R_ev (ev_move rfl) rfl rfl ?_
    refine R_ev (ev_assign rfl) rfl rfl ?_
    refine R_nil ?_
    refine blk_n ?_
    refine nxt_n ?_
    refine W_region ?_
    refine R_ev (ev_move rfl) rfl rfl ?_
    refine R_ev (ev_add rfl rfl (by omega) (by omega)) rfl rfl ?_
    refine R_ev (ev_assign rfl) rfl rfl ?_
    refine R_nil ?_
    refine nxt_n ?_
    exact ⟨i + 1, sub_cons rfl (sub_cons rfl (sub_cons rfl (sub_cons rfl (sub_cons rfl sub_nil)))), ⟨hT1.ext, hT1, (by omega)⟩, by omega⟩
  · first | replace c1 := of_decide_eq_true c1 | replace c1 := of_decide_eq_false c1 | replace c1 := nd_true c1 | replace c1 := nd_false c1 | replace c1 := nb_true c1 | replace c1 := nb_false c1 | skip
    have hie : i = 1024 := by omega
    subst hie
    refine W_exit ?_
    refine nxt_e ?_
    refine nxt_e ?_
    refine blk_x ?_
    refine nxt_n ?_
    refine W_seq ?_
    refine W_region ?_
    refine R_ev (ev_move rfl) rfl rfl ?_
    refine R_ev (ev_move rfl) rfl rfl ?_
    refine R_ev (ev_build rfl (bld_31_1 _)) rfl rfl ?_
    refine R_ev (ev_move rfl) rfl rfl ?_
    refine R_call call12 rfl rfl rfl ?_
    refine (next_law 1024 (kN 1024) ((q : Int) * 2) hT).mono ?_
    rintro e w13_4 ⟨rfl, hT2, hR13_4⟩
    refine ⟨_, rfl, ?_⟩
    rw [chain_long ((q : Int) * 2) hm0] at hT2 ⊢
    refine R_ev (ev_move rfl) rfl rfl ?_
    refine R_ev (ev_extract rfl rfl) rfl rfl ?_
    refine R_ev (ev_extract rfl rfl) rfl rfl ?_
    refine R_ev (ev_assign rfl) rfl rfl ?_
    refine R_ev (ev_assign rfl) rfl rfl ?_
    refine R_nil ?_
    refine nxt_n ?_
    refine W_seq ?_
    refine W_seq ?_
    refine W_region ?_
    refine R_ev (ev_move rfl) rfl rfl ?_
    refine R_ev (ev_ne rfl rfl) rfl rfl ?_
    refine R_ev (ev_move rfl) rfl rfl ?_
    refine R_ev (ev_move rfl) rfl rfl ?_
    refine R_ev (ev_ne rfl rfl) rfl rfl ?_
    refine R_ev (ev_pick rfl rfl rfl) rfl rfl ?_
    refine R_ev (ev_move rfl) rfl rfl ?_
    refine R_ev (ev_move rfl) rfl rfl ?_
    refine R_call call9 rfl rfl rfl ?_
    refine (count_law hT2).mono ?_
    rintro e w14_8 ⟨rfl, rfl⟩
    refine ⟨_, rfl, ?_⟩
    rw [chain_len]
    refine R_ev (ev_ne rfl rfl) rfl rfl ?_
    refine R_ev (ev_pick rfl rfl rfl) rfl rfl ?_
    refine R_nil ?_
    refine nxt_n ?_
    refine W_cond_f rfl ?_
    refine W_skip ?_
    refine nxt_n ?_
    refine W_seq ?_
    refine W_region ?_
    refine R_ev (ev_move rfl) rfl rfl ?_
    refine R_ev (ev_convU rfl rfl Try.underlying42) rfl rfl ?_
    refine R_ev (ev_remU rfl rfl (by decide)) rfl rfl ?_
    rw [hcc]
    refine R_ev (ev_conv rfl rfl Try.underlying3 (wrap64_in (by omega) (by omega))) rfl rfl ?_
    refine R_ev (ev_build rfl (bld_31_1 _)) rfl rfl ?_
    refine A_alloc zero31 rfl rfl (fun w16_5 x16_5 b16_5 => ?_)
    refine A_storeRow rfl rfl b16_5 size31 rfl rfl rfl (fun w16_6 x16_6 b16_6 => ?_)
    refine R_nil ?_
    refine nxt_n ?_
    refine W_seq ?_
    refine W_region ?_
    refine R_ev (ev_move rfl) rfl rfl ?_
    refine R_ev (ev_move rfl) rfl rfl ?_
    refine R_ev (ev_loadS rfl (here b16_6.all) agg31) rfl rfl ?_
    have e2_4_2 : Ext w13_4 w16_6 := x16_6.ext x16_5 (fun q e => e ▸ Nat.le_refl _)
    refine R_call call13 rfl rfl rfl ?_
    refine (without_law 1024 (kN c) (hT2.more e2_4_2)).mono ?_
    rintro e w17_3 ⟨rfl, hT3, hR17_3⟩
    refine ⟨_, rfl, ?_⟩
    replace b16_6 := hR17_3.blk b16_6 (by decide) (by decide)
    rw [f1] at hT3 ⊢
    refine R_ev (ev_move rfl) rfl rfl ?_
    refine R_ev (ev_extract rfl rfl) rfl rfl ?_
    refine R_ev (ev_extract rfl rfl) rfl rfl ?_
    refine R_ev (ev_assign rfl) rfl rfl ?_
    refine R_ev (ev_assign rfl) rfl rfl ?_
    refine R_nil ?_
    refine nxt_n ?_
    refine W_seq ?_
    refine W_region ?_
    refine R_ev (ev_move rfl) rfl rfl ?_
    refine R_ev (ev_move rfl) rfl rfl ?_
    refine R_ev (ev_loadS rfl (here b16_6.all) agg31) rfl rfl ?_
    refine R_ev (ev_move rfl) rfl rfl ?_
    refine R_ev (ev_add rfl rfl (by omega) (by omega)) rfl rfl ?_
    refine R_call call14 rfl rfl rfl ?_
    refine (change_law 1024 (kN c) (((q : Int) * 2) + 1) hT3).mono ?_
    rintro e w18_5 ⟨rfl, hT4, hR18_5⟩
    refine ⟨_, rfl, ?_⟩
    replace b16_6 := hR18_5.blk b16_6 (by decide) (by decide)
    rw [f2] at hT4 ⊢
    refine R_ev (ev_move rfl) rfl rfl ?_
    refine R_ev (ev_extract rfl rfl) rfl rfl ?_
    refine R_ev (ev_extract rfl rfl) rfl rfl ?_
    refine R_ev (ev_assign rfl) rfl rfl ?_
    refine R_ev (ev_assign rfl) rfl rfl ?_
    refine R_nil ?_
    refine nxt_n ?_
    refine W_seq ?_
    refine W_region ?_
    refine R_ev (ev_move rfl) rfl rfl ?_
    refine R_ev (ev_move rfl) rfl rfl ?_
    refine R_ev (ev_loadS rfl (here b16_6.all) agg31) rfl rfl ?_
    refine R_call call13 rfl rfl rfl ?_
    refine (without_law 1024 (kN c) hT4).mono ?_
    rintro e w19_3 ⟨rfl, hT5, hR19_3⟩
    refine ⟨_, rfl, ?_⟩
    replace b16_6 := hR19_3.blk b16_6 (by decide) (by decide)
    rw [f3] at hT5 ⊢
    refine R_ev (ev_move rfl) rfl rfl ?_
    refine R_ev (ev_extract rfl rfl) rfl rfl ?_
    refine R_ev (ev_extract rfl rfl) rfl rfl ?_
    refine R_ev (ev_assign rfl) rfl rfl ?_
    refine R_ev (ev_assign rfl) rfl rfl ?_
    refine R_nil ?_
    refine nxt_n ?_
    refine W_seq ?_
    refine W_region ?_
    refine R_ev (ev_move rfl) rfl rfl ?_
    refine R_ev (ev_move rfl) rfl rfl ?_
    refine R_ev (ev_loadS rfl (here b16_6.all) agg31) rfl rfl ?_
    refine R_call call15 rfl rfl rfl ?_
    refine (find_law (less : Int) (kN c) hT5).mono ?_
    rintro e w20_3 ⟨rfl, x20_3⟩
    refine ⟨_, rfl, ?_⟩
    rw [f4]
    refine R_ev (ev_move rfl) rfl rfl ?_
    refine R_ev (ev_extract rfl rfl) rfl rfl ?_
    refine R_ev (ev_extract rfl rfl) rfl rfl ?_
    refine R_ev (ev_extract rfl rfl) rfl rfl ?_
    refine R_ev (ev_assign rfl) rfl rfl ?_
    refine R_ev (ev_assign rfl) rfl rfl ?_
    refine R_ev (ev_assign rfl) rfl rfl ?_
    refine R_nil ?_
    refine nxt_n ?_
    refine W_seq ?_
    refine W_region ?_
    refine R_ev (ev_move rfl) rfl rfl ?_
    refine R_ev (ev_move rfl) rfl rfl ?_
    refine R_ev (ev_loadS rfl (here (b16_6.ext x20_3).all) agg31) rfl rfl ?_
    refine R_call call15 rfl rfl rfl ?_
    refine (find_law (other : Int) (kN c) (hT5.more x20_3)).mono ?_
    rintro e w21_3 ⟨rfl, x21_3⟩
    refine ⟨_, rfl, ?_⟩
    rw [f5]
    refine R_ev (ev_move rfl) rfl rfl ?_
    refine R_ev (ev_extract rfl rfl) rfl rfl ?_
    refine R_ev (ev_extract rfl rfl) rfl rfl ?_
    refine R_ev (ev_extract rfl rfl) rfl rfl ?_
    refine R_ev (ev_assign rfl) rfl rfl ?_
    refine R_ev (ev_assign rfl) rfl rfl ?_
    refine R_ev (ev_assign rfl) rfl rfl ?_
    refine R_nil ?_
    refine nxt_n ?_
    refine W_seq ?_
    refine W_region ?_
    refine R_ev (ev_move rfl) rfl rfl ?_
    refine R_ev (ev_eq rfl rfl) rfl rfl ?_
    refine R_ev (ev_move rfl) rfl rfl ?_
    refine R_ev (ev_move rfl) rfl rfl ?_
    refine R_ev (ev_eq rfl rfl) rfl rfl ?_
    refine R_ev (ev_pick rfl rfl rfl) rfl rfl ?_
    refine R_ev (ev_move rfl) rfl rfl ?_
    refine R_ev (ev_move rfl) rfl rfl ?_
    refine R_ev (ev_eq rfl rfl) rfl rfl ?_
    refine R_ev (ev_pick rfl rfl rfl) rfl rfl ?_
    refine R_ev (ev_move rfl) rfl rfl ?_
    refine R_ev (ev_move rfl) rfl rfl ?_
    refine R_ev (ev_move rfl) rfl rfl ?_
    refine R_ev (ev_eq_t rfl rfl rfl) rfl rfl ?_
    refine R_ev (ev_pick rfl rfl rfl) rfl rfl ?_
    refine R_ev (ev_move rfl) rfl rfl ?_
    refine R_ev (ev_move rfl) rfl rfl ?_
    refine R_ev (ev_not rfl) rfl rfl ?_
    refine R_ev (ev_pick rfl rfl rfl) rfl rfl ?_
    refine R_ev (ev_move rfl) rfl rfl ?_
    refine R_ev (ev_move rfl) rfl rfl ?_
    refine R_ev (ev_move rfl) rfl rfl ?_
    refine R_ev (ev_add rfl rfl (by omega) (by omega)) rfl rfl ?_
    refine R_ev (ev_eq_t rfl rfl rfl) rfl rfl ?_
    refine R_ev (ev_pick rfl rfl rfl) rfl rfl ?_
    refine R_ev (ev_move rfl) rfl rfl ?_
    refine R_ev (ev_move rfl) rfl rfl ?_
    refine R_ev (ev_move rfl) rfl rfl ?_
    have e7_9_3 : Ext w19_3 w21_3 := x20_3.trans x21_3
    refine R_call call11 rfl rfl rfl ?_
    refine (len_law less x (hT5.more e7_9_3) hx).mono ?_
    rintro e w22_28 ⟨rfl, x22_28⟩
    refine ⟨_, rfl, ?_⟩
    rw [hxl]
    refine R_ev (ev_eq rfl rfl) rfl rfl ?_
    refine R_ev (ev_pick rfl rfl rfl) rfl rfl ?_
    refine R_ev (ev_move rfl) rfl rfl ?_
    refine R_ev (ev_move rfl) rfl rfl ?_
    refine R_ev (ev_move rfl) rfl rfl ?_
    have e7_10_4 : Ext w19_3 w22_28 := e7_9_3.trans x22_28
    refine R_call call11 rfl rfl rfl ?_
    refine (len_law other y (hT5.more e7_10_4) hy).mono ?_
    rintro e w22_34 ⟨rfl, x22_34⟩
    refine ⟨_, rfl, ?_⟩
    rw [hyl]
    refine R_ev (ev_eq rfl rfl) rfl rfl ?_
    refine R_ev (ev_pick rfl rfl rfl) rfl rfl ?_
    refine R_ev (ev_move rfl) rfl rfl ?_
    refine R_ev (ev_move rfl) rfl rfl ?_
    refine R_ev (ev_move rfl) rfl rfl ?_
    have e7_11_5 : Ext w19_3 w22_34 := e7_10_4.trans x22_34
    refine R_call call11 rfl rfl rfl ?_
    refine (len_law 1024 z (hT5.more e7_11_5) hz).mono ?_
    rintro e w22_40 ⟨rfl, x22_40⟩
    refine ⟨_, rfl, ?_⟩
    rw [hzl]
    refine R_ev (ev_eq rfl rfl) rfl rfl ?_
    refine R_ev (ev_pick rfl rfl rfl) rfl rfl ?_
    refine R_ev (ev_assign rfl) rfl rfl ?_
    refine R_nil ?_
    refine nxt_n ?_
    refine W_ret ?_
    have e0_8_6 : Ext w w20_3 := hT5.ext.trans x20_3
    have e0_9_7 : Ext w w21_3 := e0_8_6.trans x21_3
    have e0_10_8 : Ext w w22_28 := e0_9_7.trans x22_28
    have e0_11_9 : Ext w w22_34 := e0_10_8.trans x22_34
    have e0_12_10 : Ext w w22_40 := e0_11_9.trans x22_40
    exact end1 rfl rfl ⟨rfl, e0_12_10⟩
end Go.Proofs.Ytmiecljgcbfklaa

