/- Pure functions and contracts of Go functions (printed by all3.py). -/
import Derived.Test.YtmbaennilhdieaaR33
namespace Go.Proofs.Ytmbaennilhdieaa
open Go.RowKit

/-! pantomime/pantomimeref15.Leads -/
def pantomimeref15_Leads_j21 (N : Nat) (p22 : (List Int)) : Option (List Int) :=
  some p22
def pantomimeref15_Leads_j27 (N : Nat) (kb23 : (List Int) → Int → Option (List Int)) (p25 : Int) (a0 : DCell) (p28 : (List Int)) : Option (List Int) :=
  req (in64 (p25 + 1)) (kb23 p28 (p25 + 1))
def pantomimeref15_Leads_l23 (N : Nat) (a0 : DCell) : Nat → (List Int) → Int → Option (List Int)
  | 0, _, _ => none
  | m23 + 1, p24, p25 => bif decide (p25 < (a0.More.length : Int)) then ((getE a0.More p25).bind fun x29 => (pantomimeref15_has_O N x29).bind fun y30 => (bif y30 then ((pantomimeref15_weak_O N a0.Kind p25).bind fun y32 => some (!y32)) else (some false)).bind fun b31 => bif b31 then ((getE a0.More p25).bind fun x34 => req (fitsL (p24.length + ([x34.N] : List Int).length)) (pantomimeref15_Leads_j27 N (pantomimeref15_Leads_l23 N a0 m23) p25 a0 (p24 ++ ([x34.N] : List Int)))) else (pantomimeref15_Leads_j27 N (pantomimeref15_Leads_l23 N a0 m23) p25 a0 p24)) else (pantomimeref15_Leads_j21 N p24)
theorem pantomimeref15_Leads_l23_s {N m23 : Nat} {a0 : DCell} {p24 : (List Int)} {p25 : Int} : pantomimeref15_Leads_l23 N a0 (m23 + 1) p24 p25 = bif decide (p25 < (a0.More.length : Int)) then ((getE a0.More p25).bind fun x29 => (pantomimeref15_has_O N x29).bind fun y30 => (bif y30 then ((pantomimeref15_weak_O N a0.Kind p25).bind fun y32 => some (!y32)) else (some false)).bind fun b31 => bif b31 then ((getE a0.More p25).bind fun x34 => req (fitsL (p24.length + ([x34.N] : List Int).length)) (pantomimeref15_Leads_j27 N (pantomimeref15_Leads_l23 N a0 m23) p25 a0 (p24 ++ ([x34.N] : List Int)))) else (pantomimeref15_Leads_j27 N (pantomimeref15_Leads_l23 N a0 m23) p25 a0 p24)) else (pantomimeref15_Leads_j21 N p24) := rfl
def pantomimeref15_Leads_j4 (N : Nat) (a0 : DCell) (p5 : (List Int)) : Option (List Int) :=
  pantomimeref15_Leads_l23 N a0 N p5 0
def pantomimeref15_Leads_j11 (N : Nat) (kb6 : (List Int) → Int → Option (List Int)) (p8 : Int) (a0 : DCell) (p12 : (List Int)) : Option (List Int) :=
  req (in64 (p8 + 1)) (kb6 p12 (p8 + 1))
def pantomimeref15_Leads_l6 (N : Nat) (a0 : DCell) : Nat → (List Int) → Int → Option (List Int)
  | 0, _, _ => none
  | m6 + 1, p7, p8 => bif decide (p8 < (a0.Slots.length : Int)) then ((getE a0.Slots p8).bind fun x13 => (pantomimeref15_has_O N x13).bind fun y14 => bif y14 then ((getE a0.Slots p8).bind fun x16 => req (fitsL (p7.length + ([x16.N] : List Int).length)) (pantomimeref15_Leads_j11 N (pantomimeref15_Leads_l6 N a0 m6) p8 a0 (p7 ++ ([x16.N] : List Int)))) else (pantomimeref15_Leads_j11 N (pantomimeref15_Leads_l6 N a0 m6) p8 a0 p7)) else (pantomimeref15_Leads_j4 N a0 p7)
theorem pantomimeref15_Leads_l6_s {N m6 : Nat} {a0 : DCell} {p7 : (List Int)} {p8 : Int} : pantomimeref15_Leads_l6 N a0 (m6 + 1) p7 p8 = bif decide (p8 < (a0.Slots.length : Int)) then ((getE a0.Slots p8).bind fun x13 => (pantomimeref15_has_O N x13).bind fun y14 => bif y14 then ((getE a0.Slots p8).bind fun x16 => req (fitsL (p7.length + ([x16.N] : List Int).length)) (pantomimeref15_Leads_j11 N (pantomimeref15_Leads_l6 N a0 m6) p8 a0 (p7 ++ ([x16.N] : List Int)))) else (pantomimeref15_Leads_j11 N (pantomimeref15_Leads_l6 N a0 m6) p8 a0 p7)) else (pantomimeref15_Leads_j4 N a0 p7) := rfl
def pantomimeref15_Leads_O (N : Nat) (a0 : DCell) : Option (List Int) :=
  pantomimeref15_Leads_l6 N a0 N [] 0
theorem pantomimeref15_Leads_ok {N : Nat} {a0 : DCell} {r : (List Int)} (h : pantomimeref15_Leads_O N a0 = some r) {A1 : Option Addr} {n1 c1 : Nat} {A2 : Option Addr} {n2 c2 : Nat} : Okc Try.prog 20 [.agg #[.int .i64 a0.Kind, .int .i64 a0.Shape, .int .i64 a0.Flags, .int .i64 a0.Age, .slice A1 n1 c1, .slice A2 n2 c2]] ([slC rDValue (.slice A1 n1 c1) a0.Slots, slC rDValue (.slice A2 n2 c2) a0.More]) (fun (u : Value) (post : List Chunk) => ∃ A0 n0 c0, u = .slice A0 n0 c0 ∧ post = [ownC (rInt .i64) 3 (.slice A0 n0 c0) r]) := by
  refine ok_E Try.func20 rfl rfl ?_
  simp only [envOf]
  refine G_seq ?_
  refine G_region ?_
  refine G_opd (op_box rfl rfl) rfl rfl rfl ?_
  rintro _ _ ⟨B3, rfl, rfl⟩
  refine G_ev (ev_assign rfl) rfl rfl rfl ?_
  refine G_nil ?_
  refine nx_n ?_
  refine G_seq ?_
  refine G_region ?_
  refine G_ev (ev_assign rfl) rfl rfl rfl ?_
  refine G_nil ?_
  refine nx_n ?_
  refine G_joinF (fun s L => ∃ (p5 : (List Int)) (A5 : Option Addr) (n5 c5 : Nat), pantomimeref15_Leads_j4 N a0 p5 = some r ∧ s = [(1, .pointer (some ⟨B3, 0, none⟩)), (2, .slice none 0 0), (3, .slice A5 n5 c5)] ∧ L = [ownC (rInt .i64) 3 (.slice A5 n5 c5) p5, slC rDValue (.slice A1 n1 c1) a0.Slots, slC rDValue (.slice A2 n2 c2) a0.More, boxC B3 42 [.int .i64 a0.Kind, .int .i64 a0.Shape, .int .i64 a0.Flags, .int .i64 a0.Age, .slice A1 n1 c1, .slice A2 n2 c2]]) ?_ ?_
  · refine G_seq ?_
    refine G_region ?_
    refine G_ev (ev_assign rfl) rfl rfl rfl ?_
    refine G_nil ?_
    refine nx_n ?_
    refine G_block ?_
    refine G_loopF (fun m s L => ∃ (p7 : (List Int)) (p8 : Int) (A7 : Option Addr) (n7 c7 : Nat), pantomimeref15_Leads_l6 N a0 m p7 p8 = some r ∧ s = [(1, .pointer (some ⟨B3, 0, none⟩)), (2, .slice none 0 0), (3, .slice A7 n7 c7), (4, .int .i64 p8)] ∧ L = [ownC (rInt .i64) 3 (.slice A7 n7 c7) p7, slC rDValue (.slice A1 n1 c1) a0.Slots, slC rDValue (.slice A2 n2 c2) a0.More, boxC B3 42 [.int .i64 a0.Kind, .int .i64 a0.Shape, .int .i64 a0.Flags, .int .i64 a0.Age, .slice A1 n1 c1, .slice A2 n2 c2]]) N _ _ ⟨[], 0, none, 0, 0, h, rfl, rfl⟩ (sub_cons rfl (sub_cons rfl (sub_cons rfl (sub_cons rfl sub_nil)))) ((cv_nil (rInt .i64) 3 _).trans (cv_sel [0, 2, 3, 1] 4 rfl rfl)) ?_
    rintro (_ | m6) _ _ ⟨p7, p8, A7, n7, c7, h, rfl, rfl⟩
    · exact none_some h
    rw [pantomimeref15_Leads_l6_s] at h
    refine G_seq ?_
    refine G_seq ?_
    refine G_region ?_
    refine G_ev (ev_move rfl) rfl rfl rfl ?_
    refine G_ev (ev_fa rfl fa_42_4) rfl rfl rfl ?_
    refine G_rd (rd_box1 3 rfl rfl one25 rfl) rfl rfl rfl ?_
    refine G_rd (rd_len 1 rfl els_sl rfl Try.underlying25) rfl rfl rfl ?_
    refine G_ev (ev_lt rfl rfl) rfl rfl rfl ?_
    refine G_nil ?_
    refine nx_n ?_
    refine G_cond rfl (fun g10 => ?_) (fun g10 => ?_)
    · replace h := cond_t g10 h
      refine G_skip ?_
      refine nx_n ?_
      refine G_joinF (fun s L => ∃ (p12 : (List Int)) (A12 : Option Addr) (n12 c12 : Nat), pantomimeref15_Leads_j11 N (pantomimeref15_Leads_l6 N a0 m6) p8 a0 p12 = some r ∧ s = [(1, .pointer (some ⟨B3, 0, none⟩)), (2, .slice none 0 0), (3, .slice A12 n12 c12), (4, .int .i64 p8)] ∧ L = [ownC (rInt .i64) 3 (.slice A12 n12 c12) p12, slC rDValue (.slice A1 n1 c1) a0.Slots, slC rDValue (.slice A2 n2 c2) a0.More, boxC B3 42 [.int .i64 a0.Kind, .int .i64 a0.Shape, .int .i64 a0.Flags, .int .i64 a0.Age, .slice A1 n1 c1, .slice A2 n2 c2]]) ?_ ?_
      · refine G_block ?_
        refine G_seq ?_
        refine G_region ?_
        refine G_ev (ev_fa rfl fa_42_4) rfl rfl rfl ?_
        refine G_rd (rd_box1 3 rfl rfl one25 rfl) rfl rfl rfl ?_
        refine G_ev (ev_move rfl) rfl rfl rfl ?_
        obtain ⟨x13, hx13, h⟩ := bind_elim h
        obtain ⟨lx13, ux13, hx13⟩ := getE_elim hx13
        refine G_rd (rd_idx 1 rfl els_sl rfl rfl Try.underlying25 size38 lx13 ux13) rfl rfl rfl ?_
        refine G_rd (rd_elemS (us := [.int .i64 x13.Kind, .int .i64 x13.N, .string x13.S]) 1 rfl els_sl rfl hx13 agg38 (fun _ _ _ h => by rw [show _ = _ from h]; rfl)) rfl rfl rfl ?_
        obtain ⟨y14, hy14, h⟩ := bind_elim h
        refine G_opd (op_callR (pantomimeref15_has_ok hy14) call49 rfl (mem_nil) pantomimeref15_has_free) rfl rfl rfl ?_
        rintro _ _ ⟨_, ⟨rfl, rfl⟩, rfl⟩
        refine G_nil ?_
        refine nx_n ?_
        refine G_cond rfl (fun g15 => ?_) (fun g15 => ?_)
        · replace h := cond_t g15 h
          refine G_region ?_
          refine G_ev (ev_move rfl) rfl rfl rfl ?_
          refine G_ev (ev_fa rfl fa_42_4) rfl rfl rfl ?_
          refine G_rd (rd_box1 3 rfl rfl one25 rfl) rfl rfl rfl ?_
          refine G_ev (ev_move rfl) rfl rfl rfl ?_
          obtain ⟨x16, hx16, h⟩ := bind_elim h
          obtain ⟨lx16, ux16, hx16⟩ := getE_elim hx16
          refine G_rd (rd_idx 1 rfl els_sl rfl rfl Try.underlying25 size38 lx16 ux16) rfl rfl rfl ?_
          refine G_rd (rd_fa 1 rfl els_sl rfl (toNat_lt lx16 ux16) fa_38_1) rfl rfl rfl ?_
          refine G_rd (rd_elem1 (u := .int .i64 x16.N) 1 rfl els_sl rfl hx16 one3 (fun _ _ _ h => by rw [show _ = _ from h]; rfl)) rfl rfl rfl ?_
          refine G_opd (op_bslice (R := (rInt .i64)) (vss := [[.int .i64 x16.N]]) (xs := [x16.N]) rfl (bsl_31_1 _) rfl rfl (fun _ _ hr => .cons rfl All2.nil)) rfl rfl rfl ?_
          rintro _ _ ⟨A17, n17, c17, rfl, rfl⟩
          obtain ⟨q18, h⟩ := req_elim h
          refine G_opd (op_append 1 0 rfl rfl els_own rfl rfl Try.underlying31 zb3 rfl rfl q18) rfl rfl rfl ?_
          rintro _ _ ⟨A19, n19, c19, rfl, rfl⟩
          refine G_norm ([ownC (rInt .i64) 3 (.slice A17 n17 c17) ([x16.N] : List Int), ownC (rInt .i64) 3 (.slice A19 n19 c19) (p7 ++ ([x16.N] : List Int)), slC rDValue (.slice A1 n1 c1) a0.Slots, slC rDValue (.slice A2 n2 c2) a0.More, boxC B3 42 [.int .i64 a0.Kind, .int .i64 a0.Shape, .int .i64 a0.Flags, .int .i64 a0.Age, .slice A1 n1 c1, .slice A2 n2 c2]]) rfl ?_
          refine G_ev (ev_assign rfl) rfl rfl rfl ?_
          refine G_nil ?_
          refine bk_n ?_
          refine nx_n ?_
          exact ⟨_, _, ⟨p7 ++ ([x16.N] : List Int), A19, n19, c19, h, rfl, rfl⟩, sub_cons rfl (sub_cons rfl (sub_cons rfl (sub_cons rfl sub_nil))), cv_sel [1, 2, 3, 4] 5 rfl rfl⟩
        · replace h := cond_f g15 h
          refine G_skip ?_
          refine bk_n ?_
          refine nx_n ?_
          exact ⟨_, _, ⟨p7, A7, n7, c7, h, rfl, rfl⟩, sub_cons rfl (sub_cons rfl (sub_cons rfl (sub_cons rfl sub_nil))), cv_sel [0, 1, 2, 3] 4 rfl rfl⟩
      · rintro _ _ ⟨p12, A12, n12, c12, h, rfl, rfl⟩
        refine G_region ?_
        refine G_ev (ev_move rfl) rfl rfl rfl ?_
        obtain ⟨q20, h⟩ := req_elim h
        refine G_ev (ev_add rfl rfl q20.1 q20.2) rfl rfl rfl ?_
        refine G_ev (ev_assign rfl) rfl rfl rfl ?_
        refine G_nil ?_
        refine nx_n ?_
        exact ⟨m6, _, _, Nat.lt_succ_self _, ⟨p12, p8 + 1, A12, n12, c12, h, rfl, rfl⟩, sub_cons rfl (sub_cons rfl (sub_cons rfl (sub_cons rfl sub_nil))), cv_sel [0, 1, 2, 3] 4 rfl rfl⟩
    · replace h := cond_f g10 h
      refine G_exit ?_
      refine nx_e ?_
      refine nx_e ?_
      refine bk_x ?_
      refine nx_n ?_
      exact ⟨_, _, ⟨p7, A7, n7, c7, h, rfl, rfl⟩, sub_cons rfl (sub_cons rfl (sub_cons rfl sub_nil)), cv_sel [0, 1, 2, 3] 4 rfl rfl⟩
  · rintro _ _ ⟨p5, A5, n5, c5, h, rfl, rfl⟩
    refine G_joinF (fun s L => ∃ (p22 : (List Int)) (A22 : Option Addr) (n22 c22 : Nat), pantomimeref15_Leads_j21 N p22 = some r ∧ s = [(2, .slice none 0 0), (3, .slice A22 n22 c22)] ∧ L = [ownC (rInt .i64) 3 (.slice A22 n22 c22) p22]) ?_ ?_
    · refine G_seq ?_
      refine G_region ?_
      refine G_ev (ev_assign rfl) rfl rfl rfl ?_
      refine G_nil ?_
      refine nx_n ?_
      refine G_block ?_
      refine G_loopF (fun m s L => ∃ (p24 : (List Int)) (p25 : Int) (A24 : Option Addr) (n24 c24 : Nat), pantomimeref15_Leads_l23 N a0 m p24 p25 = some r ∧ s = [(1, .pointer (some ⟨B3, 0, none⟩)), (2, .slice none 0 0), (3, .slice A24 n24 c24), (5, .int .i64 p25)] ∧ L = [ownC (rInt .i64) 3 (.slice A24 n24 c24) p24, slC rDValue (.slice A1 n1 c1) a0.Slots, slC rDValue (.slice A2 n2 c2) a0.More, boxC B3 42 [.int .i64 a0.Kind, .int .i64 a0.Shape, .int .i64 a0.Flags, .int .i64 a0.Age, .slice A1 n1 c1, .slice A2 n2 c2]]) N _ _ ⟨p5, 0, A5, n5, c5, h, rfl, rfl⟩ (sub_cons rfl (sub_cons rfl (sub_cons rfl (sub_cons rfl sub_nil)))) (cv_sel [0, 1, 2, 3] 4 rfl rfl) ?_
      rintro (_ | m23) _ _ ⟨p24, p25, A24, n24, c24, h, rfl, rfl⟩
      · exact none_some h
      rw [pantomimeref15_Leads_l23_s] at h
      refine G_seq ?_
      refine G_seq ?_
      refine G_region ?_
      refine G_ev (ev_move rfl) rfl rfl rfl ?_
      refine G_ev (ev_fa rfl fa_42_5) rfl rfl rfl ?_
      refine G_rd (rd_box1 3 rfl rfl one25 rfl) rfl rfl rfl ?_
      refine G_rd (rd_len 2 rfl els_sl rfl Try.underlying25) rfl rfl rfl ?_
      refine G_ev (ev_lt rfl rfl) rfl rfl rfl ?_
      refine G_nil ?_
      refine nx_n ?_
      refine G_cond rfl (fun g26 => ?_) (fun g26 => ?_)
      · replace h := cond_t g26 h
        refine G_skip ?_
        refine nx_n ?_
        refine G_joinF (fun s L => ∃ (p28 : (List Int)) (A28 : Option Addr) (n28 c28 : Nat), pantomimeref15_Leads_j27 N (pantomimeref15_Leads_l23 N a0 m23) p25 a0 p28 = some r ∧ s = [(1, .pointer (some ⟨B3, 0, none⟩)), (2, .slice none 0 0), (3, .slice A28 n28 c28), (5, .int .i64 p25)] ∧ L = [ownC (rInt .i64) 3 (.slice A28 n28 c28) p28, slC rDValue (.slice A1 n1 c1) a0.Slots, slC rDValue (.slice A2 n2 c2) a0.More, boxC B3 42 [.int .i64 a0.Kind, .int .i64 a0.Shape, .int .i64 a0.Flags, .int .i64 a0.Age, .slice A1 n1 c1, .slice A2 n2 c2]]) ?_ ?_
        · refine G_block ?_
          refine G_seq ?_
          refine G_region ?_
          refine G_ev (ev_fa rfl fa_42_5) rfl rfl rfl ?_
          refine G_rd (rd_box1 3 rfl rfl one25 rfl) rfl rfl rfl ?_
          refine G_ev (ev_move rfl) rfl rfl rfl ?_
          obtain ⟨x29, hx29, h⟩ := bind_elim h
          obtain ⟨lx29, ux29, hx29⟩ := getE_elim hx29
          refine G_rd (rd_idx 2 rfl els_sl rfl rfl Try.underlying25 size38 lx29 ux29) rfl rfl rfl ?_
          refine G_rd (rd_elemS (us := [.int .i64 x29.Kind, .int .i64 x29.N, .string x29.S]) 2 rfl els_sl rfl hx29 agg38 (fun _ _ _ h => by rw [show _ = _ from h]; rfl)) rfl rfl rfl ?_
          obtain ⟨y30, hy30, h⟩ := bind_elim h
          refine G_opd (op_callR (pantomimeref15_has_ok hy30) call49 rfl (mem_nil) pantomimeref15_has_free) rfl rfl rfl ?_
          rintro _ _ ⟨_, ⟨rfl, rfl⟩, rfl⟩
          refine G_ev (ev_move rfl) rfl rfl rfl ?_
          obtain ⟨b31, hb31, h⟩ := bind_elim h
          refine G_segb 6 47 b31 ?_ ?_
          · clear h
            refine G_case 41 rfl (fun g31 => ?_) (fun g31 => ?_)
            · have h := cond_t g31 hb31
              refine G_ev (ev_fa0 rfl fa_42_0) rfl (g_tt g31 rfl) rfl ?_
              refine G_rd (rd_box1 3 rfl rfl one3 rfl) rfl (g_tt g31 rfl) rfl ?_
              refine G_ev (ev_move rfl) rfl (g_tt g31 rfl) rfl ?_
              obtain ⟨y32, hy32, h⟩ := bind_elim h
              refine G_opd (op_callR (pantomimeref15_weak_ok hy32) call50 rfl (mem_nil) pantomimeref15_weak_free) rfl (g_tt g31 rfl) rfl ?_
              rintro _ _ ⟨_, ⟨rfl, rfl⟩, rfl⟩
              refine G_ev (ev_not rfl) rfl (g_tt g31 rfl) rfl ?_
              refine G_ev (ev_pick_t' g31 rfl rfl) rfl rfl rfl ?_
              obtain rfl := Option.some.inj h
              exact G_joined (sub_cons rfl (sub_skip (sub_skip (sub_skip (sub_skip (sub_skip (sub_skip sub_refl rfl) rfl) rfl) rfl) rfl) rfl)) (cv_sel [0, 1, 2, 3] 4 rfl rfl)
            · have h := cond_f g31 hb31
              refine G_no (g_tf g31 rfl) rfl ?_
              refine G_no (g_tf g31 rfl) rfl ?_
              refine G_no (g_tf g31 rfl) rfl ?_
              refine G_no (g_tf g31 rfl) rfl ?_
              refine G_no (g_tf g31 rfl) rfl ?_
              refine G_ev (ev_pick_f' g31 rfl rfl) rfl rfl rfl ?_
              obtain rfl := Option.some.inj h
              exact G_joined (sub_cons rfl (sub_skip (sub_skip (sub_skip (sub_skip (sub_skip (sub_skip sub_refl rfl) rfl) rfl) rfl) rfl) rfl)) (cv_sel [0, 1, 2, 3] 4 rfl rfl)
          refine G_nil ?_
          refine nx_n ?_
          refine G_cond rfl (fun g33 => ?_) (fun g33 => ?_)
          · replace h := cond_t g33 h
            refine G_region ?_
            refine G_ev (ev_move rfl) rfl rfl rfl ?_
            refine G_ev (ev_fa rfl fa_42_5) rfl rfl rfl ?_
            refine G_rd (rd_box1 3 rfl rfl one25 rfl) rfl rfl rfl ?_
            refine G_ev (ev_move rfl) rfl rfl rfl ?_
            obtain ⟨x34, hx34, h⟩ := bind_elim h
            obtain ⟨lx34, ux34, hx34⟩ := getE_elim hx34
            refine G_rd (rd_idx 2 rfl els_sl rfl rfl Try.underlying25 size38 lx34 ux34) rfl rfl rfl ?_
            refine G_rd (rd_fa 2 rfl els_sl rfl (toNat_lt lx34 ux34) fa_38_1) rfl rfl rfl ?_
            refine G_rd (rd_elem1 (u := .int .i64 x34.N) 2 rfl els_sl rfl hx34 one3 (fun _ _ _ h => by rw [show _ = _ from h]; rfl)) rfl rfl rfl ?_
            refine G_opd (op_bslice (R := (rInt .i64)) (vss := [[.int .i64 x34.N]]) (xs := [x34.N]) rfl (bsl_31_1 _) rfl rfl (fun _ _ hr => .cons rfl All2.nil)) rfl rfl rfl ?_
            rintro _ _ ⟨A35, n35, c35, rfl, rfl⟩
            obtain ⟨q36, h⟩ := req_elim h
            refine G_opd (op_append 1 0 rfl rfl els_own rfl rfl Try.underlying31 zb3 rfl rfl q36) rfl rfl rfl ?_
            rintro _ _ ⟨A37, n37, c37, rfl, rfl⟩
            refine G_norm ([ownC (rInt .i64) 3 (.slice A35 n35 c35) ([x34.N] : List Int), ownC (rInt .i64) 3 (.slice A37 n37 c37) (p24 ++ ([x34.N] : List Int)), slC rDValue (.slice A1 n1 c1) a0.Slots, slC rDValue (.slice A2 n2 c2) a0.More, boxC B3 42 [.int .i64 a0.Kind, .int .i64 a0.Shape, .int .i64 a0.Flags, .int .i64 a0.Age, .slice A1 n1 c1, .slice A2 n2 c2]]) rfl ?_
            refine G_ev (ev_assign rfl) rfl rfl rfl ?_
            refine G_nil ?_
            refine bk_n ?_
            refine nx_n ?_
            exact ⟨_, _, ⟨p24 ++ ([x34.N] : List Int), A37, n37, c37, h, rfl, rfl⟩, sub_cons rfl (sub_cons rfl (sub_cons rfl (sub_cons rfl sub_nil))), cv_sel [1, 2, 3, 4] 5 rfl rfl⟩
          · replace h := cond_f g33 h
            refine G_skip ?_
            refine bk_n ?_
            refine nx_n ?_
            exact ⟨_, _, ⟨p24, A24, n24, c24, h, rfl, rfl⟩, sub_cons rfl (sub_cons rfl (sub_cons rfl (sub_cons rfl sub_nil))), cv_sel [0, 1, 2, 3] 4 rfl rfl⟩
        · rintro _ _ ⟨p28, A28, n28, c28, h, rfl, rfl⟩
          refine G_region ?_
          refine G_ev (ev_move rfl) rfl rfl rfl ?_
          obtain ⟨q38, h⟩ := req_elim h
          refine G_ev (ev_add rfl rfl q38.1 q38.2) rfl rfl rfl ?_
          refine G_ev (ev_assign rfl) rfl rfl rfl ?_
          refine G_nil ?_
          refine nx_n ?_
          exact ⟨m23, _, _, Nat.lt_succ_self _, ⟨p28, p25 + 1, A28, n28, c28, h, rfl, rfl⟩, sub_cons rfl (sub_cons rfl (sub_cons rfl (sub_cons rfl sub_nil))), cv_sel [0, 1, 2, 3] 4 rfl rfl⟩
      · replace h := cond_f g26 h
        refine G_exit ?_
        refine nx_e ?_
        refine nx_e ?_
        refine bk_x ?_
        refine nx_n ?_
        exact ⟨_, _, ⟨p24, A24, n24, c24, h, rfl, rfl⟩, sub_cons rfl (sub_cons rfl sub_nil), cv_sel [0] 4 rfl rfl⟩
    · rintro _ _ ⟨p22, A22, n22, c22, h, rfl, rfl⟩
      refine G_seq ?_
      refine G_region ?_
      refine G_ev (ev_move rfl) rfl rfl rfl ?_
      refine G_ev (ev_assign rfl) rfl rfl rfl ?_
      refine G_nil ?_
      refine nx_n ?_
      refine G_ret ?_
      obtain rfl := Option.some.inj h
      exact endG1 rfl rfl (cv_sel [0] 1 rfl rfl) ⟨_, _, _, rfl, rfl⟩
theorem pantomimeref15_Leads_free {r : (List Int)} : ∀ v post, ((fun (u : Value) (post : List Chunk) => ∃ A0 n0 c0, u = .slice A0 n0 c0 ∧ post = [ownC (rInt .i64) 3 (.slice A0 n0 c0) r])) v post → ∀ c ∈ post, Free c := by
  rintro _ _ ⟨_, _, _, rfl, rfl⟩; exact mem_cons free_own (mem_nil)
/-! pantomime/pantomimeref15.May -/
def pantomimeref15_May_O (N : Nat) (a0 : DValue) : Option Bool :=
  (bif decide (a0.Kind < 0) then (some true) else (some (decide (9 < a0.Kind)))).bind fun b2 => bif b2 then (some false) else (bif decide (a0.Kind = 5) then ((bif decide (a0.N = 0) then (some (decide ((a0.S.size : Int) ≤ 65536))) else (some false)).bind fun b5 => some b5) else (bif !(a0.S.toList == (⟨#[]⟩ : ByteArray).toList) then (some false) else (bif decide (a0.Kind = 2) then ((bif decide (a0.N = 0) then (some true) else (some (decide (a0.N = 1)))).bind fun b8 => some b8) else (bif decide (a0.Kind = 3) then ((bif decide ((-9007199254740992) ≤ a0.N) then (some (decide (a0.N ≤ 9007199254740992))) else (some false)).bind fun b10 => some b10) else ((bif decide (a0.Kind = 6) then (some true) else (some (decide (a0.Kind = 7)))).bind fun b11 => (bif b11 then (some true) else (some (decide (a0.Kind = 9)))).bind fun b12 => bif b12 then (some (decide (1 ≤ a0.N))) else (some (decide (a0.N = 0))))))))
theorem pantomimeref15_May_ok {N : Nat} {a0 : DValue} {r : Bool} (h : pantomimeref15_May_O N a0 = some r) : Okc Try.prog 84 [.agg #[.int .i64 a0.Kind, .int .i64 a0.N, .string a0.S]] ([]) (fun (u : Value) (post : List Chunk) => u = .bool r ∧ post = []) := by
  refine ok_E Try.func84 rfl rfl ?_
  simp only [envOf]
  refine G_seq ?_
  refine G_region ?_
  refine G_opd (op_box rfl rfl) rfl rfl rfl ?_
  rintro _ _ ⟨B1, rfl, rfl⟩
  refine G_ev (ev_assign rfl) rfl rfl rfl ?_
  refine G_nil ?_
  refine nx_n ?_
  refine G_seq ?_
  refine G_seq ?_
  refine G_region ?_
  refine G_ev (ev_fa0 rfl fa_38_0) rfl rfl rfl ?_
  refine G_rd (rd_box1 0 rfl rfl one3 rfl) rfl rfl rfl ?_
  refine G_ev (ev_lt rfl rfl) rfl rfl rfl ?_
  refine G_ev (ev_move rfl) rfl rfl rfl ?_
  obtain ⟨b2, hb2, h⟩ := bind_elim h
  refine G_segb 4 10 b2 ?_ ?_
  · clear h
    refine G_case 6 rfl (fun g2 => ?_) (fun g2 => ?_)
    · have h := cond_t g2 hb2
      refine G_no (g_ft g2 rfl) rfl ?_
      refine G_no (g_ft g2 rfl) rfl ?_
      refine G_no (g_ft g2 rfl) rfl ?_
      refine G_ev (ev_pick_t' g2 rfl rfl) rfl rfl rfl ?_
      obtain rfl := Option.some.inj h
      exact G_joined (sub_cons rfl (sub_skip (sub_skip (sub_skip (sub_skip sub_refl rfl) rfl) rfl) rfl)) (cv_sel [0] 1 rfl rfl)
    · have h := cond_f g2 hb2
      refine G_ev (ev_fa0 rfl fa_38_0) rfl (g_ff g2 rfl) rfl ?_
      refine G_rd (rd_box1 0 rfl rfl one3 rfl) rfl (g_ff g2 rfl) rfl ?_
      refine G_ev (ev_gt rfl rfl) rfl (g_ff g2 rfl) rfl ?_
      refine G_ev (ev_pick_f' g2 rfl rfl) rfl rfl rfl ?_
      obtain rfl := Option.some.inj h
      exact G_joined (sub_cons rfl (sub_skip (sub_skip (sub_skip (sub_skip sub_refl rfl) rfl) rfl) rfl)) (cv_sel [0] 1 rfl rfl)
  refine G_nil ?_
  refine nx_n ?_
  refine G_cond rfl (fun g3 => ?_) (fun g3 => ?_)
  · replace h := cond_t g3 h
    refine G_seq ?_
    refine G_region ?_
    refine G_ev (ev_assign rfl) rfl rfl rfl ?_
    refine G_nil ?_
    refine nx_n ?_
    refine G_ret ?_
    refine nx_r ?_
    obtain rfl := Option.some.inj h
    exact endG1 rfl rfl (cv_sel [] 1 rfl rfl) ⟨rfl, rfl⟩
  · replace h := cond_f g3 h
    refine G_skip ?_
    refine nx_n ?_
    refine G_seq ?_
    refine G_seq ?_
    refine G_region ?_
    refine G_ev (ev_fa0 rfl fa_38_0) rfl rfl rfl ?_
    refine G_rd (rd_box1 0 rfl rfl one3 rfl) rfl rfl rfl ?_
    refine G_ev (ev_eq rfl rfl) rfl rfl rfl ?_
    refine G_nil ?_
    refine nx_n ?_
    refine G_cond rfl (fun g4 => ?_) (fun g4 => ?_)
    · replace h := cond_t g4 h
      refine G_seq ?_
      refine G_region ?_
      refine G_ev (ev_fa rfl fa_38_1) rfl rfl rfl ?_
      refine G_rd (rd_box1 0 rfl rfl one3 rfl) rfl rfl rfl ?_
      refine G_ev (ev_eq rfl rfl) rfl rfl rfl ?_
      refine G_ev (ev_move rfl) rfl rfl rfl ?_
      obtain ⟨b5, hb5, h⟩ := bind_elim h
      refine G_segb 5 22 b5 ?_ ?_
      · clear h
        refine G_case 17 rfl (fun g5 => ?_) (fun g5 => ?_)
        · have h := cond_t g5 hb5
          refine G_ev (ev_fa rfl fa_38_2) rfl (g_tt g5 rfl) rfl ?_
          refine G_rd (rd_box1 0 rfl rfl one9 rfl) rfl (g_tt g5 rfl) rfl ?_
          refine G_ev (ev_lenS rfl Try.underlying9) rfl (g_tt g5 rfl) rfl ?_
          refine G_ev (ev_le rfl rfl) rfl (g_tt g5 rfl) rfl ?_
          refine G_ev (ev_pick_t' g5 rfl rfl) rfl rfl rfl ?_
          obtain rfl := Option.some.inj h
          exact G_joined (sub_cons rfl (sub_skip (sub_skip (sub_skip (sub_skip (sub_skip sub_refl rfl) rfl) rfl) rfl) rfl)) (cv_sel [0] 1 rfl rfl)
        · have h := cond_f g5 hb5
          refine G_no (g_tf g5 rfl) rfl ?_
          refine G_no (g_tf g5 rfl) rfl ?_
          refine G_no (g_tf g5 rfl) rfl ?_
          refine G_no (g_tf g5 rfl) rfl ?_
          refine G_ev (ev_pick_f' g5 rfl rfl) rfl rfl rfl ?_
          obtain rfl := Option.some.inj h
          exact G_joined (sub_cons rfl (sub_skip (sub_skip (sub_skip (sub_skip (sub_skip sub_refl rfl) rfl) rfl) rfl) rfl)) (cv_sel [0] 1 rfl rfl)
      refine G_ev (ev_assign rfl) rfl rfl rfl ?_
      refine G_nil ?_
      refine nx_n ?_
      refine G_ret ?_
      refine nx_r ?_
      obtain rfl := Option.some.inj h
      exact endG1 rfl rfl (cv_sel [] 1 rfl rfl) ⟨rfl, rfl⟩
    · replace h := cond_f g4 h
      refine G_skip ?_
      refine nx_n ?_
      refine G_seq ?_
      refine G_seq ?_
      refine G_region ?_
      refine G_ev (ev_fa rfl fa_38_2) rfl rfl rfl ?_
      refine G_rd (rd_box1 0 rfl rfl one9 rfl) rfl rfl rfl ?_
      refine G_ev (ev_strne rfl rfl) rfl rfl rfl ?_
      refine G_nil ?_
      refine nx_n ?_
      refine G_cond rfl (fun g6 => ?_) (fun g6 => ?_)
      · replace h := cond_t g6 h
        refine G_seq ?_
        refine G_region ?_
        refine G_ev (ev_assign rfl) rfl rfl rfl ?_
        refine G_nil ?_
        refine nx_n ?_
        refine G_ret ?_
        refine nx_r ?_
        obtain rfl := Option.some.inj h
        exact endG1 rfl rfl (cv_sel [] 1 rfl rfl) ⟨rfl, rfl⟩
      · replace h := cond_f g6 h
        refine G_skip ?_
        refine nx_n ?_
        refine G_seq ?_
        refine G_seq ?_
        refine G_region ?_
        refine G_ev (ev_fa0 rfl fa_38_0) rfl rfl rfl ?_
        refine G_rd (rd_box1 0 rfl rfl one3 rfl) rfl rfl rfl ?_
        refine G_ev (ev_eq rfl rfl) rfl rfl rfl ?_
        refine G_nil ?_
        refine nx_n ?_
        refine G_cond rfl (fun g7 => ?_) (fun g7 => ?_)
        · replace h := cond_t g7 h
          refine G_seq ?_
          refine G_region ?_
          refine G_ev (ev_fa rfl fa_38_1) rfl rfl rfl ?_
          refine G_rd (rd_box1 0 rfl rfl one3 rfl) rfl rfl rfl ?_
          refine G_ev (ev_eq rfl rfl) rfl rfl rfl ?_
          refine G_ev (ev_move rfl) rfl rfl rfl ?_
          obtain ⟨b8, hb8, h⟩ := bind_elim h
          refine G_segb 4 36 b8 ?_ ?_
          · clear h
            refine G_case 32 rfl (fun g8 => ?_) (fun g8 => ?_)
            · have h := cond_t g8 hb8
              refine G_no (g_ft g8 rfl) rfl ?_
              refine G_no (g_ft g8 rfl) rfl ?_
              refine G_no (g_ft g8 rfl) rfl ?_
              refine G_ev (ev_pick_t' g8 rfl rfl) rfl rfl rfl ?_
              obtain rfl := Option.some.inj h
              exact G_joined (sub_cons rfl (sub_skip (sub_skip (sub_skip (sub_skip sub_refl rfl) rfl) rfl) rfl)) (cv_sel [0] 1 rfl rfl)
            · have h := cond_f g8 hb8
              refine G_ev (ev_fa rfl fa_38_1) rfl (g_ff g8 rfl) rfl ?_
              refine G_rd (rd_box1 0 rfl rfl one3 rfl) rfl (g_ff g8 rfl) rfl ?_
              refine G_ev (ev_eq rfl rfl) rfl (g_ff g8 rfl) rfl ?_
              refine G_ev (ev_pick_f' g8 rfl rfl) rfl rfl rfl ?_
              obtain rfl := Option.some.inj h
              exact G_joined (sub_cons rfl (sub_skip (sub_skip (sub_skip (sub_skip sub_refl rfl) rfl) rfl) rfl)) (cv_sel [0] 1 rfl rfl)
          refine G_ev (ev_assign rfl) rfl rfl rfl ?_
          refine G_nil ?_
          refine nx_n ?_
          refine G_ret ?_
          refine nx_r ?_
          obtain rfl := Option.some.inj h
          exact endG1 rfl rfl (cv_sel [] 1 rfl rfl) ⟨rfl, rfl⟩
        · replace h := cond_f g7 h
          refine G_skip ?_
          refine nx_n ?_
          refine G_seq ?_
          refine G_seq ?_
          refine G_region ?_
          refine G_ev (ev_fa0 rfl fa_38_0) rfl rfl rfl ?_
          refine G_rd (rd_box1 0 rfl rfl one3 rfl) rfl rfl rfl ?_
          refine G_ev (ev_eq rfl rfl) rfl rfl rfl ?_
          refine G_nil ?_
          refine nx_n ?_
          refine G_cond rfl (fun g9 => ?_) (fun g9 => ?_)
          · replace h := cond_t g9 h
            refine G_seq ?_
            refine G_region ?_
            refine G_ev (ev_fa rfl fa_38_1) rfl rfl rfl ?_
            refine G_rd (rd_box1 0 rfl rfl one3 rfl) rfl rfl rfl ?_
            refine G_ev (ev_ge rfl rfl) rfl rfl rfl ?_
            refine G_ev (ev_move rfl) rfl rfl rfl ?_
            obtain ⟨b10, hb10, h⟩ := bind_elim h
            refine G_segb 4 47 b10 ?_ ?_
            · clear h
              refine G_case 43 rfl (fun g10 => ?_) (fun g10 => ?_)
              · have h := cond_t g10 hb10
                refine G_ev (ev_fa rfl fa_38_1) rfl (g_tt g10 rfl) rfl ?_
                refine G_rd (rd_box1 0 rfl rfl one3 rfl) rfl (g_tt g10 rfl) rfl ?_
                refine G_ev (ev_le rfl rfl) rfl (g_tt g10 rfl) rfl ?_
                refine G_ev (ev_pick_t' g10 rfl rfl) rfl rfl rfl ?_
                obtain rfl := Option.some.inj h
                exact G_joined (sub_cons rfl (sub_skip (sub_skip (sub_skip (sub_skip sub_refl rfl) rfl) rfl) rfl)) (cv_sel [0] 1 rfl rfl)
              · have h := cond_f g10 hb10
                refine G_no (g_tf g10 rfl) rfl ?_
                refine G_no (g_tf g10 rfl) rfl ?_
                refine G_no (g_tf g10 rfl) rfl ?_
                refine G_ev (ev_pick_f' g10 rfl rfl) rfl rfl rfl ?_
                obtain rfl := Option.some.inj h
                exact G_joined (sub_cons rfl (sub_skip (sub_skip (sub_skip (sub_skip sub_refl rfl) rfl) rfl) rfl)) (cv_sel [0] 1 rfl rfl)
            refine G_ev (ev_assign rfl) rfl rfl rfl ?_
            refine G_nil ?_
            refine nx_n ?_
            refine G_ret ?_
            refine nx_r ?_
            obtain rfl := Option.some.inj h
            exact endG1 rfl rfl (cv_sel [] 1 rfl rfl) ⟨rfl, rfl⟩
          · replace h := cond_f g9 h
            refine G_skip ?_
            refine nx_n ?_
            refine G_seq ?_
            refine G_seq ?_
            refine G_region ?_
            refine G_ev (ev_fa0 rfl fa_38_0) rfl rfl rfl ?_
            refine G_rd (rd_box1 0 rfl rfl one3 rfl) rfl rfl rfl ?_
            refine G_ev (ev_eq rfl rfl) rfl rfl rfl ?_
            refine G_ev (ev_move rfl) rfl rfl rfl ?_
            obtain ⟨b11, hb11, h⟩ := bind_elim h
            refine G_segb 4 55 b11 ?_ ?_
            · clear h
              refine G_case 51 rfl (fun g11 => ?_) (fun g11 => ?_)
              · have h := cond_t g11 hb11
                refine G_no (g_ft g11 rfl) rfl ?_
                refine G_no (g_ft g11 rfl) rfl ?_
                refine G_no (g_ft g11 rfl) rfl ?_
                refine G_ev (ev_pick_t' g11 rfl rfl) rfl rfl rfl ?_
                obtain rfl := Option.some.inj h
                exact G_joined (sub_cons rfl (sub_skip (sub_skip (sub_skip (sub_skip sub_refl rfl) rfl) rfl) rfl)) (cv_sel [0] 1 rfl rfl)
              · have h := cond_f g11 hb11
                refine G_ev (ev_fa0 rfl fa_38_0) rfl (g_ff g11 rfl) rfl ?_
                refine G_rd (rd_box1 0 rfl rfl one3 rfl) rfl (g_ff g11 rfl) rfl ?_
                refine G_ev (ev_eq rfl rfl) rfl (g_ff g11 rfl) rfl ?_
                refine G_ev (ev_pick_f' g11 rfl rfl) rfl rfl rfl ?_
                obtain rfl := Option.some.inj h
                exact G_joined (sub_cons rfl (sub_skip (sub_skip (sub_skip (sub_skip sub_refl rfl) rfl) rfl) rfl)) (cv_sel [0] 1 rfl rfl)
            refine G_ev (ev_move rfl) rfl rfl rfl ?_
            obtain ⟨b12, hb12, h⟩ := bind_elim h
            refine G_segb 4 60 b12 ?_ ?_
            · clear h
              refine G_case 56 rfl (fun g12 => ?_) (fun g12 => ?_)
              · have h := cond_t g12 hb12
                refine G_no (g_ft g12 rfl) rfl ?_
                refine G_no (g_ft g12 rfl) rfl ?_
                refine G_no (g_ft g12 rfl) rfl ?_
                refine G_ev (ev_pick_t' g12 rfl rfl) rfl rfl rfl ?_
                obtain rfl := Option.some.inj h
                exact G_joined (sub_cons rfl (sub_skip (sub_skip (sub_skip (sub_skip sub_refl rfl) rfl) rfl) rfl)) (cv_sel [0] 1 rfl rfl)
              · have h := cond_f g12 hb12
                refine G_ev (ev_fa0 rfl fa_38_0) rfl (g_ff g12 rfl) rfl ?_
                refine G_rd (rd_box1 0 rfl rfl one3 rfl) rfl (g_ff g12 rfl) rfl ?_
                refine G_ev (ev_eq rfl rfl) rfl (g_ff g12 rfl) rfl ?_
                refine G_ev (ev_pick_f' g12 rfl rfl) rfl rfl rfl ?_
                obtain rfl := Option.some.inj h
                exact G_joined (sub_cons rfl (sub_skip (sub_skip (sub_skip (sub_skip sub_refl rfl) rfl) rfl) rfl)) (cv_sel [0] 1 rfl rfl)
            refine G_nil ?_
            refine nx_n ?_
            refine G_cond rfl (fun g13 => ?_) (fun g13 => ?_)
            · replace h := cond_t g13 h
              refine G_seq ?_
              refine G_region ?_
              refine G_ev (ev_fa rfl fa_38_1) rfl rfl rfl ?_
              refine G_rd (rd_box1 0 rfl rfl one3 rfl) rfl rfl rfl ?_
              refine G_ev (ev_ge rfl rfl) rfl rfl rfl ?_
              refine G_ev (ev_assign rfl) rfl rfl rfl ?_
              refine G_nil ?_
              refine nx_n ?_
              refine G_ret ?_
              refine nx_r ?_
              obtain rfl := Option.some.inj h
              exact endG1 rfl rfl (cv_sel [] 1 rfl rfl) ⟨rfl, rfl⟩
            · replace h := cond_f g13 h
              refine G_skip ?_
              refine nx_n ?_
              refine G_seq ?_
              refine G_region ?_
              refine G_ev (ev_fa rfl fa_38_1) rfl rfl rfl ?_
              refine G_rd (rd_box1 0 rfl rfl one3 rfl) rfl rfl rfl ?_
              refine G_ev (ev_eq rfl rfl) rfl rfl rfl ?_
              refine G_ev (ev_assign rfl) rfl rfl rfl ?_
              refine G_nil ?_
              refine nx_n ?_
              refine G_ret ?_
              obtain rfl := Option.some.inj h
              exact endG1 rfl rfl (cv_sel [] 1 rfl rfl) ⟨rfl, rfl⟩
theorem pantomimeref15_May_free {r : Bool} : ∀ v post, ((fun (u : Value) (post : List Chunk) => u = .bool r ∧ post = [])) v post → ∀ c ∈ post, Free c := by
  rintro _ _ ⟨rfl, rfl⟩; exact mem_nil
/-! pantomime/pantomimeref15.Props -/
def pantomimeref15_Props_O (N : Nat) (a0 : Int) : Option Bool :=
  (bif decide (a0 = 1) then (some true) else (some (decide (a0 = 2)))).bind fun b1 => (bif b1 then (some true) else (some (decide (a0 = 3)))).bind fun b2 => (bif b2 then (some true) else (some (decide (a0 = 6)))).bind fun b3 => (bif b3 then (some true) else (some (decide (a0 = 8)))).bind fun b4 => (bif b4 then (some true) else (some (decide (a0 = 9)))).bind fun b5 => (bif b5 then (some true) else (some (decide (a0 = 10)))).bind fun b6 => some b6
theorem pantomimeref15_Props_ok {N : Nat} {a0 : Int} {r : Bool} (h : pantomimeref15_Props_O N a0 = some r) : Okc Try.prog 119 [.int .i64 a0] ([]) (fun (u : Value) (post : List Chunk) => u = .bool r ∧ post = []) := by
  refine ok_E Try.func119 rfl rfl ?_
  simp only [envOf]
  refine G_seq ?_
  refine G_region ?_
  refine G_ev (ev_assign rfl) rfl rfl rfl ?_
  refine G_nil ?_
  refine nx_n ?_
  refine G_seq ?_
  refine G_region ?_
  refine G_ev (ev_move rfl) rfl rfl rfl ?_
  refine G_ev (ev_eq rfl rfl) rfl rfl rfl ?_
  refine G_ev (ev_move rfl) rfl rfl rfl ?_
  obtain ⟨b1, hb1, h⟩ := bind_elim h
  refine G_segb 3 8 b1 ?_ ?_
  · clear h
    refine G_case 5 rfl (fun g1 => ?_) (fun g1 => ?_)
    · have h := cond_t g1 hb1
      refine G_no (g_ft g1 rfl) rfl ?_
      refine G_no (g_ft g1 rfl) rfl ?_
      refine G_ev (ev_pick_t' g1 rfl rfl) rfl rfl rfl ?_
      obtain rfl := Option.some.inj h
      exact G_joined (sub_cons rfl (sub_skip (sub_skip (sub_skip sub_refl rfl) rfl) rfl)) (cv_sel [] 0 rfl rfl)
    · have h := cond_f g1 hb1
      refine G_ev (ev_move rfl) rfl (g_ff g1 rfl) rfl ?_
      refine G_ev (ev_eq rfl rfl) rfl (g_ff g1 rfl) rfl ?_
      refine G_ev (ev_pick_f' g1 rfl rfl) rfl rfl rfl ?_
      obtain rfl := Option.some.inj h
      exact G_joined (sub_cons rfl (sub_skip (sub_skip (sub_skip sub_refl rfl) rfl) rfl)) (cv_sel [] 0 rfl rfl)
  refine G_ev (ev_move rfl) rfl rfl rfl ?_
  obtain ⟨b2, hb2, h⟩ := bind_elim h
  refine G_segb 3 12 b2 ?_ ?_
  · clear h
    refine G_case 9 rfl (fun g2 => ?_) (fun g2 => ?_)
    · have h := cond_t g2 hb2
      refine G_no (g_ft g2 rfl) rfl ?_
      refine G_no (g_ft g2 rfl) rfl ?_
      refine G_ev (ev_pick_t' g2 rfl rfl) rfl rfl rfl ?_
      obtain rfl := Option.some.inj h
      exact G_joined (sub_cons rfl (sub_skip (sub_skip (sub_skip sub_refl rfl) rfl) rfl)) (cv_sel [] 0 rfl rfl)
    · have h := cond_f g2 hb2
      refine G_ev (ev_move rfl) rfl (g_ff g2 rfl) rfl ?_
      refine G_ev (ev_eq rfl rfl) rfl (g_ff g2 rfl) rfl ?_
      refine G_ev (ev_pick_f' g2 rfl rfl) rfl rfl rfl ?_
      obtain rfl := Option.some.inj h
      exact G_joined (sub_cons rfl (sub_skip (sub_skip (sub_skip sub_refl rfl) rfl) rfl)) (cv_sel [] 0 rfl rfl)
  refine G_ev (ev_move rfl) rfl rfl rfl ?_
  obtain ⟨b3, hb3, h⟩ := bind_elim h
  refine G_segb 3 16 b3 ?_ ?_
  · clear h
    refine G_case 13 rfl (fun g3 => ?_) (fun g3 => ?_)
    · have h := cond_t g3 hb3
      refine G_no (g_ft g3 rfl) rfl ?_
      refine G_no (g_ft g3 rfl) rfl ?_
      refine G_ev (ev_pick_t' g3 rfl rfl) rfl rfl rfl ?_
      obtain rfl := Option.some.inj h
      exact G_joined (sub_cons rfl (sub_skip (sub_skip (sub_skip sub_refl rfl) rfl) rfl)) (cv_sel [] 0 rfl rfl)
    · have h := cond_f g3 hb3
      refine G_ev (ev_move rfl) rfl (g_ff g3 rfl) rfl ?_
      refine G_ev (ev_eq rfl rfl) rfl (g_ff g3 rfl) rfl ?_
      refine G_ev (ev_pick_f' g3 rfl rfl) rfl rfl rfl ?_
      obtain rfl := Option.some.inj h
      exact G_joined (sub_cons rfl (sub_skip (sub_skip (sub_skip sub_refl rfl) rfl) rfl)) (cv_sel [] 0 rfl rfl)
  refine G_ev (ev_move rfl) rfl rfl rfl ?_
  obtain ⟨b4, hb4, h⟩ := bind_elim h
  refine G_segb 3 20 b4 ?_ ?_
  · clear h
    refine G_case 17 rfl (fun g4 => ?_) (fun g4 => ?_)
    · have h := cond_t g4 hb4
      refine G_no (g_ft g4 rfl) rfl ?_
      refine G_no (g_ft g4 rfl) rfl ?_
      refine G_ev (ev_pick_t' g4 rfl rfl) rfl rfl rfl ?_
      obtain rfl := Option.some.inj h
      exact G_joined (sub_cons rfl (sub_skip (sub_skip (sub_skip sub_refl rfl) rfl) rfl)) (cv_sel [] 0 rfl rfl)
    · have h := cond_f g4 hb4
      refine G_ev (ev_move rfl) rfl (g_ff g4 rfl) rfl ?_
      refine G_ev (ev_eq rfl rfl) rfl (g_ff g4 rfl) rfl ?_
      refine G_ev (ev_pick_f' g4 rfl rfl) rfl rfl rfl ?_
      obtain rfl := Option.some.inj h
      exact G_joined (sub_cons rfl (sub_skip (sub_skip (sub_skip sub_refl rfl) rfl) rfl)) (cv_sel [] 0 rfl rfl)
  refine G_ev (ev_move rfl) rfl rfl rfl ?_
  obtain ⟨b5, hb5, h⟩ := bind_elim h
  refine G_segb 3 24 b5 ?_ ?_
  · clear h
    refine G_case 21 rfl (fun g5 => ?_) (fun g5 => ?_)
    · have h := cond_t g5 hb5
      refine G_no (g_ft g5 rfl) rfl ?_
      refine G_no (g_ft g5 rfl) rfl ?_
      refine G_ev (ev_pick_t' g5 rfl rfl) rfl rfl rfl ?_
      obtain rfl := Option.some.inj h
      exact G_joined (sub_cons rfl (sub_skip (sub_skip (sub_skip sub_refl rfl) rfl) rfl)) (cv_sel [] 0 rfl rfl)
    · have h := cond_f g5 hb5
      refine G_ev (ev_move rfl) rfl (g_ff g5 rfl) rfl ?_
      refine G_ev (ev_eq rfl rfl) rfl (g_ff g5 rfl) rfl ?_
      refine G_ev (ev_pick_f' g5 rfl rfl) rfl rfl rfl ?_
      obtain rfl := Option.some.inj h
      exact G_joined (sub_cons rfl (sub_skip (sub_skip (sub_skip sub_refl rfl) rfl) rfl)) (cv_sel [] 0 rfl rfl)
  refine G_ev (ev_move rfl) rfl rfl rfl ?_
  obtain ⟨b6, hb6, h⟩ := bind_elim h
  refine G_segb 3 28 b6 ?_ ?_
  · clear h
    refine G_case 25 rfl (fun g6 => ?_) (fun g6 => ?_)
    · have h := cond_t g6 hb6
      refine G_no (g_ft g6 rfl) rfl ?_
      refine G_no (g_ft g6 rfl) rfl ?_
      refine G_ev (ev_pick_t' g6 rfl rfl) rfl rfl rfl ?_
      obtain rfl := Option.some.inj h
      exact G_joined (sub_cons rfl (sub_skip (sub_skip (sub_skip sub_refl rfl) rfl) rfl)) (cv_sel [] 0 rfl rfl)
    · have h := cond_f g6 hb6
      refine G_ev (ev_move rfl) rfl (g_ff g6 rfl) rfl ?_
      refine G_ev (ev_eq rfl rfl) rfl (g_ff g6 rfl) rfl ?_
      refine G_ev (ev_pick_f' g6 rfl rfl) rfl rfl rfl ?_
      obtain rfl := Option.some.inj h
      exact G_joined (sub_cons rfl (sub_skip (sub_skip (sub_skip sub_refl rfl) rfl) rfl)) (cv_sel [] 0 rfl rfl)
  refine G_ev (ev_assign rfl) rfl rfl rfl ?_
  refine G_nil ?_
  refine nx_n ?_
  refine G_ret ?_
  obtain rfl := Option.some.inj h
  exact endG1 rfl rfl (cv_sel [] 0 rfl rfl) ⟨rfl, rfl⟩
theorem pantomimeref15_Props_free {r : Bool} : ∀ v post, ((fun (u : Value) (post : List Chunk) => u = .bool r ∧ post = [])) v post → ∀ c ∈ post, Free c := by
  rintro _ _ ⟨rfl, rfl⟩; exact mem_nil
/-! pantomime/pantomimeref15.none -/
def pantomimeref15_none_O (N : Nat) (a0 : DValue) (a1 : Int) : Option Bool :=
  (bif decide (a0.Kind = 0) then (some true) else (some (decide (a0.Kind = a1)))).bind fun b2 => some b2
theorem pantomimeref15_none_ok {N : Nat} {a0 : DValue} {a1 : Int} {r : Bool} (h : pantomimeref15_none_O N a0 a1 = some r) : Okc Try.prog 120 [.agg #[.int .i64 a0.Kind, .int .i64 a0.N, .string a0.S], .int .i64 a1] ([]) (fun (u : Value) (post : List Chunk) => u = .bool r ∧ post = []) := by
  refine ok_E Try.func120 rfl rfl ?_
  simp only [envOf]
  refine G_seq ?_
  refine G_region ?_
  refine G_opd (op_box rfl rfl) rfl rfl rfl ?_
  rintro _ _ ⟨B1, rfl, rfl⟩
  refine G_ev (ev_assign rfl) rfl rfl rfl ?_
  refine G_nil ?_
  refine nx_n ?_
  refine G_seq ?_
  refine G_region ?_
  refine G_ev (ev_fa0 rfl fa_38_0) rfl rfl rfl ?_
  refine G_rd (rd_box1 0 rfl rfl one3 rfl) rfl rfl rfl ?_
  refine G_ev (ev_eq rfl rfl) rfl rfl rfl ?_
  refine G_ev (ev_move rfl) rfl rfl rfl ?_
  obtain ⟨b2, hb2, h⟩ := bind_elim h
  refine G_segb 5 13 b2 ?_ ?_
  · clear h
    refine G_case 8 rfl (fun g2 => ?_) (fun g2 => ?_)
    · have h := cond_t g2 hb2
      refine G_no (g_ft g2 rfl) rfl ?_
      refine G_no (g_ft g2 rfl) rfl ?_
      refine G_no (g_ft g2 rfl) rfl ?_
      refine G_no (g_ft g2 rfl) rfl ?_
      refine G_ev (ev_pick_t' g2 rfl rfl) rfl rfl rfl ?_
      obtain rfl := Option.some.inj h
      exact G_joined (sub_cons rfl (sub_skip (sub_skip (sub_skip (sub_skip (sub_skip sub_refl rfl) rfl) rfl) rfl) rfl)) (cv_sel [0] 1 rfl rfl)
    · have h := cond_f g2 hb2
      refine G_ev (ev_fa0 rfl fa_38_0) rfl (g_ff g2 rfl) rfl ?_
      refine G_rd (rd_box1 0 rfl rfl one3 rfl) rfl (g_ff g2 rfl) rfl ?_
      refine G_ev (ev_move rfl) rfl (g_ff g2 rfl) rfl ?_
      refine G_ev (ev_eq rfl rfl) rfl (g_ff g2 rfl) rfl ?_
      refine G_ev (ev_pick_f' g2 rfl rfl) rfl rfl rfl ?_
      obtain rfl := Option.some.inj h
      exact G_joined (sub_cons rfl (sub_skip (sub_skip (sub_skip (sub_skip (sub_skip sub_refl rfl) rfl) rfl) rfl) rfl)) (cv_sel [0] 1 rfl rfl)
  refine G_ev (ev_assign rfl) rfl rfl rfl ?_
  refine G_nil ?_
  refine nx_n ?_
  refine G_ret ?_
  obtain rfl := Option.some.inj h
  exact endG1 rfl rfl (cv_sel [] 1 rfl rfl) ⟨rfl, rfl⟩
theorem pantomimeref15_none_free {r : Bool} : ∀ v post, ((fun (u : Value) (post : List Chunk) => u = .bool r ∧ post = [])) v post → ∀ c ∈ post, Free c := by
  rintro _ _ ⟨rfl, rfl⟩; exact mem_nil
/-! pantomime/pantomimeref15.slots -/
def pantomimeref15_slots_O (N : Nat) (a0 : DCell) : Option Bool :=
  (pantomimeref15_Props_O N a0.Kind).bind fun y4 => (bif y4 then (some true) else ((bif decide (a0.Kind = 7) then (some (decide (0 < (a0.Slots.length : Int)))) else (some false)).bind fun b6 => some b6)).bind fun b5 => bif b5 then ((bif decide (1 ≤ (a0.Slots.length : Int)) then (some (decide ((a0.Slots.length : Int) ≤ 1025))) else (some false)).bind fun b8 => (bif b8 then ((getE a0.Slots 0).bind fun x10 => (bif decide (x10.Kind = 1) then (some true) else ((getE a0.Slots 0).bind fun x12 => some (decide (x12.Kind = 7)))).bind fun b11 => some b11) else (some false)).bind fun b9 => some b9) else (bif decide (a0.Kind = 7) then (some (decide (a0.Shape = 0))) else ((bif !decide (a0.Shape = 0) then (some true) else (some (!decide (a0.Flags = 0)))).bind fun b14 => bif b14 then (some false) else (bif decide (a0.Kind = 5) then ((bif decide ((a0.Slots.length : Int) = 2) then ((getE a0.Slots 0).bind fun x18 => (pantomimeref15_none_O N x18 7).bind fun y19 => some y19) else (some false)).bind fun b17 => (bif b17 then ((getE a0.Slots 1).bind fun x21 => (pantomimeref15_none_O N x21 7).bind fun y22 => some y22) else (some false)).bind fun b20 => some b20) else (some (decide ((a0.Slots.length : Int) = 0))))))
theorem pantomimeref15_slots_ok {N : Nat} {a0 : DCell} {r : Bool} (h : pantomimeref15_slots_O N a0 = some r) {A1 : Option Addr} {n1 c1 : Nat} {A2 : Option Addr} {n2 c2 : Nat} : Okc Try.prog 85 [.agg #[.int .i64 a0.Kind, .int .i64 a0.Shape, .int .i64 a0.Flags, .int .i64 a0.Age, .slice A1 n1 c1, .slice A2 n2 c2]] ([slC rDValue (.slice A1 n1 c1) a0.Slots, slC rDValue (.slice A2 n2 c2) a0.More]) (fun (u : Value) (post : List Chunk) => u = .bool r ∧ post = []) := by
  refine ok_E Try.func85 rfl rfl ?_
  simp only [envOf]
  refine G_seq ?_
  refine G_region ?_
  refine G_opd (op_box rfl rfl) rfl rfl rfl ?_
  rintro _ _ ⟨B3, rfl, rfl⟩
  refine G_ev (ev_assign rfl) rfl rfl rfl ?_
  refine G_nil ?_
  refine nx_n ?_
  refine G_seq ?_
  refine G_seq ?_
  refine G_region ?_
  refine G_ev (ev_fa0 rfl fa_42_0) rfl rfl rfl ?_
  refine G_rd (rd_box1 0 rfl rfl one3 rfl) rfl rfl rfl ?_
  obtain ⟨y4, hy4, h⟩ := bind_elim h
  refine G_opd (op_callR (pantomimeref15_Props_ok hy4) call119 rfl (mem_nil) pantomimeref15_Props_free) rfl rfl rfl ?_
  rintro _ _ ⟨_, ⟨rfl, rfl⟩, rfl⟩
  refine G_ev (ev_move rfl) rfl rfl rfl ?_
  obtain ⟨b5, hb5, h⟩ := bind_elim h
  refine G_segb 10 16 b5 ?_ ?_
  · clear h
    refine G_case 6 rfl (fun g5 => ?_) (fun g5 => ?_)
    · have h := cond_t g5 hb5
      refine G_no (g_ft g5 rfl) rfl ?_
      refine G_no (g_ft g5 rfl) rfl ?_
      refine G_no (g_ft g5 rfl) rfl ?_
      refine G_no (g_ft g5 rfl) rfl ?_
      refine G_no rfl rfl ?_
      refine G_no rfl rfl ?_
      refine G_no rfl rfl ?_
      refine G_no rfl rfl ?_
      refine G_no (g_ft g5 rfl) rfl ?_
      refine G_ev (ev_pick_t' g5 rfl rfl) rfl rfl rfl ?_
      obtain rfl := Option.some.inj h
      exact G_joined (sub_cons rfl (sub_skip (sub_skip (sub_skip (sub_skip (sub_skip (sub_skip (sub_skip (sub_skip (sub_skip (sub_skip sub_refl rfl) rfl) rfl) rfl) rfl) rfl) rfl) rfl) rfl) rfl)) (cv_sel [0, 1, 2] 3 rfl rfl)
    · have h := cond_f g5 hb5
      refine G_ev (ev_fa0 rfl fa_42_0) rfl (g_ff g5 rfl) rfl ?_
      refine G_rd (rd_box1 0 rfl rfl one3 rfl) rfl (g_ff g5 rfl) rfl ?_
      refine G_ev (ev_eq rfl rfl) rfl (g_ff g5 rfl) rfl ?_
      refine G_ev (ev_move rfl) rfl (g_ff g5 rfl) rfl ?_
      obtain ⟨b6, hb6, h⟩ := bind_elim h
      refine G_segb 5 15 b6 ?_ ?_
      · clear h
        refine G_case 10 rfl (fun g6 => ?_) (fun g6 => ?_)
        · have h := cond_t g6 hb6
          refine G_ev (ev_fa rfl fa_42_4) rfl (g_tt g6 rfl) rfl ?_
          refine G_rd (rd_box1 0 rfl rfl one25 rfl) rfl (g_tt g6 rfl) rfl ?_
          refine G_rd (rd_len 1 rfl els_sl rfl Try.underlying25) rfl (g_tt g6 rfl) rfl ?_
          refine G_ev (ev_gt rfl rfl) rfl (g_tt g6 rfl) rfl ?_
          refine G_ev (ev_pick_t' g6 rfl rfl) rfl (g_ff g5 rfl) rfl ?_
          obtain rfl := Option.some.inj h
          exact G_joined (sub_cons rfl (sub_skip (sub_skip (sub_skip (sub_skip (sub_skip sub_refl rfl) rfl) rfl) rfl) rfl)) (cv_sel [0, 1, 2] 3 rfl rfl)
        · have h := cond_f g6 hb6
          refine G_no (g_tf g6 rfl) rfl ?_
          refine G_no (g_tf g6 rfl) rfl ?_
          refine G_no (g_tf g6 rfl) rfl ?_
          refine G_no (g_tf g6 rfl) rfl ?_
          refine G_ev (ev_pick_f' g6 rfl rfl) rfl (g_ff g5 rfl) rfl ?_
          obtain rfl := Option.some.inj h
          exact G_joined (sub_cons rfl (sub_skip (sub_skip (sub_skip (sub_skip (sub_skip sub_refl rfl) rfl) rfl) rfl) rfl)) (cv_sel [0, 1, 2] 3 rfl rfl)
      refine G_ev (ev_pick_f' g5 rfl rfl) rfl rfl rfl ?_
      obtain rfl := Option.some.inj h
      exact G_joined (sub_cons rfl (sub_skip (sub_skip (sub_skip (sub_skip (sub_skip (sub_skip sub_refl rfl) rfl) rfl) rfl) rfl) rfl)) (cv_sel [0, 1, 2] 3 rfl rfl)
  refine G_nil ?_
  refine nx_n ?_
  refine G_cond rfl (fun g7 => ?_) (fun g7 => ?_)
  · replace h := cond_t g7 h
    refine G_seq ?_
    refine G_region ?_
    refine G_ev (ev_fa rfl fa_42_4) rfl rfl rfl ?_
    refine G_rd (rd_box1 0 rfl rfl one25 rfl) rfl rfl rfl ?_
    refine G_rd (rd_len 1 rfl els_sl rfl Try.underlying25) rfl rfl rfl ?_
    refine G_ev (ev_ge rfl rfl) rfl rfl rfl ?_
    refine G_ev (ev_move rfl) rfl rfl rfl ?_
    obtain ⟨b8, hb8, h⟩ := bind_elim h
    refine G_segb 5 26 b8 ?_ ?_
    · clear h
      refine G_case 21 rfl (fun g8 => ?_) (fun g8 => ?_)
      · have h := cond_t g8 hb8
        refine G_ev (ev_fa rfl fa_42_4) rfl (g_tt g8 rfl) rfl ?_
        refine G_rd (rd_box1 0 rfl rfl one25 rfl) rfl (g_tt g8 rfl) rfl ?_
        refine G_rd (rd_len 1 rfl els_sl rfl Try.underlying25) rfl (g_tt g8 rfl) rfl ?_
        refine G_ev (ev_le rfl rfl) rfl (g_tt g8 rfl) rfl ?_
        refine G_ev (ev_pick_t' g8 rfl rfl) rfl rfl rfl ?_
        obtain rfl := Option.some.inj h
        exact G_joined (sub_cons rfl (sub_skip (sub_skip (sub_skip (sub_skip (sub_skip sub_refl rfl) rfl) rfl) rfl) rfl)) (cv_sel [0, 1, 2] 3 rfl rfl)
      · have h := cond_f g8 hb8
        refine G_no (g_tf g8 rfl) rfl ?_
        refine G_no (g_tf g8 rfl) rfl ?_
        refine G_no (g_tf g8 rfl) rfl ?_
        refine G_no (g_tf g8 rfl) rfl ?_
        refine G_ev (ev_pick_f' g8 rfl rfl) rfl rfl rfl ?_
        obtain rfl := Option.some.inj h
        exact G_joined (sub_cons rfl (sub_skip (sub_skip (sub_skip (sub_skip (sub_skip sub_refl rfl) rfl) rfl) rfl) rfl)) (cv_sel [0, 1, 2] 3 rfl rfl)
    refine G_ev (ev_move rfl) rfl rfl rfl ?_
    obtain ⟨b9, hb9, h⟩ := bind_elim h
    refine G_segb 15 42 b9 ?_ ?_
    · clear h
      refine G_case 27 rfl (fun g9 => ?_) (fun g9 => ?_)
      · have h := cond_t g9 hb9
        refine G_ev (ev_fa rfl fa_42_4) rfl (g_tt g9 rfl) rfl ?_
        refine G_rd (rd_box1 0 rfl rfl one25 rfl) rfl (g_tt g9 rfl) rfl ?_
        obtain ⟨x10, hx10, h⟩ := bind_elim h
        obtain ⟨lx10, ux10, hx10⟩ := getE_elim hx10
        refine G_rd (rd_idx 1 rfl els_sl rfl rfl Try.underlying25 size38 lx10 ux10) rfl (g_tt g9 rfl) rfl ?_
        refine G_rd (rd_fa0 1 rfl els_sl rfl (toNat_lt lx10 ux10) fa_38_0) rfl (g_tt g9 rfl) rfl ?_
        refine G_rd (rd_elem1 (u := .int .i64 x10.Kind) 1 rfl els_sl rfl hx10 one3 (fun _ _ _ h => by rw [show _ = _ from h]; rfl)) rfl (g_tt g9 rfl) rfl ?_
        refine G_ev (ev_eq rfl rfl) rfl (g_tt g9 rfl) rfl ?_
        refine G_ev (ev_move rfl) rfl (g_tt g9 rfl) rfl ?_
        obtain ⟨b11, hb11, h⟩ := bind_elim h
        refine G_segb 7 41 b11 ?_ ?_
        · clear h
          refine G_case 34 rfl (fun g11 => ?_) (fun g11 => ?_)
          · have h := cond_t g11 hb11
            refine G_no (g_ft g11 rfl) rfl ?_
            refine G_no (g_ft g11 rfl) rfl ?_
            refine G_no (g_ft g11 rfl) rfl ?_
            refine G_no (g_ft g11 rfl) rfl ?_
            refine G_no (g_ft g11 rfl) rfl ?_
            refine G_no (g_ft g11 rfl) rfl ?_
            refine G_ev (ev_pick_t' g11 rfl rfl) rfl (g_tt g9 rfl) rfl ?_
            obtain rfl := Option.some.inj h
            exact G_joined (sub_cons rfl (sub_skip (sub_skip (sub_skip (sub_skip (sub_skip (sub_skip (sub_skip sub_refl rfl) rfl) rfl) rfl) rfl) rfl) rfl)) (cv_sel [0, 1, 2] 3 rfl rfl)
          · have h := cond_f g11 hb11
            refine G_ev (ev_fa rfl fa_42_4) rfl (g_ff g11 rfl) rfl ?_
            refine G_rd (rd_box1 0 rfl rfl one25 rfl) rfl (g_ff g11 rfl) rfl ?_
            obtain ⟨x12, hx12, h⟩ := bind_elim h
            obtain ⟨lx12, ux12, hx12⟩ := getE_elim hx12
            refine G_rd (rd_idx 1 rfl els_sl rfl rfl Try.underlying25 size38 lx12 ux12) rfl (g_ff g11 rfl) rfl ?_
            refine G_rd (rd_fa0 1 rfl els_sl rfl (toNat_lt lx12 ux12) fa_38_0) rfl (g_ff g11 rfl) rfl ?_
            refine G_rd (rd_elem1 (u := .int .i64 x12.Kind) 1 rfl els_sl rfl hx12 one3 (fun _ _ _ h => by rw [show _ = _ from h]; rfl)) rfl (g_ff g11 rfl) rfl ?_
            refine G_ev (ev_eq rfl rfl) rfl (g_ff g11 rfl) rfl ?_
            refine G_ev (ev_pick_f' g11 rfl rfl) rfl (g_tt g9 rfl) rfl ?_
            obtain rfl := Option.some.inj h
            exact G_joined (sub_cons rfl (sub_skip (sub_skip (sub_skip (sub_skip (sub_skip (sub_skip (sub_skip sub_refl rfl) rfl) rfl) rfl) rfl) rfl) rfl)) (cv_sel [0, 1, 2] 3 rfl rfl)
        refine G_ev (ev_pick_t' g9 rfl rfl) rfl rfl rfl ?_
        obtain rfl := Option.some.inj h
        exact G_joined (sub_cons rfl (sub_skip (sub_skip (sub_skip (sub_skip (sub_skip (sub_skip (sub_skip (sub_skip (sub_skip sub_refl rfl) rfl) rfl) rfl) rfl) rfl) rfl) rfl) rfl)) (cv_sel [0, 1, 2] 3 rfl rfl)
      · have h := cond_f g9 hb9
        refine G_no (g_tf g9 rfl) rfl ?_
        refine G_no (g_tf g9 rfl) rfl ?_
        refine G_no (g_tf g9 rfl) rfl ?_
        refine G_no (g_tf g9 rfl) rfl ?_
        refine G_no (g_tf g9 rfl) rfl ?_
        refine G_no (g_tf g9 rfl) rfl ?_
        refine G_no (g_tf g9 rfl) rfl ?_
        refine G_no rfl rfl ?_
        refine G_no rfl rfl ?_
        refine G_no rfl rfl ?_
        refine G_no rfl rfl ?_
        refine G_no rfl rfl ?_
        refine G_no rfl rfl ?_
        refine G_no (g_tf g9 rfl) rfl ?_
        refine G_ev (ev_pick_f' g9 rfl rfl) rfl rfl rfl ?_
        obtain rfl := Option.some.inj h
        exact G_joined (sub_cons rfl (sub_skip (sub_skip (sub_skip (sub_skip (sub_skip (sub_skip (sub_skip (sub_skip (sub_skip (sub_skip (sub_skip (sub_skip (sub_skip (sub_skip (sub_skip sub_refl rfl) rfl) rfl) rfl) rfl) rfl) rfl) rfl) rfl) rfl) rfl) rfl) rfl) rfl) rfl)) (cv_sel [0, 1, 2] 3 rfl rfl)
    refine G_ev (ev_assign rfl) rfl rfl rfl ?_
    refine G_nil ?_
    refine nx_n ?_
    refine G_ret ?_
    refine nx_r ?_
    obtain rfl := Option.some.inj h
    exact endG1 rfl rfl (cv_sel [] 3 rfl rfl) ⟨rfl, rfl⟩
  · replace h := cond_f g7 h
    refine G_skip ?_
    refine nx_n ?_
    refine G_seq ?_
    refine G_seq ?_
    refine G_region ?_
    refine G_ev (ev_fa0 rfl fa_42_0) rfl rfl rfl ?_
    refine G_rd (rd_box1 0 rfl rfl one3 rfl) rfl rfl rfl ?_
    refine G_ev (ev_eq rfl rfl) rfl rfl rfl ?_
    refine G_nil ?_
    refine nx_n ?_
    refine G_cond rfl (fun g13 => ?_) (fun g13 => ?_)
    · replace h := cond_t g13 h
      refine G_seq ?_
      refine G_region ?_
      refine G_ev (ev_fa rfl fa_42_1) rfl rfl rfl ?_
      refine G_rd (rd_box1 0 rfl rfl one3 rfl) rfl rfl rfl ?_
      refine G_ev (ev_eq rfl rfl) rfl rfl rfl ?_
      refine G_ev (ev_assign rfl) rfl rfl rfl ?_
      refine G_nil ?_
      refine nx_n ?_
      refine G_ret ?_
      refine nx_r ?_
      obtain rfl := Option.some.inj h
      exact endG1 rfl rfl (cv_sel [] 3 rfl rfl) ⟨rfl, rfl⟩
    · replace h := cond_f g13 h
      refine G_skip ?_
      refine nx_n ?_
      refine G_seq ?_
      refine G_seq ?_
      refine G_region ?_
      refine G_ev (ev_fa rfl fa_42_1) rfl rfl rfl ?_
      refine G_rd (rd_box1 0 rfl rfl one3 rfl) rfl rfl rfl ?_
      refine G_ev (ev_ne rfl rfl) rfl rfl rfl ?_
      refine G_ev (ev_move rfl) rfl rfl rfl ?_
      obtain ⟨b14, hb14, h⟩ := bind_elim h
      refine G_segb 4 56 b14 ?_ ?_
      · clear h
        refine G_case 52 rfl (fun g14 => ?_) (fun g14 => ?_)
        · have h := cond_t g14 hb14
          refine G_no (g_ft g14 rfl) rfl ?_
          refine G_no (g_ft g14 rfl) rfl ?_
          refine G_no (g_ft g14 rfl) rfl ?_
          refine G_ev (ev_pick_t' g14 rfl rfl) rfl rfl rfl ?_
          obtain rfl := Option.some.inj h
          exact G_joined (sub_cons rfl (sub_skip (sub_skip (sub_skip (sub_skip sub_refl rfl) rfl) rfl) rfl)) (cv_sel [0, 1, 2] 3 rfl rfl)
        · have h := cond_f g14 hb14
          refine G_ev (ev_fa rfl fa_42_2) rfl (g_ff g14 rfl) rfl ?_
          refine G_rd (rd_box1 0 rfl rfl one3 rfl) rfl (g_ff g14 rfl) rfl ?_
          refine G_ev (ev_ne rfl rfl) rfl (g_ff g14 rfl) rfl ?_
          refine G_ev (ev_pick_f' g14 rfl rfl) rfl rfl rfl ?_
          obtain rfl := Option.some.inj h
          exact G_joined (sub_cons rfl (sub_skip (sub_skip (sub_skip (sub_skip sub_refl rfl) rfl) rfl) rfl)) (cv_sel [0, 1, 2] 3 rfl rfl)
      refine G_nil ?_
      refine nx_n ?_
      refine G_cond rfl (fun g15 => ?_) (fun g15 => ?_)
      · replace h := cond_t g15 h
        refine G_seq ?_
        refine G_region ?_
        refine G_ev (ev_assign rfl) rfl rfl rfl ?_
        refine G_nil ?_
        refine nx_n ?_
        refine G_ret ?_
        refine nx_r ?_
        obtain rfl := Option.some.inj h
        exact endG1 rfl rfl (cv_sel [] 3 rfl rfl) ⟨rfl, rfl⟩
      · replace h := cond_f g15 h
        refine G_skip ?_
        refine nx_n ?_
        refine G_seq ?_
        refine G_seq ?_
        refine G_region ?_
        refine G_ev (ev_fa0 rfl fa_42_0) rfl rfl rfl ?_
        refine G_rd (rd_box1 0 rfl rfl one3 rfl) rfl rfl rfl ?_
        refine G_ev (ev_eq rfl rfl) rfl rfl rfl ?_
        refine G_nil ?_
        refine nx_n ?_
        refine G_cond rfl (fun g16 => ?_) (fun g16 => ?_)
        · replace h := cond_t g16 h
          refine G_seq ?_
          refine G_region ?_
          refine G_ev (ev_fa rfl fa_42_4) rfl rfl rfl ?_
          refine G_rd (rd_box1 0 rfl rfl one25 rfl) rfl rfl rfl ?_
          refine G_rd (rd_len 1 rfl els_sl rfl Try.underlying25) rfl rfl rfl ?_
          refine G_ev (ev_eq rfl rfl) rfl rfl rfl ?_
          refine G_ev (ev_move rfl) rfl rfl rfl ?_
          obtain ⟨b17, hb17, h⟩ := bind_elim h
          refine G_segb 6 70 b17 ?_ ?_
          · clear h
            refine G_case 64 rfl (fun g17 => ?_) (fun g17 => ?_)
            · have h := cond_t g17 hb17
              refine G_ev (ev_fa rfl fa_42_4) rfl (g_tt g17 rfl) rfl ?_
              refine G_rd (rd_box1 0 rfl rfl one25 rfl) rfl (g_tt g17 rfl) rfl ?_
              obtain ⟨x18, hx18, h⟩ := bind_elim h
              obtain ⟨lx18, ux18, hx18⟩ := getE_elim hx18
              refine G_rd (rd_idx 1 rfl els_sl rfl rfl Try.underlying25 size38 lx18 ux18) rfl (g_tt g17 rfl) rfl ?_
              refine G_rd (rd_elemS (us := [.int .i64 x18.Kind, .int .i64 x18.N, .string x18.S]) 1 rfl els_sl rfl hx18 agg38 (fun _ _ _ h => by rw [show _ = _ from h]; rfl)) rfl (g_tt g17 rfl) rfl ?_
              obtain ⟨y19, hy19, h⟩ := bind_elim h
              refine G_opd (op_callR (pantomimeref15_none_ok hy19) call120 rfl (mem_nil) pantomimeref15_none_free) rfl (g_tt g17 rfl) rfl ?_
              rintro _ _ ⟨_, ⟨rfl, rfl⟩, rfl⟩
              refine G_ev (ev_pick_t' g17 rfl rfl) rfl rfl rfl ?_
              obtain rfl := Option.some.inj h
              exact G_joined (sub_cons rfl (sub_skip (sub_skip (sub_skip (sub_skip (sub_skip (sub_skip sub_refl rfl) rfl) rfl) rfl) rfl) rfl)) (cv_sel [0, 1, 2] 3 rfl rfl)
            · have h := cond_f g17 hb17
              refine G_no (g_tf g17 rfl) rfl ?_
              refine G_no (g_tf g17 rfl) rfl ?_
              refine G_no (g_tf g17 rfl) rfl ?_
              refine G_no (g_tf g17 rfl) rfl ?_
              refine G_no (g_tf g17 rfl) rfl ?_
              refine G_ev (ev_pick_f' g17 rfl rfl) rfl rfl rfl ?_
              obtain rfl := Option.some.inj h
              exact G_joined (sub_cons rfl (sub_skip (sub_skip (sub_skip (sub_skip (sub_skip (sub_skip sub_refl rfl) rfl) rfl) rfl) rfl) rfl)) (cv_sel [0, 1, 2] 3 rfl rfl)
          refine G_ev (ev_move rfl) rfl rfl rfl ?_
          obtain ⟨b20, hb20, h⟩ := bind_elim h
          refine G_segb 6 77 b20 ?_ ?_
          · clear h
            refine G_case 71 rfl (fun g20 => ?_) (fun g20 => ?_)
            · have h := cond_t g20 hb20
              refine G_ev (ev_fa rfl fa_42_4) rfl (g_tt g20 rfl) rfl ?_
              refine G_rd (rd_box1 0 rfl rfl one25 rfl) rfl (g_tt g20 rfl) rfl ?_
              obtain ⟨x21, hx21, h⟩ := bind_elim h
              obtain ⟨lx21, ux21, hx21⟩ := getE_elim hx21
              refine G_rd (rd_idx 1 rfl els_sl rfl rfl Try.underlying25 size38 lx21 ux21) rfl (g_tt g20 rfl) rfl ?_
              refine G_rd (rd_elemS (us := [.int .i64 x21.Kind, .int .i64 x21.N, .string x21.S]) 1 rfl els_sl rfl hx21 agg38 (fun _ _ _ h => by rw [show _ = _ from h]; rfl)) rfl (g_tt g20 rfl) rfl ?_
              obtain ⟨y22, hy22, h⟩ := bind_elim h
              refine G_opd (op_callR (pantomimeref15_none_ok hy22) call120 rfl (mem_nil) pantomimeref15_none_free) rfl (g_tt g20 rfl) rfl ?_
              rintro _ _ ⟨_, ⟨rfl, rfl⟩, rfl⟩
              refine G_ev (ev_pick_t' g20 rfl rfl) rfl rfl rfl ?_
              obtain rfl := Option.some.inj h
              exact G_joined (sub_cons rfl (sub_skip (sub_skip (sub_skip (sub_skip (sub_skip (sub_skip sub_refl rfl) rfl) rfl) rfl) rfl) rfl)) (cv_sel [0, 1, 2] 3 rfl rfl)
            · have h := cond_f g20 hb20
              refine G_no (g_tf g20 rfl) rfl ?_
              refine G_no (g_tf g20 rfl) rfl ?_
              refine G_no (g_tf g20 rfl) rfl ?_
              refine G_no (g_tf g20 rfl) rfl ?_
              refine G_no (g_tf g20 rfl) rfl ?_
              refine G_ev (ev_pick_f' g20 rfl rfl) rfl rfl rfl ?_
              obtain rfl := Option.some.inj h
              exact G_joined (sub_cons rfl (sub_skip (sub_skip (sub_skip (sub_skip (sub_skip (sub_skip sub_refl rfl) rfl) rfl) rfl) rfl) rfl)) (cv_sel [0, 1, 2] 3 rfl rfl)
          refine G_ev (ev_assign rfl) rfl rfl rfl ?_
          refine G_nil ?_
          refine nx_n ?_
          refine G_ret ?_
          refine nx_r ?_
          obtain rfl := Option.some.inj h
          exact endG1 rfl rfl (cv_sel [] 3 rfl rfl) ⟨rfl, rfl⟩
        · replace h := cond_f g16 h
          refine G_skip ?_
          refine nx_n ?_
          refine G_seq ?_
          refine G_region ?_
          refine G_ev (ev_fa rfl fa_42_4) rfl rfl rfl ?_
          refine G_rd (rd_box1 0 rfl rfl one25 rfl) rfl rfl rfl ?_
          refine G_rd (rd_len 1 rfl els_sl rfl Try.underlying25) rfl rfl rfl ?_
          refine G_ev (ev_eq rfl rfl) rfl rfl rfl ?_
          refine G_ev (ev_assign rfl) rfl rfl rfl ?_
          refine G_nil ?_
          refine nx_n ?_
          refine G_ret ?_
          obtain rfl := Option.some.inj h
          exact endG1 rfl rfl (cv_sel [] 3 rfl rfl) ⟨rfl, rfl⟩
theorem pantomimeref15_slots_free {r : Bool} : ∀ v post, ((fun (u : Value) (post : List Chunk) => u = .bool r ∧ post = [])) v post → ∀ c ∈ post, Free c := by
  rintro _ _ ⟨rfl, rfl⟩; exact mem_nil
/-! pantomime/pantomimeref15.num -/
def pantomimeref15_num_O (N : Nat) (a0 : DValue) (a1 : Int) (a2 : Int) : Option Bool :=
  (bif decide (a0.Kind = 3) then (some (decide (a1 ≤ a0.N))) else (some false)).bind fun b2 => (bif b2 then (some (decide (a0.N ≤ a2))) else (some false)).bind fun b3 => some b3
theorem pantomimeref15_num_ok {N : Nat} {a0 : DValue} {a1 : Int} {a2 : Int} {r : Bool} (h : pantomimeref15_num_O N a0 a1 a2 = some r) : Okc Try.prog 121 [.agg #[.int .i64 a0.Kind, .int .i64 a0.N, .string a0.S], .int .i64 a1, .int .i64 a2] ([]) (fun (u : Value) (post : List Chunk) => u = .bool r ∧ post = []) := by
  refine ok_E Try.func121 rfl rfl ?_
  simp only [envOf]
  refine G_seq ?_
  refine G_region ?_
  refine G_opd (op_box rfl rfl) rfl rfl rfl ?_
  rintro _ _ ⟨B1, rfl, rfl⟩
  refine G_ev (ev_assign rfl) rfl rfl rfl ?_
  refine G_nil ?_
  refine nx_n ?_
  refine G_seq ?_
  refine G_region ?_
  refine G_ev (ev_fa0 rfl fa_38_0) rfl rfl rfl ?_
  refine G_rd (rd_box1 0 rfl rfl one3 rfl) rfl rfl rfl ?_
  refine G_ev (ev_eq rfl rfl) rfl rfl rfl ?_
  refine G_ev (ev_move rfl) rfl rfl rfl ?_
  obtain ⟨b2, hb2, h⟩ := bind_elim h
  refine G_segb 5 15 b2 ?_ ?_
  · clear h
    refine G_case 10 rfl (fun g2 => ?_) (fun g2 => ?_)
    · have h := cond_t g2 hb2
      refine G_ev (ev_fa rfl fa_38_1) rfl (g_tt g2 rfl) rfl ?_
      refine G_rd (rd_box1 0 rfl rfl one3 rfl) rfl (g_tt g2 rfl) rfl ?_
      refine G_ev (ev_move rfl) rfl (g_tt g2 rfl) rfl ?_
      refine G_ev (ev_ge rfl rfl) rfl (g_tt g2 rfl) rfl ?_
      refine G_ev (ev_pick_t' g2 rfl rfl) rfl rfl rfl ?_
      obtain rfl := Option.some.inj h
      exact G_joined (sub_cons rfl (sub_skip (sub_skip (sub_skip (sub_skip (sub_skip sub_refl rfl) rfl) rfl) rfl) rfl)) (cv_sel [0] 1 rfl rfl)
    · have h := cond_f g2 hb2
      refine G_no (g_tf g2 rfl) rfl ?_
      refine G_no (g_tf g2 rfl) rfl ?_
      refine G_no (g_tf g2 rfl) rfl ?_
      refine G_no (g_tf g2 rfl) rfl ?_
      refine G_ev (ev_pick_f' g2 rfl rfl) rfl rfl rfl ?_
      obtain rfl := Option.some.inj h
      exact G_joined (sub_cons rfl (sub_skip (sub_skip (sub_skip (sub_skip (sub_skip sub_refl rfl) rfl) rfl) rfl) rfl)) (cv_sel [0] 1 rfl rfl)
  refine G_ev (ev_move rfl) rfl rfl rfl ?_
  obtain ⟨b3, hb3, h⟩ := bind_elim h
  refine G_segb 5 21 b3 ?_ ?_
  · clear h
    refine G_case 16 rfl (fun g3 => ?_) (fun g3 => ?_)
    · have h := cond_t g3 hb3
      refine G_ev (ev_fa rfl fa_38_1) rfl (g_tt g3 rfl) rfl ?_
      refine G_rd (rd_box1 0 rfl rfl one3 rfl) rfl (g_tt g3 rfl) rfl ?_
      refine G_ev (ev_move rfl) rfl (g_tt g3 rfl) rfl ?_
      refine G_ev (ev_le rfl rfl) rfl (g_tt g3 rfl) rfl ?_
      refine G_ev (ev_pick_t' g3 rfl rfl) rfl rfl rfl ?_
      obtain rfl := Option.some.inj h
      exact G_joined (sub_cons rfl (sub_skip (sub_skip (sub_skip (sub_skip (sub_skip sub_refl rfl) rfl) rfl) rfl) rfl)) (cv_sel [0] 1 rfl rfl)
    · have h := cond_f g3 hb3
      refine G_no (g_tf g3 rfl) rfl ?_
      refine G_no (g_tf g3 rfl) rfl ?_
      refine G_no (g_tf g3 rfl) rfl ?_
      refine G_no (g_tf g3 rfl) rfl ?_
      refine G_ev (ev_pick_f' g3 rfl rfl) rfl rfl rfl ?_
      obtain rfl := Option.some.inj h
      exact G_joined (sub_cons rfl (sub_skip (sub_skip (sub_skip (sub_skip (sub_skip sub_refl rfl) rfl) rfl) rfl) rfl)) (cv_sel [0] 1 rfl rfl)
  refine G_ev (ev_assign rfl) rfl rfl rfl ?_
  refine G_nil ?_
  refine nx_n ?_
  refine G_ret ?_
  obtain rfl := Option.some.inj h
  exact endG1 rfl rfl (cv_sel [] 1 rfl rfl) ⟨rfl, rfl⟩
theorem pantomimeref15_num_free {r : Bool} : ∀ v post, ((fun (u : Value) (post : List Chunk) => u = .bool r ∧ post = [])) v post → ∀ c ∈ post, Free c := by
  rintro _ _ ⟨rfl, rfl⟩; exact mem_nil
/-! pantomime/pantomimeref15.entries -/
def pantomimeref15_entries_j4 (N : Nat) : Option Bool :=
  some true
def pantomimeref15_entries_l5 (N : Nat) (a1 : Int) (a0 : (List DValue)) : Nat → Int → Option Bool
  | 0, _ => none
  | m5 + 1, p6 => bif decide (p6 < (a0.length : Int)) then ((getE a0 p6).bind fun x8 => (bif !decide (x8.Kind = 7) then (some true) else (req (in64 (p6 + 1)) ((getE a0 (p6 + 1)).bind fun x11 => some (decide (x11.Kind = 8))))).bind fun b9 => bif b9 then (some false) else ((bif decide (a1 = 4) then (req (in64 (p6 + 2)) ((getE a0 (p6 + 2)).bind fun x15 => (pantomimeref15_none_O N x15 7).bind fun y16 => (bif !y16 then (some true) else (req (in64 (p6 + 3)) ((getE a0 (p6 + 3)).bind fun x19 => (pantomimeref15_num_O N x19 0 9007199254740992).bind fun y20 => some (!y20)))).bind fun b17 => some b17)) else (some false)).bind fun b13 => bif b13 then (some false) else (req (in64 (p6 + a1)) ((pantomimeref15_entries_l5 N a1 a0 m5) (p6 + a1))))) else (pantomimeref15_entries_j4 N)
theorem pantomimeref15_entries_l5_s {N m5 : Nat} {a1 : Int} {a0 : (List DValue)} {p6 : Int} : pantomimeref15_entries_l5 N a1 a0 (m5 + 1) p6 = bif decide (p6 < (a0.length : Int)) then ((getE a0 p6).bind fun x8 => (bif !decide (x8.Kind = 7) then (some true) else (req (in64 (p6 + 1)) ((getE a0 (p6 + 1)).bind fun x11 => some (decide (x11.Kind = 8))))).bind fun b9 => bif b9 then (some false) else ((bif decide (a1 = 4) then (req (in64 (p6 + 2)) ((getE a0 (p6 + 2)).bind fun x15 => (pantomimeref15_none_O N x15 7).bind fun y16 => (bif !y16 then (some true) else (req (in64 (p6 + 3)) ((getE a0 (p6 + 3)).bind fun x19 => (pantomimeref15_num_O N x19 0 9007199254740992).bind fun y20 => some (!y20)))).bind fun b17 => some b17)) else (some false)).bind fun b13 => bif b13 then (some false) else (req (in64 (p6 + a1)) ((pantomimeref15_entries_l5 N a1 a0 m5) (p6 + a1))))) else (pantomimeref15_entries_j4 N) := rfl
def pantomimeref15_entries_O (N : Nat) (a0 : (List DValue)) (a1 : Int) : Option Bool :=
  req (a1 ≠ 0) (bif !decide ((a0.length : Int).tmod a1 = 0) then (some false) else (pantomimeref15_entries_l5 N a1 a0 N 0))
theorem pantomimeref15_entries_ok {N : Nat} {a0 : (List DValue)} {a1 : Int} {r : Bool} (h : pantomimeref15_entries_O N a0 a1 = some r) {A1 : Option Addr} {n1 c1 : Nat} : Okc Try.prog 122 [.slice A1 n1 c1, .int .i64 a1] ([slC rDValue (.slice A1 n1 c1) a0]) (fun (u : Value) (post : List Chunk) => u = .bool r ∧ post = []) := by
  refine ok_E Try.func122 rfl rfl ?_
  simp only [envOf]
  refine G_seq ?_
  refine G_region ?_
  refine G_ev (ev_assign rfl) rfl rfl rfl ?_
  refine G_nil ?_
  refine nx_n ?_
  refine G_seq ?_
  refine G_seq ?_
  refine G_region ?_
  refine G_ev (ev_move rfl) rfl rfl rfl ?_
  refine G_rd (rd_len 0 rfl els_sl rfl Try.underlying25) rfl rfl rfl ?_
  refine G_ev (ev_move rfl) rfl rfl rfl ?_
  obtain ⟨q2, h⟩ := req_elim h
  refine G_ev (ev_rem rfl rfl q2) rfl rfl rfl ?_
  refine G_ev (ev_ne rfl rfl) rfl rfl rfl ?_
  refine G_nil ?_
  refine nx_n ?_
  refine G_cond rfl (fun g3 => ?_) (fun g3 => ?_)
  · replace h := cond_t g3 h
    refine G_seq ?_
    refine G_region ?_
    refine G_ev (ev_assign rfl) rfl rfl rfl ?_
    refine G_nil ?_
    refine nx_n ?_
    refine G_ret ?_
    refine nx_r ?_
    obtain rfl := Option.some.inj h
    exact endG1 rfl rfl (cv_sel [] 1 rfl rfl) ⟨rfl, rfl⟩
  · replace h := cond_f g3 h
    refine G_skip ?_
    refine nx_n ?_
    refine G_joinF (fun s L => pantomimeref15_entries_j4 N = some r ∧ s = [(4, .bool false)] ∧ L = []) ?_ ?_
    · refine G_seq ?_
      refine G_region ?_
      refine G_ev (ev_assign rfl) rfl rfl rfl ?_
      refine G_nil ?_
      refine nx_n ?_
      refine G_block ?_
      refine G_loopF (fun m s L => ∃ (p6 : Int), pantomimeref15_entries_l5 N a1 a0 m p6 = some r ∧ s = [(0, .slice A1 n1 c1), (1, .int .i64 a1), (4, .bool false), (5, .int .i64 p6)] ∧ L = [slC rDValue (.slice A1 n1 c1) a0]) N _ _ ⟨0, h, rfl, rfl⟩ (sub_cons rfl (sub_cons rfl (sub_cons rfl (sub_cons rfl sub_nil)))) (cv_sel [0] 1 rfl rfl) ?_
      rintro (_ | m5) _ _ ⟨p6, h, rfl, rfl⟩
      · exact none_some h
      rw [pantomimeref15_entries_l5_s] at h
      refine G_seq ?_
      refine G_seq ?_
      refine G_region ?_
      refine G_ev (ev_move rfl) rfl rfl rfl ?_
      refine G_ev (ev_move rfl) rfl rfl rfl ?_
      refine G_rd (rd_len 0 rfl els_sl rfl Try.underlying25) rfl rfl rfl ?_
      refine G_ev (ev_lt rfl rfl) rfl rfl rfl ?_
      refine G_nil ?_
      refine nx_n ?_
      refine G_cond rfl (fun g7 => ?_) (fun g7 => ?_)
      · replace h := cond_t g7 h
        refine G_skip ?_
        refine nx_n ?_
        refine G_seq ?_
        refine G_block ?_
        refine G_seq ?_
        refine G_seq ?_
        refine G_region ?_
        refine G_ev (ev_move rfl) rfl rfl rfl ?_
        refine G_ev (ev_move rfl) rfl rfl rfl ?_
        obtain ⟨x8, hx8, h⟩ := bind_elim h
        obtain ⟨lx8, ux8, hx8⟩ := getE_elim hx8
        refine G_rd (rd_idx 0 rfl els_sl rfl rfl Try.underlying25 size38 lx8 ux8) rfl rfl rfl ?_
        refine G_rd (rd_fa0 0 rfl els_sl rfl (toNat_lt lx8 ux8) fa_38_0) rfl rfl rfl ?_
        refine G_rd (rd_elem1 (u := .int .i64 x8.Kind) 0 rfl els_sl rfl hx8 one3 (fun _ _ _ h => by rw [show _ = _ from h]; rfl)) rfl rfl rfl ?_
        refine G_ev (ev_ne rfl rfl) rfl rfl rfl ?_
        refine G_ev (ev_move rfl) rfl rfl rfl ?_
        obtain ⟨b9, hb9, h⟩ := bind_elim h
        refine G_segb 8 32 b9 ?_ ?_
        · clear h
          refine G_case 24 rfl (fun g9 => ?_) (fun g9 => ?_)
          · have h := cond_t g9 hb9
            refine G_no (g_ft g9 rfl) rfl ?_
            refine G_no (g_ft g9 rfl) rfl ?_
            refine G_no (g_ft g9 rfl) rfl ?_
            refine G_no (g_ft g9 rfl) rfl ?_
            refine G_no (g_ft g9 rfl) rfl ?_
            refine G_no (g_ft g9 rfl) rfl ?_
            refine G_no (g_ft g9 rfl) rfl ?_
            refine G_ev (ev_pick_t' g9 rfl rfl) rfl rfl rfl ?_
            obtain rfl := Option.some.inj h
            exact G_joined (sub_cons rfl (sub_skip (sub_skip (sub_skip (sub_skip (sub_skip (sub_skip (sub_skip (sub_skip sub_refl rfl) rfl) rfl) rfl) rfl) rfl) rfl) rfl)) (cv_sel [0] 1 rfl rfl)
          · have h := cond_f g9 hb9
            refine G_ev (ev_move rfl) rfl (g_ff g9 rfl) rfl ?_
            refine G_ev (ev_move rfl) rfl (g_ff g9 rfl) rfl ?_
            obtain ⟨q10, h⟩ := req_elim h
            refine G_ev (ev_add rfl rfl q10.1 q10.2) rfl (g_ff g9 rfl) rfl ?_
            obtain ⟨x11, hx11, h⟩ := bind_elim h
            obtain ⟨lx11, ux11, hx11⟩ := getE_elim hx11
            refine G_rd (rd_idx 0 rfl els_sl rfl rfl Try.underlying25 size38 lx11 ux11) rfl (g_ff g9 rfl) rfl ?_
            refine G_rd (rd_fa0 0 rfl els_sl rfl (toNat_lt lx11 ux11) fa_38_0) rfl (g_ff g9 rfl) rfl ?_
            refine G_rd (rd_elem1 (u := .int .i64 x11.Kind) 0 rfl els_sl rfl hx11 one3 (fun _ _ _ h => by rw [show _ = _ from h]; rfl)) rfl (g_ff g9 rfl) rfl ?_
            refine G_ev (ev_eq rfl rfl) rfl (g_ff g9 rfl) rfl ?_
            refine G_ev (ev_pick_f' g9 rfl rfl) rfl rfl rfl ?_
            obtain rfl := Option.some.inj h
            exact G_joined (sub_cons rfl (sub_skip (sub_skip (sub_skip (sub_skip (sub_skip (sub_skip (sub_skip (sub_skip sub_refl rfl) rfl) rfl) rfl) rfl) rfl) rfl) rfl)) (cv_sel [0] 1 rfl rfl)
        refine G_nil ?_
        refine nx_n ?_
        refine G_cond rfl (fun g12 => ?_) (fun g12 => ?_)
        · replace h := cond_t g12 h
          refine G_seq ?_
          refine G_region ?_
          refine G_ev (ev_assign rfl) rfl rfl rfl ?_
          refine G_nil ?_
          refine nx_n ?_
          refine G_ret ?_
          refine nx_r ?_
          refine bk_r ?_
          refine nx_r ?_
          refine nx_r ?_
          refine bk_r ?_
          refine nx_r ?_
          obtain rfl := Option.some.inj h
          exact endG1 rfl rfl (cv_sel [] 1 rfl rfl) ⟨rfl, rfl⟩
        · replace h := cond_f g12 h
          refine G_skip ?_
          refine nx_n ?_
          refine G_seq ?_
          refine G_region ?_
          refine G_ev (ev_move rfl) rfl rfl rfl ?_
          refine G_ev (ev_eq rfl rfl) rfl rfl rfl ?_
          refine G_ev (ev_move rfl) rfl rfl rfl ?_
          obtain ⟨b13, hb13, h⟩ := bind_elim h
          refine G_segb 17 52 b13 ?_ ?_
          · clear h
            refine G_case 35 rfl (fun g13 => ?_) (fun g13 => ?_)
            · have h := cond_t g13 hb13
              refine G_ev (ev_move rfl) rfl (g_tt g13 rfl) rfl ?_
              refine G_ev (ev_move rfl) rfl (g_tt g13 rfl) rfl ?_
              obtain ⟨q14, h⟩ := req_elim h
              refine G_ev (ev_add rfl rfl q14.1 q14.2) rfl (g_tt g13 rfl) rfl ?_
              obtain ⟨x15, hx15, h⟩ := bind_elim h
              obtain ⟨lx15, ux15, hx15⟩ := getE_elim hx15
              refine G_rd (rd_idx 0 rfl els_sl rfl rfl Try.underlying25 size38 lx15 ux15) rfl (g_tt g13 rfl) rfl ?_
              refine G_rd (rd_elemS (us := [.int .i64 x15.Kind, .int .i64 x15.N, .string x15.S]) 0 rfl els_sl rfl hx15 agg38 (fun _ _ _ h => by rw [show _ = _ from h]; rfl)) rfl (g_tt g13 rfl) rfl ?_
              obtain ⟨y16, hy16, h⟩ := bind_elim h
              refine G_opd (op_callR (pantomimeref15_none_ok hy16) call120 rfl (mem_nil) pantomimeref15_none_free) rfl (g_tt g13 rfl) rfl ?_
              rintro _ _ ⟨_, ⟨rfl, rfl⟩, rfl⟩
              refine G_ev (ev_not rfl) rfl (g_tt g13 rfl) rfl ?_
              refine G_ev (ev_move rfl) rfl (g_tt g13 rfl) rfl ?_
              obtain ⟨b17, hb17, h⟩ := bind_elim h
              refine G_segb 8 51 b17 ?_ ?_
              · clear h
                refine G_case 43 rfl (fun g17 => ?_) (fun g17 => ?_)
                · have h := cond_t g17 hb17
                  refine G_no (g_ft g17 rfl) rfl ?_
                  refine G_no (g_ft g17 rfl) rfl ?_
                  refine G_no (g_ft g17 rfl) rfl ?_
                  refine G_no (g_ft g17 rfl) rfl ?_
                  refine G_no (g_ft g17 rfl) rfl ?_
                  refine G_no (g_ft g17 rfl) rfl ?_
                  refine G_no (g_ft g17 rfl) rfl ?_
                  refine G_ev (ev_pick_t' g17 rfl rfl) rfl (g_tt g13 rfl) rfl ?_
                  obtain rfl := Option.some.inj h
                  exact G_joined (sub_cons rfl (sub_skip (sub_skip (sub_skip (sub_skip (sub_skip (sub_skip (sub_skip (sub_skip sub_refl rfl) rfl) rfl) rfl) rfl) rfl) rfl) rfl)) (cv_sel [0] 1 rfl rfl)
                · have h := cond_f g17 hb17
                  refine G_ev (ev_move rfl) rfl (g_ff g17 rfl) rfl ?_
                  refine G_ev (ev_move rfl) rfl (g_ff g17 rfl) rfl ?_
                  obtain ⟨q18, h⟩ := req_elim h
                  refine G_ev (ev_add rfl rfl q18.1 q18.2) rfl (g_ff g17 rfl) rfl ?_
                  obtain ⟨x19, hx19, h⟩ := bind_elim h
                  obtain ⟨lx19, ux19, hx19⟩ := getE_elim hx19
                  refine G_rd (rd_idx 0 rfl els_sl rfl rfl Try.underlying25 size38 lx19 ux19) rfl (g_ff g17 rfl) rfl ?_
                  refine G_rd (rd_elemS (us := [.int .i64 x19.Kind, .int .i64 x19.N, .string x19.S]) 0 rfl els_sl rfl hx19 agg38 (fun _ _ _ h => by rw [show _ = _ from h]; rfl)) rfl (g_ff g17 rfl) rfl ?_
                  obtain ⟨y20, hy20, h⟩ := bind_elim h
                  refine G_opd (op_callR (pantomimeref15_num_ok hy20) call121 rfl (mem_nil) pantomimeref15_num_free) rfl (g_ff g17 rfl) rfl ?_
                  rintro _ _ ⟨_, ⟨rfl, rfl⟩, rfl⟩
                  refine G_ev (ev_not rfl) rfl (g_ff g17 rfl) rfl ?_
                  refine G_ev (ev_pick_f' g17 rfl rfl) rfl (g_tt g13 rfl) rfl ?_
                  obtain rfl := Option.some.inj h
                  exact G_joined (sub_cons rfl (sub_skip (sub_skip (sub_skip (sub_skip (sub_skip (sub_skip (sub_skip (sub_skip sub_refl rfl) rfl) rfl) rfl) rfl) rfl) rfl) rfl)) (cv_sel [0] 1 rfl rfl)
              refine G_ev (ev_pick_t' g13 rfl rfl) rfl rfl rfl ?_
              obtain rfl := Option.some.inj h
              exact G_joined (sub_cons rfl (sub_skip (sub_skip (sub_skip (sub_skip (sub_skip (sub_skip (sub_skip (sub_skip (sub_skip (sub_skip sub_refl rfl) rfl) rfl) rfl) rfl) rfl) rfl) rfl) rfl) rfl)) (cv_sel [0] 1 rfl rfl)
            · have h := cond_f g13 hb13
              refine G_no (g_tf g13 rfl) rfl ?_
              refine G_no (g_tf g13 rfl) rfl ?_
              refine G_no (g_tf g13 rfl) rfl ?_
              refine G_no (g_tf g13 rfl) rfl ?_
              refine G_no (g_tf g13 rfl) rfl ?_
              refine G_no (g_tf g13 rfl) rfl ?_
              refine G_no (g_tf g13 rfl) rfl ?_
              refine G_no (g_tf g13 rfl) rfl ?_
              refine G_no rfl rfl ?_
              refine G_no rfl rfl ?_
              refine G_no rfl rfl ?_
              refine G_no rfl rfl ?_
              refine G_no rfl rfl ?_
              refine G_no rfl rfl ?_
              refine G_no rfl rfl ?_
              refine G_no (g_tf g13 rfl) rfl ?_
              refine G_ev (ev_pick_f' g13 rfl rfl) rfl rfl rfl ?_
              obtain rfl := Option.some.inj h
              exact G_joined (sub_cons rfl (sub_skip (sub_skip (sub_skip (sub_skip (sub_skip (sub_skip (sub_skip (sub_skip (sub_skip (sub_skip (sub_skip (sub_skip (sub_skip (sub_skip (sub_skip (sub_skip (sub_skip sub_refl rfl) rfl) rfl) rfl) rfl) rfl) rfl) rfl) rfl) rfl) rfl) rfl) rfl) rfl) rfl) rfl) rfl)) (cv_sel [0] 1 rfl rfl)
          refine G_nil ?_
          refine nx_n ?_
          refine G_cond rfl (fun g21 => ?_) (fun g21 => ?_)
          · replace h := cond_t g21 h
            refine G_seq ?_
            refine G_region ?_
            refine G_ev (ev_assign rfl) rfl rfl rfl ?_
            refine G_nil ?_
            refine nx_n ?_
            refine G_ret ?_
            refine bk_r ?_
            refine nx_r ?_
            refine nx_r ?_
            refine bk_r ?_
            refine nx_r ?_
            obtain rfl := Option.some.inj h
            exact endG1 rfl rfl (cv_sel [] 1 rfl rfl) ⟨rfl, rfl⟩
          · replace h := cond_f g21 h
            refine G_skip ?_
            refine bk_n ?_
            refine nx_n ?_
            refine G_region ?_
            refine G_ev (ev_move rfl) rfl rfl rfl ?_
            refine G_ev (ev_move rfl) rfl rfl rfl ?_
            obtain ⟨q22, h⟩ := req_elim h
            refine G_ev (ev_add rfl rfl q22.1 q22.2) rfl rfl rfl ?_
            refine G_ev (ev_assign rfl) rfl rfl rfl ?_
            refine G_nil ?_
            refine nx_n ?_
            exact ⟨m5, _, _, Nat.lt_succ_self _, ⟨p6 + a1, h, rfl, rfl⟩, sub_cons rfl (sub_cons rfl (sub_cons rfl (sub_cons rfl sub_nil))), cv_sel [0] 1 rfl rfl⟩
      · replace h := cond_f g7 h
        refine G_exit ?_
        refine nx_e ?_
        refine nx_e ?_
        refine bk_x ?_
        refine nx_n ?_
        exact ⟨_, _, ⟨h, rfl, rfl⟩, sub_cons rfl sub_nil, cv_sel [] 1 rfl rfl⟩
    · rintro _ _ ⟨h, rfl, rfl⟩
      refine G_seq ?_
      refine G_region ?_
      refine G_ev (ev_assign rfl) rfl rfl rfl ?_
      refine G_nil ?_
      refine nx_n ?_
      refine G_ret ?_
      obtain rfl := Option.some.inj h
      exact endG1 rfl rfl (cv_sel [] 0 rfl rfl) ⟨rfl, rfl⟩
theorem pantomimeref15_entries_free {r : Bool} : ∀ v post, ((fun (u : Value) (post : List Chunk) => u = .bool r ∧ post = [])) v post → ∀ c ∈ post, Free c := by
  rintro _ _ ⟨rfl, rfl⟩; exact mem_nil
/-! pantomime/pantomimeref15.more -/
def pantomimeref15_more_j6 (N : Nat) (a0 : DCell) (p7 : Bool) : Option Bool :=
  bif p7 then (some (decide ((a0.More.length : Int) = 0))) else (bif decide (a0.Kind = 3) then ((bif decide ((a0.More.length : Int) = 3) then ((getE a0.More 0).bind fun x12 => (pantomimeref15_num_O N x12 0 9007199254740992).bind fun y13 => some y13) else (some false)).bind fun b11 => (bif b11 then ((getE a0.More 1).bind fun x15 => (pantomimeref15_none_O N x15 9).bind fun y16 => some y16) else (some false)).bind fun b14 => some b14) else (bif decide (a0.Kind = 4) then ((bif decide (1 ≤ (a0.More.length : Int)) then (some (decide ((a0.More.length : Int) ≤ 4097))) else (some false)).bind fun b18 => (bif b18 then ((getE a0.More 0).bind fun x20 => (pantomimeref15_none_O N x20 9).bind fun y21 => some y21) else (some false)).bind fun b19 => some b19) else (bif decide (a0.Kind = 6) then ((bif decide ((a0.More.length : Int) = 2) then ((getE a0.More 0).bind fun x24 => (pantomimeref15_num_O N x24 0 3).bind fun y25 => some y25) else (some false)).bind fun b23 => (bif b23 then ((getE a0.More 1).bind fun x27 => (pantomimeref15_none_O N x27 9).bind fun y28 => some y28) else (some false)).bind fun b26 => some b26) else (bif decide (a0.Kind = 7) then ((bif decide (4 ≤ (a0.More.length : Int)) then ((getE a0.More 2).bind fun x31 => (pantomimeref15_num_O N x31 0 1).bind fun y32 => some y32) else (some false)).bind fun b30 => (bif b30 then ((getE a0.More 3).bind fun x34 => (pantomimeref15_num_O N x34 0 9007199254740992).bind fun y35 => some y35) else (some false)).bind fun b33 => some b33) else (bif decide (a0.Kind = 8) then ((pantomimeref15_entries_O N a0.More 2).bind fun y37 => some y37) else (bif decide (a0.Kind = 10) then ((bif decide (1 ≤ (a0.More.length : Int)) then ((getE a0.More 0).bind fun x40 => some (decide (x40.Kind = 7))) else (some false)).bind fun b39 => (bif b39 then (req ((0 : Int) ≤ 1 ∧ (1 : Int).toNat ≤ a0.More.length ∧ a0.More.length ≤ a0.More.length) ((pantomimeref15_entries_O N ((a0.More.drop ((1 : Int).toNat)).take (a0.More.length - (1 : Int).toNat)) 4).bind fun y44 => some y44)) else (some false)).bind fun b41 => some b41) else (bif decide (a0.Kind = 9) then ((bif decide (2 ≤ (a0.More.length : Int)) then ((getE a0.More 0).bind fun x47 => (pantomimeref15_num_O N x47 0 2).bind fun y48 => some y48) else (some false)).bind fun b46 => some b46) else (some true))))))))
def pantomimeref15_more_O (N : Nat) (a0 : DCell) : Option Bool :=
  bif decide (1048576 < (a0.More.length : Int)) then (some false) else (bif decide (a0.Kind = 2) then (some (decide ((a0.More.length : Int) ≤ 4096))) else (bif decide (a0.Kind = 1) then (pantomimeref15_more_j6 N a0 (decide (a0.Kind = 1))) else (pantomimeref15_more_j6 N a0 (decide (a0.Kind = 5)))))
set_option maxHeartbeats 4000000 in
theorem pantomimeref15_more_ok {N : Nat} {a0 : DCell} {r : Bool} (h : pantomimeref15_more_O N a0 = some r) {A1 : Option Addr} {n1 c1 : Nat} {A2 : Option Addr} {n2 c2 : Nat} : Okc Try.prog 86 [.agg #[.int .i64 a0.Kind, .int .i64 a0.Shape, .int .i64 a0.Flags, .int .i64 a0.Age, .slice A1 n1 c1, .slice A2 n2 c2]] ([slC rDValue (.slice A1 n1 c1) a0.Slots, slC rDValue (.slice A2 n2 c2) a0.More]) (fun (u : Value) (post : List Chunk) => u = .bool r ∧ post = []) := by
  refine ok_E Try.func86 rfl rfl ?_
  simp only [envOf]
  refine G_seq ?_
  refine G_region ?_
  refine G_opd (op_box rfl rfl) rfl rfl rfl ?_
  rintro _ _ ⟨B3, rfl, rfl⟩
  refine G_ev (ev_assign rfl) rfl rfl rfl ?_
  refine G_nil ?_
  refine nx_n ?_
  refine G_seq ?_
  refine G_region ?_
  refine G_ev (ev_fa rfl fa_42_5) rfl rfl rfl ?_
  refine G_rd (rd_box1 0 rfl rfl one25 rfl) rfl rfl rfl ?_
  refine G_ev (ev_assign rfl) rfl rfl rfl ?_
  refine G_nil ?_
  refine nx_n ?_
  refine G_seq ?_
  refine G_seq ?_
  refine G_region ?_
  refine G_ev (ev_move rfl) rfl rfl rfl ?_
  refine G_rd (rd_len 2 rfl els_sl rfl Try.underlying25) rfl rfl rfl ?_
  refine G_ev (ev_gt rfl rfl) rfl rfl rfl ?_
  refine G_nil ?_
  refine nx_n ?_
  refine G_cond rfl (fun g4 => ?_) (fun g4 => ?_)
  · replace h := cond_t g4 h
    refine G_seq ?_
    refine G_region ?_
    refine G_ev (ev_assign rfl) rfl rfl rfl ?_
    refine G_nil ?_
    refine nx_n ?_
    refine G_ret ?_
    refine nx_r ?_
    obtain rfl := Option.some.inj h
    exact endG1 rfl rfl (cv_sel [] 3 rfl rfl) ⟨rfl, rfl⟩
  · replace h := cond_f g4 h
    refine G_skip ?_
    refine nx_n ?_
    refine G_seq ?_
    refine G_seq ?_
    refine G_region ?_
    refine G_ev (ev_fa0 rfl fa_42_0) rfl rfl rfl ?_
    refine G_rd (rd_box1 0 rfl rfl one3 rfl) rfl rfl rfl ?_
    refine G_nil ?_
    refine nx_n ?_
    refine G_block ?_
    refine G_seq ?_
    refine G_region ?_
    refine G_ev (ev_eq rfl rfl) rfl rfl rfl ?_
    refine G_ev (ev_assign rfl) rfl rfl rfl ?_
    refine G_nil ?_
    refine nx_n ?_
    refine G_cond rfl (fun g5 => ?_) (fun g5 => ?_)
    · replace h := cond_t g5 h
      refine G_seq ?_
      refine G_region ?_
      refine G_ev (ev_move rfl) rfl rfl rfl ?_
      refine G_rd (rd_len 2 rfl els_sl rfl Try.underlying25) rfl rfl rfl ?_
      refine G_ev (ev_le rfl rfl) rfl rfl rfl ?_
      refine G_ev (ev_assign rfl) rfl rfl rfl ?_
      refine G_nil ?_
      refine nx_n ?_
      refine G_ret ?_
      refine bk_r ?_
      refine nx_r ?_
      obtain rfl := Option.some.inj h
      exact endG1 rfl rfl (cv_sel [] 3 rfl rfl) ⟨rfl, rfl⟩
    · replace h := cond_f g5 h
      refine G_joinF (fun s L => ∃ (p7 : Bool), pantomimeref15_more_j6 N a0 p7 = some r ∧ s = [(2, .bool false), (3, .slice A2 n2 c2), (10, .int .i64 a0.Kind), (16, .bool p7)] ∧ L = [slC rDValue (.slice A2 n2 c2) a0.More]) ?_ ?_
      · refine G_seq ?_
        refine G_region ?_
        refine G_ev (ev_eq rfl rfl) rfl rfl rfl ?_
        refine G_ev (ev_assign rfl) rfl rfl rfl ?_
        refine G_nil ?_
        refine nx_n ?_
        refine G_cond rfl (fun g8 => ?_) (fun g8 => ?_)
        · replace h := cond_t g8 h
          refine G_skip ?_
          refine nx_n ?_
          exact ⟨_, _, ⟨decide (a0.Kind = 1), h, rfl, rfl⟩, sub_cons rfl (sub_cons rfl (sub_cons rfl (sub_cons rfl sub_nil))), cv_sel [2] 3 rfl rfl⟩
        · replace h := cond_f g8 h
          refine G_region ?_
          refine G_ev (ev_eq rfl rfl) rfl rfl rfl ?_
          refine G_ev (ev_assign rfl) rfl rfl rfl ?_
          refine G_nil ?_
          refine nx_n ?_
          exact ⟨_, _, ⟨decide (a0.Kind = 5), h, rfl, rfl⟩, sub_cons rfl (sub_cons rfl (sub_cons rfl (sub_cons rfl sub_nil))), cv_sel [2] 3 rfl rfl⟩
      · rintro _ _ ⟨p7, h, rfl, rfl⟩
        refine G_cond rfl (fun g9 => ?_) (fun g9 => ?_)
        · replace h := cond_t g9 h
          refine G_seq ?_
          refine G_region ?_
          refine G_ev (ev_move rfl) rfl rfl rfl ?_
          refine G_rd (rd_len 0 rfl els_sl rfl Try.underlying25) rfl rfl rfl ?_
          refine G_ev (ev_eq rfl rfl) rfl rfl rfl ?_
          refine G_ev (ev_assign rfl) rfl rfl rfl ?_
          refine G_nil ?_
          refine nx_n ?_
          refine G_ret ?_
          refine bk_r ?_
          refine nx_r ?_
          obtain rfl := Option.some.inj h
          exact endG1 rfl rfl (cv_sel [] 1 rfl rfl) ⟨rfl, rfl⟩
        · replace h := cond_f g9 h
          refine G_seq ?_
          refine G_region ?_
          refine G_ev (ev_eq rfl rfl) rfl rfl rfl ?_
          refine G_ev (ev_assign rfl) rfl rfl rfl ?_
          refine G_nil ?_
          refine nx_n ?_
          refine G_cond rfl (fun g10 => ?_) (fun g10 => ?_)
          · replace h := cond_t g10 h
            refine G_seq ?_
            refine G_region ?_
            refine G_ev (ev_move rfl) rfl rfl rfl ?_
            refine G_rd (rd_len 0 rfl els_sl rfl Try.underlying25) rfl rfl rfl ?_
            refine G_ev (ev_eq rfl rfl) rfl rfl rfl ?_
            refine G_ev (ev_move rfl) rfl rfl rfl ?_
            obtain ⟨b11, hb11, h⟩ := bind_elim h
            refine G_segb 5 32 b11 ?_ ?_
            · clear h
              refine G_case 27 rfl (fun g11 => ?_) (fun g11 => ?_)
              · have h := cond_t g11 hb11
                refine G_ev (ev_move rfl) rfl (g_tt g11 rfl) rfl ?_
                obtain ⟨x12, hx12, h⟩ := bind_elim h
                obtain ⟨lx12, ux12, hx12⟩ := getE_elim hx12
                refine G_rd (rd_idx 0 rfl els_sl rfl rfl Try.underlying25 size38 lx12 ux12) rfl (g_tt g11 rfl) rfl ?_
                refine G_rd (rd_elemS (us := [.int .i64 x12.Kind, .int .i64 x12.N, .string x12.S]) 0 rfl els_sl rfl hx12 agg38 (fun _ _ _ h => by rw [show _ = _ from h]; rfl)) rfl (g_tt g11 rfl) rfl ?_
                obtain ⟨y13, hy13, h⟩ := bind_elim h
                refine G_opd (op_callR (pantomimeref15_num_ok hy13) call121 rfl (mem_nil) pantomimeref15_num_free) rfl (g_tt g11 rfl) rfl ?_
                rintro _ _ ⟨_, ⟨rfl, rfl⟩, rfl⟩
                refine G_ev (ev_pick_t' g11 rfl rfl) rfl rfl rfl ?_
                obtain rfl := Option.some.inj h
                exact G_joined (sub_cons rfl (sub_skip (sub_skip (sub_skip (sub_skip (sub_skip sub_refl rfl) rfl) rfl) rfl) rfl)) (cv_sel [0] 1 rfl rfl)
              · have h := cond_f g11 hb11
                refine G_no (g_tf g11 rfl) rfl ?_
                refine G_no (g_tf g11 rfl) rfl ?_
                refine G_no (g_tf g11 rfl) rfl ?_
                refine G_no (g_tf g11 rfl) rfl ?_
                refine G_ev (ev_pick_f' g11 rfl rfl) rfl rfl rfl ?_
                obtain rfl := Option.some.inj h
                exact G_joined (sub_cons rfl (sub_skip (sub_skip (sub_skip (sub_skip (sub_skip sub_refl rfl) rfl) rfl) rfl) rfl)) (cv_sel [0] 1 rfl rfl)
            refine G_ev (ev_move rfl) rfl rfl rfl ?_
            obtain ⟨b14, hb14, h⟩ := bind_elim h
            refine G_segb 5 38 b14 ?_ ?_
            · clear h
              refine G_case 33 rfl (fun g14 => ?_) (fun g14 => ?_)
              · have h := cond_t g14 hb14
                refine G_ev (ev_move rfl) rfl (g_tt g14 rfl) rfl ?_
                obtain ⟨x15, hx15, h⟩ := bind_elim h
                obtain ⟨lx15, ux15, hx15⟩ := getE_elim hx15
                refine G_rd (rd_idx 0 rfl els_sl rfl rfl Try.underlying25 size38 lx15 ux15) rfl (g_tt g14 rfl) rfl ?_
                refine G_rd (rd_elemS (us := [.int .i64 x15.Kind, .int .i64 x15.N, .string x15.S]) 0 rfl els_sl rfl hx15 agg38 (fun _ _ _ h => by rw [show _ = _ from h]; rfl)) rfl (g_tt g14 rfl) rfl ?_
                obtain ⟨y16, hy16, h⟩ := bind_elim h
                refine G_opd (op_callR (pantomimeref15_none_ok hy16) call120 rfl (mem_nil) pantomimeref15_none_free) rfl (g_tt g14 rfl) rfl ?_
                rintro _ _ ⟨_, ⟨rfl, rfl⟩, rfl⟩
                refine G_ev (ev_pick_t' g14 rfl rfl) rfl rfl rfl ?_
                obtain rfl := Option.some.inj h
                exact G_joined (sub_cons rfl (sub_skip (sub_skip (sub_skip (sub_skip (sub_skip sub_refl rfl) rfl) rfl) rfl) rfl)) (cv_sel [0] 1 rfl rfl)
              · have h := cond_f g14 hb14
                refine G_no (g_tf g14 rfl) rfl ?_
                refine G_no (g_tf g14 rfl) rfl ?_
                refine G_no (g_tf g14 rfl) rfl ?_
                refine G_no (g_tf g14 rfl) rfl ?_
                refine G_ev (ev_pick_f' g14 rfl rfl) rfl rfl rfl ?_
                obtain rfl := Option.some.inj h
                exact G_joined (sub_cons rfl (sub_skip (sub_skip (sub_skip (sub_skip (sub_skip sub_refl rfl) rfl) rfl) rfl) rfl)) (cv_sel [0] 1 rfl rfl)
            refine G_ev (ev_assign rfl) rfl rfl rfl ?_
            refine G_nil ?_
            refine nx_n ?_
            refine G_ret ?_
            refine bk_r ?_
            refine nx_r ?_
            obtain rfl := Option.some.inj h
            exact endG1 rfl rfl (cv_sel [] 1 rfl rfl) ⟨rfl, rfl⟩
          · replace h := cond_f g10 h
            refine G_seq ?_
            refine G_region ?_
            refine G_ev (ev_eq rfl rfl) rfl rfl rfl ?_
            refine G_ev (ev_assign rfl) rfl rfl rfl ?_
            refine G_nil ?_
            refine nx_n ?_
            refine G_cond rfl (fun g17 => ?_) (fun g17 => ?_)
            · replace h := cond_t g17 h
              refine G_seq ?_
              refine G_region ?_
              refine G_ev (ev_move rfl) rfl rfl rfl ?_
              refine G_rd (rd_len 0 rfl els_sl rfl Try.underlying25) rfl rfl rfl ?_
              refine G_ev (ev_ge rfl rfl) rfl rfl rfl ?_
              refine G_ev (ev_move rfl) rfl rfl rfl ?_
              obtain ⟨b18, hb18, h⟩ := bind_elim h
              refine G_segb 4 48 b18 ?_ ?_
              · clear h
                refine G_case 44 rfl (fun g18 => ?_) (fun g18 => ?_)
                · have h := cond_t g18 hb18
                  refine G_ev (ev_move rfl) rfl (g_tt g18 rfl) rfl ?_
                  refine G_rd (rd_len 0 rfl els_sl rfl Try.underlying25) rfl (g_tt g18 rfl) rfl ?_
                  refine G_ev (ev_le rfl rfl) rfl (g_tt g18 rfl) rfl ?_
                  refine G_ev (ev_pick_t' g18 rfl rfl) rfl rfl rfl ?_
                  obtain rfl := Option.some.inj h
                  exact G_joined (sub_cons rfl (sub_skip (sub_skip (sub_skip (sub_skip sub_refl rfl) rfl) rfl) rfl)) (cv_sel [0] 1 rfl rfl)
                · have h := cond_f g18 hb18
                  refine G_no (g_tf g18 rfl) rfl ?_
                  refine G_no (g_tf g18 rfl) rfl ?_
                  refine G_no (g_tf g18 rfl) rfl ?_
                  refine G_ev (ev_pick_f' g18 rfl rfl) rfl rfl rfl ?_
                  obtain rfl := Option.some.inj h
                  exact G_joined (sub_cons rfl (sub_skip (sub_skip (sub_skip (sub_skip sub_refl rfl) rfl) rfl) rfl)) (cv_sel [0] 1 rfl rfl)
              refine G_ev (ev_move rfl) rfl rfl rfl ?_
              obtain ⟨b19, hb19, h⟩ := bind_elim h
              refine G_segb 5 54 b19 ?_ ?_
              · clear h
                refine G_case 49 rfl (fun g19 => ?_) (fun g19 => ?_)
                · have h := cond_t g19 hb19
                  refine G_ev (ev_move rfl) rfl (g_tt g19 rfl) rfl ?_
                  obtain ⟨x20, hx20, h⟩ := bind_elim h
                  obtain ⟨lx20, ux20, hx20⟩ := getE_elim hx20
                  refine G_rd (rd_idx 0 rfl els_sl rfl rfl Try.underlying25 size38 lx20 ux20) rfl (g_tt g19 rfl) rfl ?_
                  refine G_rd (rd_elemS (us := [.int .i64 x20.Kind, .int .i64 x20.N, .string x20.S]) 0 rfl els_sl rfl hx20 agg38 (fun _ _ _ h => by rw [show _ = _ from h]; rfl)) rfl (g_tt g19 rfl) rfl ?_
                  obtain ⟨y21, hy21, h⟩ := bind_elim h
                  refine G_opd (op_callR (pantomimeref15_none_ok hy21) call120 rfl (mem_nil) pantomimeref15_none_free) rfl (g_tt g19 rfl) rfl ?_
                  rintro _ _ ⟨_, ⟨rfl, rfl⟩, rfl⟩
                  refine G_ev (ev_pick_t' g19 rfl rfl) rfl rfl rfl ?_
                  obtain rfl := Option.some.inj h
                  exact G_joined (sub_cons rfl (sub_skip (sub_skip (sub_skip (sub_skip (sub_skip sub_refl rfl) rfl) rfl) rfl) rfl)) (cv_sel [0] 1 rfl rfl)
                · have h := cond_f g19 hb19
                  refine G_no (g_tf g19 rfl) rfl ?_
                  refine G_no (g_tf g19 rfl) rfl ?_
                  refine G_no (g_tf g19 rfl) rfl ?_
                  refine G_no (g_tf g19 rfl) rfl ?_
                  refine G_ev (ev_pick_f' g19 rfl rfl) rfl rfl rfl ?_
                  obtain rfl := Option.some.inj h
                  exact G_joined (sub_cons rfl (sub_skip (sub_skip (sub_skip (sub_skip (sub_skip sub_refl rfl) rfl) rfl) rfl) rfl)) (cv_sel [0] 1 rfl rfl)
              refine G_ev (ev_assign rfl) rfl rfl rfl ?_
              refine G_nil ?_
              refine nx_n ?_
              refine G_ret ?_
              refine bk_r ?_
              refine nx_r ?_
              obtain rfl := Option.some.inj h
              exact endG1 rfl rfl (cv_sel [] 1 rfl rfl) ⟨rfl, rfl⟩
            · replace h := cond_f g17 h
              refine G_seq ?_
              refine G_region ?_
              refine G_ev (ev_eq rfl rfl) rfl rfl rfl ?_
              refine G_ev (ev_assign rfl) rfl rfl rfl ?_
              refine G_nil ?_
              refine nx_n ?_
              refine G_cond rfl (fun g22 => ?_) (fun g22 => ?_)
              · replace h := cond_t g22 h
                refine G_seq ?_
                refine G_region ?_
                refine G_ev (ev_move rfl) rfl rfl rfl ?_
                refine G_rd (rd_len 0 rfl els_sl rfl Try.underlying25) rfl rfl rfl ?_
                refine G_ev (ev_eq rfl rfl) rfl rfl rfl ?_
                refine G_ev (ev_move rfl) rfl rfl rfl ?_
                obtain ⟨b23, hb23, h⟩ := bind_elim h
                refine G_segb 5 65 b23 ?_ ?_
                · clear h
                  refine G_case 60 rfl (fun g23 => ?_) (fun g23 => ?_)
                  · have h := cond_t g23 hb23
                    refine G_ev (ev_move rfl) rfl (g_tt g23 rfl) rfl ?_
                    obtain ⟨x24, hx24, h⟩ := bind_elim h
                    obtain ⟨lx24, ux24, hx24⟩ := getE_elim hx24
                    refine G_rd (rd_idx 0 rfl els_sl rfl rfl Try.underlying25 size38 lx24 ux24) rfl (g_tt g23 rfl) rfl ?_
                    refine G_rd (rd_elemS (us := [.int .i64 x24.Kind, .int .i64 x24.N, .string x24.S]) 0 rfl els_sl rfl hx24 agg38 (fun _ _ _ h => by rw [show _ = _ from h]; rfl)) rfl (g_tt g23 rfl) rfl ?_
                    obtain ⟨y25, hy25, h⟩ := bind_elim h
                    refine G_opd (op_callR (pantomimeref15_num_ok hy25) call121 rfl (mem_nil) pantomimeref15_num_free) rfl (g_tt g23 rfl) rfl ?_
                    rintro _ _ ⟨_, ⟨rfl, rfl⟩, rfl⟩
                    refine G_ev (ev_pick_t' g23 rfl rfl) rfl rfl rfl ?_
                    obtain rfl := Option.some.inj h
                    exact G_joined (sub_cons rfl (sub_skip (sub_skip (sub_skip (sub_skip (sub_skip sub_refl rfl) rfl) rfl) rfl) rfl)) (cv_sel [0] 1 rfl rfl)
                  · have h := cond_f g23 hb23
                    refine G_no (g_tf g23 rfl) rfl ?_
                    refine G_no (g_tf g23 rfl) rfl ?_
                    refine G_no (g_tf g23 rfl) rfl ?_
                    refine G_no (g_tf g23 rfl) rfl ?_
                    refine G_ev (ev_pick_f' g23 rfl rfl) rfl rfl rfl ?_
                    obtain rfl := Option.some.inj h
                    exact G_joined (sub_cons rfl (sub_skip (sub_skip (sub_skip (sub_skip (sub_skip sub_refl rfl) rfl) rfl) rfl) rfl)) (cv_sel [0] 1 rfl rfl)
                refine G_ev (ev_move rfl) rfl rfl rfl ?_
                obtain ⟨b26, hb26, h⟩ := bind_elim h
                refine G_segb 5 71 b26 ?_ ?_
                · clear h
                  refine G_case 66 rfl (fun g26 => ?_) (fun g26 => ?_)
                  · have h := cond_t g26 hb26
                    refine G_ev (ev_move rfl) rfl (g_tt g26 rfl) rfl ?_
                    obtain ⟨x27, hx27, h⟩ := bind_elim h
                    obtain ⟨lx27, ux27, hx27⟩ := getE_elim hx27
                    refine G_rd (rd_idx 0 rfl els_sl rfl rfl Try.underlying25 size38 lx27 ux27) rfl (g_tt g26 rfl) rfl ?_
                    refine G_rd (rd_elemS (us := [.int .i64 x27.Kind, .int .i64 x27.N, .string x27.S]) 0 rfl els_sl rfl hx27 agg38 (fun _ _ _ h => by rw [show _ = _ from h]; rfl)) rfl (g_tt g26 rfl) rfl ?_
                    obtain ⟨y28, hy28, h⟩ := bind_elim h
                    refine G_opd (op_callR (pantomimeref15_none_ok hy28) call120 rfl (mem_nil) pantomimeref15_none_free) rfl (g_tt g26 rfl) rfl ?_
                    rintro _ _ ⟨_, ⟨rfl, rfl⟩, rfl⟩
                    refine G_ev (ev_pick_t' g26 rfl rfl) rfl rfl rfl ?_
                    obtain rfl := Option.some.inj h
                    exact G_joined (sub_cons rfl (sub_skip (sub_skip (sub_skip (sub_skip (sub_skip sub_refl rfl) rfl) rfl) rfl) rfl)) (cv_sel [0] 1 rfl rfl)
                  · have h := cond_f g26 hb26
                    refine G_no (g_tf g26 rfl) rfl ?_
                    refine G_no (g_tf g26 rfl) rfl ?_
                    refine G_no (g_tf g26 rfl) rfl ?_
                    refine G_no (g_tf g26 rfl) rfl ?_
                    refine G_ev (ev_pick_f' g26 rfl rfl) rfl rfl rfl ?_
                    obtain rfl := Option.some.inj h
                    exact G_joined (sub_cons rfl (sub_skip (sub_skip (sub_skip (sub_skip (sub_skip sub_refl rfl) rfl) rfl) rfl) rfl)) (cv_sel [0] 1 rfl rfl)
                refine G_ev (ev_assign rfl) rfl rfl rfl ?_
                refine G_nil ?_
                refine nx_n ?_
                refine G_ret ?_
                refine bk_r ?_
                refine nx_r ?_
                obtain rfl := Option.some.inj h
                exact endG1 rfl rfl (cv_sel [] 1 rfl rfl) ⟨rfl, rfl⟩
              · replace h := cond_f g22 h
                refine G_seq ?_
                refine G_region ?_
                refine G_ev (ev_eq rfl rfl) rfl rfl rfl ?_
                refine G_ev (ev_assign rfl) rfl rfl rfl ?_
                refine G_nil ?_
                refine nx_n ?_
                refine G_cond rfl (fun g29 => ?_) (fun g29 => ?_)
                · replace h := cond_t g29 h
                  refine G_seq ?_
                  refine G_region ?_
                  refine G_ev (ev_move rfl) rfl rfl rfl ?_
                  refine G_rd (rd_len 0 rfl els_sl rfl Try.underlying25) rfl rfl rfl ?_
                  refine G_ev (ev_ge rfl rfl) rfl rfl rfl ?_
                  refine G_ev (ev_move rfl) rfl rfl rfl ?_
                  obtain ⟨b30, hb30, h⟩ := bind_elim h
                  refine G_segb 5 82 b30 ?_ ?_
                  · clear h
                    refine G_case 77 rfl (fun g30 => ?_) (fun g30 => ?_)
                    · have h := cond_t g30 hb30
                      refine G_ev (ev_move rfl) rfl (g_tt g30 rfl) rfl ?_
                      obtain ⟨x31, hx31, h⟩ := bind_elim h
                      obtain ⟨lx31, ux31, hx31⟩ := getE_elim hx31
                      refine G_rd (rd_idx 0 rfl els_sl rfl rfl Try.underlying25 size38 lx31 ux31) rfl (g_tt g30 rfl) rfl ?_
                      refine G_rd (rd_elemS (us := [.int .i64 x31.Kind, .int .i64 x31.N, .string x31.S]) 0 rfl els_sl rfl hx31 agg38 (fun _ _ _ h => by rw [show _ = _ from h]; rfl)) rfl (g_tt g30 rfl) rfl ?_
                      obtain ⟨y32, hy32, h⟩ := bind_elim h
                      refine G_opd (op_callR (pantomimeref15_num_ok hy32) call121 rfl (mem_nil) pantomimeref15_num_free) rfl (g_tt g30 rfl) rfl ?_
                      rintro _ _ ⟨_, ⟨rfl, rfl⟩, rfl⟩
                      refine G_ev (ev_pick_t' g30 rfl rfl) rfl rfl rfl ?_
                      obtain rfl := Option.some.inj h
                      exact G_joined (sub_cons rfl (sub_skip (sub_skip (sub_skip (sub_skip (sub_skip sub_refl rfl) rfl) rfl) rfl) rfl)) (cv_sel [0] 1 rfl rfl)
                    · have h := cond_f g30 hb30
                      refine G_no (g_tf g30 rfl) rfl ?_
                      refine G_no (g_tf g30 rfl) rfl ?_
                      refine G_no (g_tf g30 rfl) rfl ?_
                      refine G_no (g_tf g30 rfl) rfl ?_
                      refine G_ev (ev_pick_f' g30 rfl rfl) rfl rfl rfl ?_
                      obtain rfl := Option.some.inj h
                      exact G_joined (sub_cons rfl (sub_skip (sub_skip (sub_skip (sub_skip (sub_skip sub_refl rfl) rfl) rfl) rfl) rfl)) (cv_sel [0] 1 rfl rfl)
                  refine G_ev (ev_move rfl) rfl rfl rfl ?_
                  obtain ⟨b33, hb33, h⟩ := bind_elim h
                  refine G_segb 5 88 b33 ?_ ?_
                  · clear h
                    refine G_case 83 rfl (fun g33 => ?_) (fun g33 => ?_)
                    · have h := cond_t g33 hb33
                      refine G_ev (ev_move rfl) rfl (g_tt g33 rfl) rfl ?_
                      obtain ⟨x34, hx34, h⟩ := bind_elim h
                      obtain ⟨lx34, ux34, hx34⟩ := getE_elim hx34
                      refine G_rd (rd_idx 0 rfl els_sl rfl rfl Try.underlying25 size38 lx34 ux34) rfl (g_tt g33 rfl) rfl ?_
                      refine G_rd (rd_elemS (us := [.int .i64 x34.Kind, .int .i64 x34.N, .string x34.S]) 0 rfl els_sl rfl hx34 agg38 (fun _ _ _ h => by rw [show _ = _ from h]; rfl)) rfl (g_tt g33 rfl) rfl ?_
                      obtain ⟨y35, hy35, h⟩ := bind_elim h
                      refine G_opd (op_callR (pantomimeref15_num_ok hy35) call121 rfl (mem_nil) pantomimeref15_num_free) rfl (g_tt g33 rfl) rfl ?_
                      rintro _ _ ⟨_, ⟨rfl, rfl⟩, rfl⟩
                      refine G_ev (ev_pick_t' g33 rfl rfl) rfl rfl rfl ?_
                      obtain rfl := Option.some.inj h
                      exact G_joined (sub_cons rfl (sub_skip (sub_skip (sub_skip (sub_skip (sub_skip sub_refl rfl) rfl) rfl) rfl) rfl)) (cv_sel [0] 1 rfl rfl)
                    · have h := cond_f g33 hb33
                      refine G_no (g_tf g33 rfl) rfl ?_
                      refine G_no (g_tf g33 rfl) rfl ?_
                      refine G_no (g_tf g33 rfl) rfl ?_
                      refine G_no (g_tf g33 rfl) rfl ?_
                      refine G_ev (ev_pick_f' g33 rfl rfl) rfl rfl rfl ?_
                      obtain rfl := Option.some.inj h
                      exact G_joined (sub_cons rfl (sub_skip (sub_skip (sub_skip (sub_skip (sub_skip sub_refl rfl) rfl) rfl) rfl) rfl)) (cv_sel [0] 1 rfl rfl)
                  refine G_ev (ev_assign rfl) rfl rfl rfl ?_
                  refine G_nil ?_
                  refine nx_n ?_
                  refine G_ret ?_
                  refine bk_r ?_
                  refine nx_r ?_
                  obtain rfl := Option.some.inj h
                  exact endG1 rfl rfl (cv_sel [] 1 rfl rfl) ⟨rfl, rfl⟩
                · replace h := cond_f g29 h
                  refine G_seq ?_
                  refine G_region ?_
                  refine G_ev (ev_eq rfl rfl) rfl rfl rfl ?_
                  refine G_ev (ev_assign rfl) rfl rfl rfl ?_
                  refine G_nil ?_
                  refine nx_n ?_
                  refine G_cond rfl (fun g36 => ?_) (fun g36 => ?_)
                  · replace h := cond_t g36 h
                    refine G_seq ?_
                    refine G_region ?_
                    refine G_ev (ev_move rfl) rfl rfl rfl ?_
                    obtain ⟨y37, hy37, h⟩ := bind_elim h
                    refine G_opd (op_callR (pantomimeref15_entries_ok hy37) call122 rfl (mem_cons (lent_ro (i := 0) rfl rfl) mem_nil) pantomimeref15_entries_free) rfl rfl rfl ?_
                    rintro _ _ ⟨_, ⟨rfl, rfl⟩, rfl⟩
                    refine G_ev (ev_assign rfl) rfl rfl rfl ?_
                    refine G_nil ?_
                    refine nx_n ?_
                    refine G_ret ?_
                    refine bk_r ?_
                    refine nx_r ?_
                    obtain rfl := Option.some.inj h
                    exact endG1 rfl rfl (cv_sel [] 1 rfl rfl) ⟨rfl, rfl⟩
                  · replace h := cond_f g36 h
                    refine G_seq ?_
                    refine G_region ?_
                    refine G_ev (ev_eq rfl rfl) rfl rfl rfl ?_
                    refine G_ev (ev_assign rfl) rfl rfl rfl ?_
                    refine G_nil ?_
                    refine nx_n ?_
                    refine G_cond rfl (fun g38 => ?_) (fun g38 => ?_)
                    · replace h := cond_t g38 h
                      refine G_seq ?_
                      refine G_region ?_
                      refine G_ev (ev_move rfl) rfl rfl rfl ?_
                      refine G_rd (rd_len 0 rfl els_sl rfl Try.underlying25) rfl rfl rfl ?_
                      refine G_ev (ev_ge rfl rfl) rfl rfl rfl ?_
                      refine G_ev (ev_move rfl) rfl rfl rfl ?_
                      obtain ⟨b39, hb39, h⟩ := bind_elim h
                      refine G_segb 6 104 b39 ?_ ?_
                      · clear h
                        refine G_case 98 rfl (fun g39 => ?_) (fun g39 => ?_)
                        · have h := cond_t g39 hb39
                          refine G_ev (ev_move rfl) rfl (g_tt g39 rfl) rfl ?_
                          obtain ⟨x40, hx40, h⟩ := bind_elim h
                          obtain ⟨lx40, ux40, hx40⟩ := getE_elim hx40
                          refine G_rd (rd_idx 0 rfl els_sl rfl rfl Try.underlying25 size38 lx40 ux40) rfl (g_tt g39 rfl) rfl ?_
                          refine G_rd (rd_fa0 0 rfl els_sl rfl (toNat_lt lx40 ux40) fa_38_0) rfl (g_tt g39 rfl) rfl ?_
                          refine G_rd (rd_elem1 (u := .int .i64 x40.Kind) 0 rfl els_sl rfl hx40 one3 (fun _ _ _ h => by rw [show _ = _ from h]; rfl)) rfl (g_tt g39 rfl) rfl ?_
                          refine G_ev (ev_eq rfl rfl) rfl (g_tt g39 rfl) rfl ?_
                          refine G_ev (ev_pick_t' g39 rfl rfl) rfl rfl rfl ?_
                          obtain rfl := Option.some.inj h
                          exact G_joined (sub_cons rfl (sub_skip (sub_skip (sub_skip (sub_skip (sub_skip (sub_skip sub_refl rfl) rfl) rfl) rfl) rfl) rfl)) (cv_sel [0] 1 rfl rfl)
                        · have h := cond_f g39 hb39
                          refine G_no (g_tf g39 rfl) rfl ?_
                          refine G_no (g_tf g39 rfl) rfl ?_
                          refine G_no (g_tf g39 rfl) rfl ?_
                          refine G_no (g_tf g39 rfl) rfl ?_
                          refine G_no (g_tf g39 rfl) rfl ?_
                          refine G_ev (ev_pick_f' g39 rfl rfl) rfl rfl rfl ?_
                          obtain rfl := Option.some.inj h
                          exact G_joined (sub_cons rfl (sub_skip (sub_skip (sub_skip (sub_skip (sub_skip (sub_skip sub_refl rfl) rfl) rfl) rfl) rfl) rfl)) (cv_sel [0] 1 rfl rfl)
                      refine G_ev (ev_move rfl) rfl rfl rfl ?_
                      obtain ⟨b41, hb41, h⟩ := bind_elim h
                      refine G_segb 4 109 b41 ?_ ?_
                      · clear h
                        refine G_case 105 rfl (fun g41 => ?_) (fun g41 => ?_)
                        · have h := cond_t g41 hb41
                          refine G_ev (ev_move rfl) rfl (g_tt g41 rfl) rfl ?_
                          obtain ⟨q42, h⟩ := req_elim h
                          refine G_cut 0 rfl (l := (1 : Int).toNat) (h := a0.More.length) q42.2.1 q42.2.2 ?_
                          rintro A43 n43 c43 e43
                          refine G_rd (rd_cutN 1 rfl e43 rfl Try.underlying25 size38 rfl (by rw [Int.toNat_of_nonneg q42.1]; rfl) q42.2.1) rfl (g_tt g41 rfl) rfl ?_
                          obtain ⟨y44, hy44, h⟩ := bind_elim h
                          refine G_opd (op_callR (pantomimeref15_entries_ok hy44) call122 rfl (mem_cons (lent_ro (i := 0) rfl rfl) mem_nil) pantomimeref15_entries_free) rfl (g_tt g41 rfl) rfl ?_
                          rintro _ _ ⟨_, ⟨rfl, rfl⟩, rfl⟩
                          refine G_ev (ev_pick_t' g41 rfl rfl) rfl rfl rfl ?_
                          obtain rfl := Option.some.inj h
                          exact G_joined (sub_cons rfl (sub_skip (sub_skip (sub_skip (sub_skip sub_refl rfl) rfl) rfl) rfl)) (cv_sel [1] 2 rfl rfl)
                        · have h := cond_f g41 hb41
                          refine G_no (g_tf g41 rfl) rfl ?_
                          refine G_no (g_tf g41 rfl) rfl ?_
                          refine G_no (g_tf g41 rfl) rfl ?_
                          refine G_ev (ev_pick_f' g41 rfl rfl) rfl rfl rfl ?_
                          obtain rfl := Option.some.inj h
                          exact G_joined (sub_cons rfl (sub_skip (sub_skip (sub_skip (sub_skip sub_refl rfl) rfl) rfl) rfl)) (cv_sel [0] 1 rfl rfl)
                      refine G_ev (ev_assign rfl) rfl rfl rfl ?_
                      refine G_nil ?_
                      refine nx_n ?_
                      refine G_ret ?_
                      refine bk_r ?_
                      refine nx_r ?_
                      obtain rfl := Option.some.inj h
                      exact endG1 rfl rfl (cv_sel [] 1 rfl rfl) ⟨rfl, rfl⟩
                    · replace h := cond_f g38 h
                      refine G_seq ?_
                      refine G_region ?_
                      refine G_ev (ev_eq rfl rfl) rfl rfl rfl ?_
                      refine G_ev (ev_assign rfl) rfl rfl rfl ?_
                      refine G_nil ?_
                      refine nx_n ?_
                      refine G_cond rfl (fun g45 => ?_) (fun g45 => ?_)
                      · replace h := cond_t g45 h
                        refine G_seq ?_
                        refine G_region ?_
                        refine G_ev (ev_move rfl) rfl rfl rfl ?_
                        refine G_rd (rd_len 0 rfl els_sl rfl Try.underlying25) rfl rfl rfl ?_
                        refine G_ev (ev_ge rfl rfl) rfl rfl rfl ?_
                        refine G_ev (ev_move rfl) rfl rfl rfl ?_
                        obtain ⟨b46, hb46, h⟩ := bind_elim h
                        refine G_segb 5 120 b46 ?_ ?_
                        · clear h
                          refine G_case 115 rfl (fun g46 => ?_) (fun g46 => ?_)
                          · have h := cond_t g46 hb46
                            refine G_ev (ev_move rfl) rfl (g_tt g46 rfl) rfl ?_
                            obtain ⟨x47, hx47, h⟩ := bind_elim h
                            obtain ⟨lx47, ux47, hx47⟩ := getE_elim hx47
                            refine G_rd (rd_idx 0 rfl els_sl rfl rfl Try.underlying25 size38 lx47 ux47) rfl (g_tt g46 rfl) rfl ?_
                            refine G_rd (rd_elemS (us := [.int .i64 x47.Kind, .int .i64 x47.N, .string x47.S]) 0 rfl els_sl rfl hx47 agg38 (fun _ _ _ h => by rw [show _ = _ from h]; rfl)) rfl (g_tt g46 rfl) rfl ?_
                            obtain ⟨y48, hy48, h⟩ := bind_elim h
                            refine G_opd (op_callR (pantomimeref15_num_ok hy48) call121 rfl (mem_nil) pantomimeref15_num_free) rfl (g_tt g46 rfl) rfl ?_
                            rintro _ _ ⟨_, ⟨rfl, rfl⟩, rfl⟩
                            refine G_ev (ev_pick_t' g46 rfl rfl) rfl rfl rfl ?_
                            obtain rfl := Option.some.inj h
                            exact G_joined (sub_cons rfl (sub_skip (sub_skip (sub_skip (sub_skip (sub_skip sub_refl rfl) rfl) rfl) rfl) rfl)) (cv_sel [0] 1 rfl rfl)
                          · have h := cond_f g46 hb46
                            refine G_no (g_tf g46 rfl) rfl ?_
                            refine G_no (g_tf g46 rfl) rfl ?_
                            refine G_no (g_tf g46 rfl) rfl ?_
                            refine G_no (g_tf g46 rfl) rfl ?_
                            refine G_ev (ev_pick_f' g46 rfl rfl) rfl rfl rfl ?_
                            obtain rfl := Option.some.inj h
                            exact G_joined (sub_cons rfl (sub_skip (sub_skip (sub_skip (sub_skip (sub_skip sub_refl rfl) rfl) rfl) rfl) rfl)) (cv_sel [0] 1 rfl rfl)
                        refine G_ev (ev_assign rfl) rfl rfl rfl ?_
                        refine G_nil ?_
                        refine nx_n ?_
                        refine G_ret ?_
                        refine bk_r ?_
                        refine nx_r ?_
                        obtain rfl := Option.some.inj h
                        exact endG1 rfl rfl (cv_sel [] 1 rfl rfl) ⟨rfl, rfl⟩
                      · replace h := cond_f g45 h
                        refine G_skip ?_
                        refine bk_n ?_
                        refine nx_n ?_
                        refine G_seq ?_
                        refine G_region ?_
                        refine G_ev (ev_assign rfl) rfl rfl rfl ?_
                        refine G_nil ?_
                        refine nx_n ?_
                        refine G_ret ?_
                        obtain rfl := Option.some.inj h
                        exact endG1 rfl rfl (cv_sel [] 1 rfl rfl) ⟨rfl, rfl⟩
theorem pantomimeref15_more_free {r : Bool} : ∀ v post, ((fun (u : Value) (post : List Chunk) => u = .bool r ∧ post = [])) v post → ∀ c ∈ post, Free c := by
  rintro _ _ ⟨rfl, rfl⟩; exact mem_nil
/-! pantomime/pantomimeref15.Right -/
def pantomimeref15_Right_j19 (N : Nat) (a0 : DCell) : Option Bool :=
  (pantomimeref15_slots_O N a0).bind fun y27 => (bif y27 then ((pantomimeref15_more_O N a0).bind fun y29 => some y29) else (some false)).bind fun b28 => some b28
def pantomimeref15_Right_l20 (N : Nat) (a0 : DCell) : Nat → Int → Option Bool
  | 0, _ => none
  | m20 + 1, p21 => bif decide (p21 < (a0.More.length : Int)) then ((getE a0.More p21).bind fun x23 => (pantomimeref15_May_O N x23).bind fun y24 => bif !y24 then (some false) else (req (in64 (p21 + 1)) ((pantomimeref15_Right_l20 N a0 m20) (p21 + 1)))) else (pantomimeref15_Right_j19 N a0)
theorem pantomimeref15_Right_l20_s {N m20 : Nat} {a0 : DCell} {p21 : Int} : pantomimeref15_Right_l20 N a0 (m20 + 1) p21 = bif decide (p21 < (a0.More.length : Int)) then ((getE a0.More p21).bind fun x23 => (pantomimeref15_May_O N x23).bind fun y24 => bif !y24 then (some false) else (req (in64 (p21 + 1)) ((pantomimeref15_Right_l20 N a0 m20) (p21 + 1)))) else (pantomimeref15_Right_j19 N a0) := rfl
def pantomimeref15_Right_j11 (N : Nat) (a0 : DCell) : Option Bool :=
  pantomimeref15_Right_l20 N a0 N 0
def pantomimeref15_Right_l12 (N : Nat) (a0 : DCell) : Nat → Int → Option Bool
  | 0, _ => none
  | m12 + 1, p13 => bif decide (p13 < (a0.Slots.length : Int)) then ((getE a0.Slots p13).bind fun x15 => (pantomimeref15_May_O N x15).bind fun y16 => bif !y16 then (some false) else (req (in64 (p13 + 1)) ((pantomimeref15_Right_l12 N a0 m12) (p13 + 1)))) else (pantomimeref15_Right_j11 N a0)
theorem pantomimeref15_Right_l12_s {N m12 : Nat} {a0 : DCell} {p13 : Int} : pantomimeref15_Right_l12 N a0 (m12 + 1) p13 = bif decide (p13 < (a0.Slots.length : Int)) then ((getE a0.Slots p13).bind fun x15 => (pantomimeref15_May_O N x15).bind fun y16 => bif !y16 then (some false) else (req (in64 (p13 + 1)) ((pantomimeref15_Right_l12 N a0 m12) (p13 + 1)))) else (pantomimeref15_Right_j11 N a0) := rfl
def pantomimeref15_Right_O (N : Nat) (a0 : DCell) : Option Bool :=
  (bif decide (a0.Kind < 1) then (some true) else (some (decide (11 < a0.Kind)))).bind fun b4 => (bif b4 then (some true) else (some (decide (a0.Shape < 0)))).bind fun b5 => (bif b5 then (some true) else (some (decide (a0.Flags < 0)))).bind fun b6 => (bif b6 then (some true) else (some (decide (63 < a0.Flags)))).bind fun b7 => (bif b7 then (some true) else (some (decide (a0.Age < 0)))).bind fun b8 => (bif b8 then (some true) else (some (decide (1 < a0.Age)))).bind fun b9 => bif b9 then (some false) else (pantomimeref15_Right_l12 N a0 N 0)
theorem pantomimeref15_Right_ok {N : Nat} {a0 : DCell} {r : Bool} (h : pantomimeref15_Right_O N a0 = some r) {A1 : Option Addr} {n1 c1 : Nat} {A2 : Option Addr} {n2 c2 : Nat} : Okc Try.prog 45 [.agg #[.int .i64 a0.Kind, .int .i64 a0.Shape, .int .i64 a0.Flags, .int .i64 a0.Age, .slice A1 n1 c1, .slice A2 n2 c2]] ([slC rDValue (.slice A1 n1 c1) a0.Slots, slC rDValue (.slice A2 n2 c2) a0.More]) (fun (u : Value) (post : List Chunk) => u = .bool r ∧ post = []) := by
  refine ok_E Try.func45 rfl rfl ?_
  simp only [envOf]
  refine G_seq ?_
  refine G_region ?_
  refine G_opd (op_box rfl rfl) rfl rfl rfl ?_
  rintro _ _ ⟨B3, rfl, rfl⟩
  refine G_ev (ev_assign rfl) rfl rfl rfl ?_
  refine G_nil ?_
  refine nx_n ?_
  refine G_seq ?_
  refine G_seq ?_
  refine G_region ?_
  refine G_ev (ev_fa0 rfl fa_42_0) rfl rfl rfl ?_
  refine G_rd (rd_box1 0 rfl rfl one3 rfl) rfl rfl rfl ?_
  refine G_ev (ev_lt rfl rfl) rfl rfl rfl ?_
  refine G_ev (ev_move rfl) rfl rfl rfl ?_
  obtain ⟨b4, hb4, h⟩ := bind_elim h
  refine G_segb 4 12 b4 ?_ ?_
  · clear h
    refine G_case 8 rfl (fun g4 => ?_) (fun g4 => ?_)
    · have h := cond_t g4 hb4
      refine G_no (g_ft g4 rfl) rfl ?_
      refine G_no (g_ft g4 rfl) rfl ?_
      refine G_no (g_ft g4 rfl) rfl ?_
      refine G_ev (ev_pick_t' g4 rfl rfl) rfl rfl rfl ?_
      obtain rfl := Option.some.inj h
      exact G_joined (sub_cons rfl (sub_skip (sub_skip (sub_skip (sub_skip sub_refl rfl) rfl) rfl) rfl)) (cv_sel [0, 1, 2] 3 rfl rfl)
    · have h := cond_f g4 hb4
      refine G_ev (ev_fa0 rfl fa_42_0) rfl (g_ff g4 rfl) rfl ?_
      refine G_rd (rd_box1 0 rfl rfl one3 rfl) rfl (g_ff g4 rfl) rfl ?_
      refine G_ev (ev_gt rfl rfl) rfl (g_ff g4 rfl) rfl ?_
      refine G_ev (ev_pick_f' g4 rfl rfl) rfl rfl rfl ?_
      obtain rfl := Option.some.inj h
      exact G_joined (sub_cons rfl (sub_skip (sub_skip (sub_skip (sub_skip sub_refl rfl) rfl) rfl) rfl)) (cv_sel [0, 1, 2] 3 rfl rfl)
  refine G_ev (ev_move rfl) rfl rfl rfl ?_
  obtain ⟨b5, hb5, h⟩ := bind_elim h
  refine G_segb 4 17 b5 ?_ ?_
  · clear h
    refine G_case 13 rfl (fun g5 => ?_) (fun g5 => ?_)
    · have h := cond_t g5 hb5
      refine G_no (g_ft g5 rfl) rfl ?_
      refine G_no (g_ft g5 rfl) rfl ?_
      refine G_no (g_ft g5 rfl) rfl ?_
      refine G_ev (ev_pick_t' g5 rfl rfl) rfl rfl rfl ?_
      obtain rfl := Option.some.inj h
      exact G_joined (sub_cons rfl (sub_skip (sub_skip (sub_skip (sub_skip sub_refl rfl) rfl) rfl) rfl)) (cv_sel [0, 1, 2] 3 rfl rfl)
    · have h := cond_f g5 hb5
      refine G_ev (ev_fa rfl fa_42_1) rfl (g_ff g5 rfl) rfl ?_
      refine G_rd (rd_box1 0 rfl rfl one3 rfl) rfl (g_ff g5 rfl) rfl ?_
      refine G_ev (ev_lt rfl rfl) rfl (g_ff g5 rfl) rfl ?_
      refine G_ev (ev_pick_f' g5 rfl rfl) rfl rfl rfl ?_
      obtain rfl := Option.some.inj h
      exact G_joined (sub_cons rfl (sub_skip (sub_skip (sub_skip (sub_skip sub_refl rfl) rfl) rfl) rfl)) (cv_sel [0, 1, 2] 3 rfl rfl)
  refine G_ev (ev_move rfl) rfl rfl rfl ?_
  obtain ⟨b6, hb6, h⟩ := bind_elim h
  refine G_segb 4 22 b6 ?_ ?_
  · clear h
    refine G_case 18 rfl (fun g6 => ?_) (fun g6 => ?_)
    · have h := cond_t g6 hb6
      refine G_no (g_ft g6 rfl) rfl ?_
      refine G_no (g_ft g6 rfl) rfl ?_
      refine G_no (g_ft g6 rfl) rfl ?_
      refine G_ev (ev_pick_t' g6 rfl rfl) rfl rfl rfl ?_
      obtain rfl := Option.some.inj h
      exact G_joined (sub_cons rfl (sub_skip (sub_skip (sub_skip (sub_skip sub_refl rfl) rfl) rfl) rfl)) (cv_sel [0, 1, 2] 3 rfl rfl)
    · have h := cond_f g6 hb6
      refine G_ev (ev_fa rfl fa_42_2) rfl (g_ff g6 rfl) rfl ?_
      refine G_rd (rd_box1 0 rfl rfl one3 rfl) rfl (g_ff g6 rfl) rfl ?_
      refine G_ev (ev_lt rfl rfl) rfl (g_ff g6 rfl) rfl ?_
      refine G_ev (ev_pick_f' g6 rfl rfl) rfl rfl rfl ?_
      obtain rfl := Option.some.inj h
      exact G_joined (sub_cons rfl (sub_skip (sub_skip (sub_skip (sub_skip sub_refl rfl) rfl) rfl) rfl)) (cv_sel [0, 1, 2] 3 rfl rfl)
  refine G_ev (ev_move rfl) rfl rfl rfl ?_
  obtain ⟨b7, hb7, h⟩ := bind_elim h
  refine G_segb 4 27 b7 ?_ ?_
  · clear h
    refine G_case 23 rfl (fun g7 => ?_) (fun g7 => ?_)
    · have h := cond_t g7 hb7
      refine G_no (g_ft g7 rfl) rfl ?_
      refine G_no (g_ft g7 rfl) rfl ?_
      refine G_no (g_ft g7 rfl) rfl ?_
      refine G_ev (ev_pick_t' g7 rfl rfl) rfl rfl rfl ?_
      obtain rfl := Option.some.inj h
      exact G_joined (sub_cons rfl (sub_skip (sub_skip (sub_skip (sub_skip sub_refl rfl) rfl) rfl) rfl)) (cv_sel [0, 1, 2] 3 rfl rfl)
    · have h := cond_f g7 hb7
      refine G_ev (ev_fa rfl fa_42_2) rfl (g_ff g7 rfl) rfl ?_
      refine G_rd (rd_box1 0 rfl rfl one3 rfl) rfl (g_ff g7 rfl) rfl ?_
      refine G_ev (ev_gt rfl rfl) rfl (g_ff g7 rfl) rfl ?_
      refine G_ev (ev_pick_f' g7 rfl rfl) rfl rfl rfl ?_
      obtain rfl := Option.some.inj h
      exact G_joined (sub_cons rfl (sub_skip (sub_skip (sub_skip (sub_skip sub_refl rfl) rfl) rfl) rfl)) (cv_sel [0, 1, 2] 3 rfl rfl)
  refine G_ev (ev_move rfl) rfl rfl rfl ?_
  obtain ⟨b8, hb8, h⟩ := bind_elim h
  refine G_segb 4 32 b8 ?_ ?_
  · clear h
    refine G_case 28 rfl (fun g8 => ?_) (fun g8 => ?_)
    · have h := cond_t g8 hb8
      refine G_no (g_ft g8 rfl) rfl ?_
      refine G_no (g_ft g8 rfl) rfl ?_
      refine G_no (g_ft g8 rfl) rfl ?_
      refine G_ev (ev_pick_t' g8 rfl rfl) rfl rfl rfl ?_
      obtain rfl := Option.some.inj h
      exact G_joined (sub_cons rfl (sub_skip (sub_skip (sub_skip (sub_skip sub_refl rfl) rfl) rfl) rfl)) (cv_sel [0, 1, 2] 3 rfl rfl)
    · have h := cond_f g8 hb8
      refine G_ev (ev_fa rfl fa_42_3) rfl (g_ff g8 rfl) rfl ?_
      refine G_rd (rd_box1 0 rfl rfl one3 rfl) rfl (g_ff g8 rfl) rfl ?_
      refine G_ev (ev_lt rfl rfl) rfl (g_ff g8 rfl) rfl ?_
      refine G_ev (ev_pick_f' g8 rfl rfl) rfl rfl rfl ?_
      obtain rfl := Option.some.inj h
      exact G_joined (sub_cons rfl (sub_skip (sub_skip (sub_skip (sub_skip sub_refl rfl) rfl) rfl) rfl)) (cv_sel [0, 1, 2] 3 rfl rfl)
  refine G_ev (ev_move rfl) rfl rfl rfl ?_
  obtain ⟨b9, hb9, h⟩ := bind_elim h
  refine G_segb 4 37 b9 ?_ ?_
  · clear h
    refine G_case 33 rfl (fun g9 => ?_) (fun g9 => ?_)
    · have h := cond_t g9 hb9
      refine G_no (g_ft g9 rfl) rfl ?_
      refine G_no (g_ft g9 rfl) rfl ?_
      refine G_no (g_ft g9 rfl) rfl ?_
      refine G_ev (ev_pick_t' g9 rfl rfl) rfl rfl rfl ?_
      obtain rfl := Option.some.inj h
      exact G_joined (sub_cons rfl (sub_skip (sub_skip (sub_skip (sub_skip sub_refl rfl) rfl) rfl) rfl)) (cv_sel [0, 1, 2] 3 rfl rfl)
    · have h := cond_f g9 hb9
      refine G_ev (ev_fa rfl fa_42_3) rfl (g_ff g9 rfl) rfl ?_
      refine G_rd (rd_box1 0 rfl rfl one3 rfl) rfl (g_ff g9 rfl) rfl ?_
      refine G_ev (ev_gt rfl rfl) rfl (g_ff g9 rfl) rfl ?_
      refine G_ev (ev_pick_f' g9 rfl rfl) rfl rfl rfl ?_
      obtain rfl := Option.some.inj h
      exact G_joined (sub_cons rfl (sub_skip (sub_skip (sub_skip (sub_skip sub_refl rfl) rfl) rfl) rfl)) (cv_sel [0, 1, 2] 3 rfl rfl)
  refine G_nil ?_
  refine nx_n ?_
  refine G_cond rfl (fun g10 => ?_) (fun g10 => ?_)
  · replace h := cond_t g10 h
    refine G_seq ?_
    refine G_region ?_
    refine G_ev (ev_assign rfl) rfl rfl rfl ?_
    refine G_nil ?_
    refine nx_n ?_
    refine G_ret ?_
    refine nx_r ?_
    obtain rfl := Option.some.inj h
    exact endG1 rfl rfl (cv_sel [] 3 rfl rfl) ⟨rfl, rfl⟩
  · replace h := cond_f g10 h
    refine G_skip ?_
    refine nx_n ?_
    refine G_joinF (fun s L => pantomimeref15_Right_j11 N a0 = some r ∧ s = [(1, .pointer (some ⟨B3, 0, none⟩)), (2, .bool false)] ∧ L = [slC rDValue (.slice A1 n1 c1) a0.Slots, slC rDValue (.slice A2 n2 c2) a0.More, boxC B3 42 [.int .i64 a0.Kind, .int .i64 a0.Shape, .int .i64 a0.Flags, .int .i64 a0.Age, .slice A1 n1 c1, .slice A2 n2 c2]]) ?_ ?_
    · refine G_seq ?_
      refine G_region ?_
      refine G_ev (ev_assign rfl) rfl rfl rfl ?_
      refine G_nil ?_
      refine nx_n ?_
      refine G_block ?_
      refine G_loopF (fun m s L => ∃ (p13 : Int), pantomimeref15_Right_l12 N a0 m p13 = some r ∧ s = [(1, .pointer (some ⟨B3, 0, none⟩)), (2, .bool false), (3, .int .i64 p13)] ∧ L = [slC rDValue (.slice A1 n1 c1) a0.Slots, slC rDValue (.slice A2 n2 c2) a0.More, boxC B3 42 [.int .i64 a0.Kind, .int .i64 a0.Shape, .int .i64 a0.Flags, .int .i64 a0.Age, .slice A1 n1 c1, .slice A2 n2 c2]]) N _ _ ⟨0, h, rfl, rfl⟩ (sub_cons rfl (sub_cons rfl (sub_cons rfl sub_nil))) (cv_sel [1, 2, 0] 3 rfl rfl) ?_
      rintro (_ | m12) _ _ ⟨p13, h, rfl, rfl⟩
      · exact none_some h
      rw [pantomimeref15_Right_l12_s] at h
      refine G_seq ?_
      refine G_seq ?_
      refine G_region ?_
      refine G_ev (ev_move rfl) rfl rfl rfl ?_
      refine G_ev (ev_fa rfl fa_42_4) rfl rfl rfl ?_
      refine G_rd (rd_box1 2 rfl rfl one25 rfl) rfl rfl rfl ?_
      refine G_rd (rd_len 0 rfl els_sl rfl Try.underlying25) rfl rfl rfl ?_
      refine G_ev (ev_lt rfl rfl) rfl rfl rfl ?_
      refine G_nil ?_
      refine nx_n ?_
      refine G_cond rfl (fun g14 => ?_) (fun g14 => ?_)
      · replace h := cond_t g14 h
        refine G_skip ?_
        refine nx_n ?_
        refine G_seq ?_
        refine G_block ?_
        refine G_seq ?_
        refine G_region ?_
        refine G_ev (ev_fa rfl fa_42_4) rfl rfl rfl ?_
        refine G_rd (rd_box1 2 rfl rfl one25 rfl) rfl rfl rfl ?_
        refine G_ev (ev_move rfl) rfl rfl rfl ?_
        obtain ⟨x15, hx15, h⟩ := bind_elim h
        obtain ⟨lx15, ux15, hx15⟩ := getE_elim hx15
        refine G_rd (rd_idx 0 rfl els_sl rfl rfl Try.underlying25 size38 lx15 ux15) rfl rfl rfl ?_
        refine G_rd (rd_elemS (us := [.int .i64 x15.Kind, .int .i64 x15.N, .string x15.S]) 0 rfl els_sl rfl hx15 agg38 (fun _ _ _ h => by rw [show _ = _ from h]; rfl)) rfl rfl rfl ?_
        obtain ⟨y16, hy16, h⟩ := bind_elim h
        refine G_opd (op_callR (pantomimeref15_May_ok hy16) call84 rfl (mem_nil) pantomimeref15_May_free) rfl rfl rfl ?_
        rintro _ _ ⟨_, ⟨rfl, rfl⟩, rfl⟩
        refine G_ev (ev_not rfl) rfl rfl rfl ?_
        refine G_nil ?_
        refine nx_n ?_
        refine G_cond rfl (fun g17 => ?_) (fun g17 => ?_)
        · replace h := cond_t g17 h
          refine G_seq ?_
          refine G_region ?_
          refine G_ev (ev_assign rfl) rfl rfl rfl ?_
          refine G_nil ?_
          refine nx_n ?_
          refine G_ret ?_
          refine bk_r ?_
          refine nx_r ?_
          refine nx_r ?_
          refine bk_r ?_
          refine nx_r ?_
          obtain rfl := Option.some.inj h
          exact endG1 rfl rfl (cv_sel [] 3 rfl rfl) ⟨rfl, rfl⟩
        · replace h := cond_f g17 h
          refine G_skip ?_
          refine bk_n ?_
          refine nx_n ?_
          refine G_region ?_
          refine G_ev (ev_move rfl) rfl rfl rfl ?_
          obtain ⟨q18, h⟩ := req_elim h
          refine G_ev (ev_add rfl rfl q18.1 q18.2) rfl rfl rfl ?_
          refine G_ev (ev_assign rfl) rfl rfl rfl ?_
          refine G_nil ?_
          refine nx_n ?_
          exact ⟨m12, _, _, Nat.lt_succ_self _, ⟨p13 + 1, h, rfl, rfl⟩, sub_cons rfl (sub_cons rfl (sub_cons rfl sub_nil)), cv_sel [0, 1, 2] 3 rfl rfl⟩
      · replace h := cond_f g14 h
        refine G_exit ?_
        refine nx_e ?_
        refine nx_e ?_
        refine bk_x ?_
        refine nx_n ?_
        exact ⟨_, _, ⟨h, rfl, rfl⟩, sub_cons rfl (sub_cons rfl sub_nil), cv_sel [0, 1, 2] 3 rfl rfl⟩
    · rintro _ _ ⟨h, rfl, rfl⟩
      refine G_joinF (fun s L => pantomimeref15_Right_j19 N a0 = some r ∧ s = [(1, .pointer (some ⟨B3, 0, none⟩)), (2, .bool false)] ∧ L = [slC rDValue (.slice A1 n1 c1) a0.Slots, slC rDValue (.slice A2 n2 c2) a0.More, boxC B3 42 [.int .i64 a0.Kind, .int .i64 a0.Shape, .int .i64 a0.Flags, .int .i64 a0.Age, .slice A1 n1 c1, .slice A2 n2 c2]]) ?_ ?_
      · refine G_seq ?_
        refine G_region ?_
        refine G_ev (ev_assign rfl) rfl rfl rfl ?_
        refine G_nil ?_
        refine nx_n ?_
        refine G_block ?_
        refine G_loopF (fun m s L => ∃ (p21 : Int), pantomimeref15_Right_l20 N a0 m p21 = some r ∧ s = [(1, .pointer (some ⟨B3, 0, none⟩)), (2, .bool false), (4, .int .i64 p21)] ∧ L = [slC rDValue (.slice A1 n1 c1) a0.Slots, slC rDValue (.slice A2 n2 c2) a0.More, boxC B3 42 [.int .i64 a0.Kind, .int .i64 a0.Shape, .int .i64 a0.Flags, .int .i64 a0.Age, .slice A1 n1 c1, .slice A2 n2 c2]]) N _ _ ⟨0, h, rfl, rfl⟩ (sub_cons rfl (sub_cons rfl (sub_cons rfl sub_nil))) (cv_sel [0, 1, 2] 3 rfl rfl) ?_
        rintro (_ | m20) _ _ ⟨p21, h, rfl, rfl⟩
        · exact none_some h
        rw [pantomimeref15_Right_l20_s] at h
        refine G_seq ?_
        refine G_seq ?_
        refine G_region ?_
        refine G_ev (ev_move rfl) rfl rfl rfl ?_
        refine G_ev (ev_fa rfl fa_42_5) rfl rfl rfl ?_
        refine G_rd (rd_box1 2 rfl rfl one25 rfl) rfl rfl rfl ?_
        refine G_rd (rd_len 1 rfl els_sl rfl Try.underlying25) rfl rfl rfl ?_
        refine G_ev (ev_lt rfl rfl) rfl rfl rfl ?_
        refine G_nil ?_
        refine nx_n ?_
        refine G_cond rfl (fun g22 => ?_) (fun g22 => ?_)
        · replace h := cond_t g22 h
          refine G_skip ?_
          refine nx_n ?_
          refine G_seq ?_
          refine G_block ?_
          refine G_seq ?_
          refine G_region ?_
          refine G_ev (ev_fa rfl fa_42_5) rfl rfl rfl ?_
          refine G_rd (rd_box1 2 rfl rfl one25 rfl) rfl rfl rfl ?_
          refine G_ev (ev_move rfl) rfl rfl rfl ?_
          obtain ⟨x23, hx23, h⟩ := bind_elim h
          obtain ⟨lx23, ux23, hx23⟩ := getE_elim hx23
          refine G_rd (rd_idx 1 rfl els_sl rfl rfl Try.underlying25 size38 lx23 ux23) rfl rfl rfl ?_
          refine G_rd (rd_elemS (us := [.int .i64 x23.Kind, .int .i64 x23.N, .string x23.S]) 1 rfl els_sl rfl hx23 agg38 (fun _ _ _ h => by rw [show _ = _ from h]; rfl)) rfl rfl rfl ?_
          obtain ⟨y24, hy24, h⟩ := bind_elim h
          refine G_opd (op_callR (pantomimeref15_May_ok hy24) call84 rfl (mem_nil) pantomimeref15_May_free) rfl rfl rfl ?_
          rintro _ _ ⟨_, ⟨rfl, rfl⟩, rfl⟩
          refine G_ev (ev_not rfl) rfl rfl rfl ?_
          refine G_nil ?_
          refine nx_n ?_
          refine G_cond rfl (fun g25 => ?_) (fun g25 => ?_)
          · replace h := cond_t g25 h
            refine G_seq ?_
            refine G_region ?_
            refine G_ev (ev_assign rfl) rfl rfl rfl ?_
            refine G_nil ?_
            refine nx_n ?_
            refine G_ret ?_
            refine bk_r ?_
            refine nx_r ?_
            refine nx_r ?_
            refine bk_r ?_
            refine nx_r ?_
            obtain rfl := Option.some.inj h
            exact endG1 rfl rfl (cv_sel [] 3 rfl rfl) ⟨rfl, rfl⟩
          · replace h := cond_f g25 h
            refine G_skip ?_
            refine bk_n ?_
            refine nx_n ?_
            refine G_region ?_
            refine G_ev (ev_move rfl) rfl rfl rfl ?_
            obtain ⟨q26, h⟩ := req_elim h
            refine G_ev (ev_add rfl rfl q26.1 q26.2) rfl rfl rfl ?_
            refine G_ev (ev_assign rfl) rfl rfl rfl ?_
            refine G_nil ?_
            refine nx_n ?_
            exact ⟨m20, _, _, Nat.lt_succ_self _, ⟨p21 + 1, h, rfl, rfl⟩, sub_cons rfl (sub_cons rfl (sub_cons rfl sub_nil)), cv_sel [0, 1, 2] 3 rfl rfl⟩
        · replace h := cond_f g22 h
          refine G_exit ?_
          refine nx_e ?_
          refine nx_e ?_
          refine bk_x ?_
          refine nx_n ?_
          exact ⟨_, _, ⟨h, rfl, rfl⟩, sub_cons rfl (sub_cons rfl sub_nil), cv_sel [0, 1, 2] 3 rfl rfl⟩
      · rintro _ _ ⟨h, rfl, rfl⟩
        refine G_seq ?_
        refine G_region ?_
        refine G_rd (rd_boxS (us := [.int .i64 a0.Kind, .int .i64 a0.Shape, .int .i64 a0.Flags, .int .i64 a0.Age, .slice A1 n1 c1, .slice A2 n2 c2]) 2 rfl rfl agg42 rfl) rfl rfl rfl ?_
        obtain ⟨y27, hy27, h⟩ := bind_elim h
        refine G_opd (op_callR (pantomimeref15_slots_ok hy27) call85 rfl (mem_cons (lent_ro (i := 0) rfl rfl) (mem_cons (lent_ro (i := 1) rfl rfl) mem_nil)) pantomimeref15_slots_free) rfl rfl rfl ?_
        rintro _ _ ⟨_, ⟨rfl, rfl⟩, rfl⟩
        refine G_ev (ev_move rfl) rfl rfl rfl ?_
        obtain ⟨b28, hb28, h⟩ := bind_elim h
        refine G_segb 3 71 b28 ?_ ?_
        · clear h
          refine G_case 68 rfl (fun g28 => ?_) (fun g28 => ?_)
          · have h := cond_t g28 hb28
            refine G_rd (rd_boxS (us := [.int .i64 a0.Kind, .int .i64 a0.Shape, .int .i64 a0.Flags, .int .i64 a0.Age, .slice A1 n1 c1, .slice A2 n2 c2]) 2 rfl rfl agg42 rfl) rfl (g_tt g28 rfl) rfl ?_
            obtain ⟨y29, hy29, h⟩ := bind_elim h
            refine G_opd (op_callR (pantomimeref15_more_ok hy29) call86 rfl (mem_cons (lent_ro (i := 0) rfl rfl) (mem_cons (lent_ro (i := 1) rfl rfl) mem_nil)) pantomimeref15_more_free) rfl (g_tt g28 rfl) rfl ?_
            rintro _ _ ⟨_, ⟨rfl, rfl⟩, rfl⟩
            refine G_ev (ev_pick_t' g28 rfl rfl) rfl rfl rfl ?_
            obtain rfl := Option.some.inj h
            exact G_joined (sub_cons rfl (sub_skip (sub_skip (sub_skip sub_refl rfl) rfl) rfl)) (cv_sel [0, 1, 2] 3 rfl rfl)
          · have h := cond_f g28 hb28
            refine G_no (g_tf g28 rfl) rfl ?_
            refine G_no (g_tf g28 rfl) rfl ?_
            refine G_ev (ev_pick_f' g28 rfl rfl) rfl rfl rfl ?_
            obtain rfl := Option.some.inj h
            exact G_joined (sub_cons rfl (sub_skip (sub_skip (sub_skip sub_refl rfl) rfl) rfl)) (cv_sel [0, 1, 2] 3 rfl rfl)
        refine G_ev (ev_assign rfl) rfl rfl rfl ?_
        refine G_nil ?_
        refine nx_n ?_
        refine G_ret ?_
        obtain rfl := Option.some.inj h
        exact endG1 rfl rfl (cv_sel [] 3 rfl rfl) ⟨rfl, rfl⟩
theorem pantomimeref15_Right_free {r : Bool} : ∀ v post, ((fun (u : Value) (post : List Chunk) => u = .bool r ∧ post = [])) v post → ∀ c ∈ post, Free c := by
  rintro _ _ ⟨rfl, rfl⟩; exact mem_nil
/-! pantomime/pantomimeref17.Is -/
def pantomimeref17_Is_O (N : Nat) (a0 : DCell) : Option Bool :=
  (bif decide (a0.Kind = 8) then ((pantomimeref15_Right_O N a0).bind fun y5 => some y5) else (some false)).bind fun b4 => some b4
theorem pantomimeref17_Is_ok {N : Nat} {a0 : DCell} {r : Bool} (h : pantomimeref17_Is_O N a0 = some r) {A1 : Option Addr} {n1 c1 : Nat} {A2 : Option Addr} {n2 c2 : Nat} : Okc Try.prog 51 [.agg #[.int .i64 a0.Kind, .int .i64 a0.Shape, .int .i64 a0.Flags, .int .i64 a0.Age, .slice A1 n1 c1, .slice A2 n2 c2]] ([slC rDValue (.slice A1 n1 c1) a0.Slots, slC rDValue (.slice A2 n2 c2) a0.More]) (fun (u : Value) (post : List Chunk) => u = .bool r ∧ post = []) := by
  refine ok_E Try.func51 rfl rfl ?_
  simp only [envOf]
  refine G_seq ?_
  refine G_region ?_
  refine G_opd (op_box rfl rfl) rfl rfl rfl ?_
  rintro _ _ ⟨B3, rfl, rfl⟩
  refine G_ev (ev_assign rfl) rfl rfl rfl ?_
  refine G_nil ?_
  refine nx_n ?_
  refine G_seq ?_
  refine G_region ?_
  refine G_ev (ev_fa0 rfl fa_42_0) rfl rfl rfl ?_
  refine G_rd (rd_box1 0 rfl rfl one3 rfl) rfl rfl rfl ?_
  refine G_ev (ev_eq rfl rfl) rfl rfl rfl ?_
  refine G_ev (ev_move rfl) rfl rfl rfl ?_
  obtain ⟨b4, hb4, h⟩ := bind_elim h
  refine G_segb 3 9 b4 ?_ ?_
  · clear h
    refine G_case 6 rfl (fun g4 => ?_) (fun g4 => ?_)
    · have h := cond_t g4 hb4
      refine G_rd (rd_boxS (us := [.int .i64 a0.Kind, .int .i64 a0.Shape, .int .i64 a0.Flags, .int .i64 a0.Age, .slice A1 n1 c1, .slice A2 n2 c2]) 0 rfl rfl agg42 rfl) rfl (g_tt g4 rfl) rfl ?_
      obtain ⟨y5, hy5, h⟩ := bind_elim h
      refine G_opd (op_callR (pantomimeref15_Right_ok hy5) call45 rfl (mem_cons (lent_ro (i := 1) rfl rfl) (mem_cons (lent_ro (i := 2) rfl rfl) mem_nil)) pantomimeref15_Right_free) rfl (g_tt g4 rfl) rfl ?_
      rintro _ _ ⟨_, ⟨rfl, rfl⟩, rfl⟩
      refine G_ev (ev_pick_t' g4 rfl rfl) rfl rfl rfl ?_
      obtain rfl := Option.some.inj h
      exact G_joined (sub_cons rfl (sub_skip (sub_skip (sub_skip sub_refl rfl) rfl) rfl)) (cv_sel [0, 1, 2] 3 rfl rfl)
    · have h := cond_f g4 hb4
      refine G_no (g_tf g4 rfl) rfl ?_
      refine G_no (g_tf g4 rfl) rfl ?_
      refine G_ev (ev_pick_f' g4 rfl rfl) rfl rfl rfl ?_
      obtain rfl := Option.some.inj h
      exact G_joined (sub_cons rfl (sub_skip (sub_skip (sub_skip sub_refl rfl) rfl) rfl)) (cv_sel [0, 1, 2] 3 rfl rfl)
  refine G_ev (ev_assign rfl) rfl rfl rfl ?_
  refine G_nil ?_
  refine nx_n ?_
  refine G_ret ?_
  obtain rfl := Option.some.inj h
  exact endG1 rfl rfl (cv_sel [] 3 rfl rfl) ⟨rfl, rfl⟩
theorem pantomimeref17_Is_free {r : Bool} : ∀ v post, ((fun (u : Value) (post : List Chunk) => u = .bool r ∧ post = [])) v post → ∀ c ∈ post, Free c := by
  rintro _ _ ⟨rfl, rfl⟩; exact mem_nil
/-! pantomime/pantomimeref17.In -/
def pantomimeref17_In_j2 (N : Nat) : Option Bool :=
  some false
def pantomimeref17_In_l3 (N : Nat) (a0 : Int) (a1 : (List Int)) : Nat → Int → Option Bool
  | 0, _ => none
  | m3 + 1, p4 => bif decide (p4 < (a1.length : Int)) then ((getE a1 p4).bind fun x6 => bif decide (x6 = a0) then (some true) else (req (in64 (p4 + 1)) ((pantomimeref17_In_l3 N a0 a1 m3) (p4 + 1)))) else (pantomimeref17_In_j2 N)
theorem pantomimeref17_In_l3_s {N m3 : Nat} {a0 : Int} {a1 : (List Int)} {p4 : Int} : pantomimeref17_In_l3 N a0 a1 (m3 + 1) p4 = bif decide (p4 < (a1.length : Int)) then ((getE a1 p4).bind fun x6 => bif decide (x6 = a0) then (some true) else (req (in64 (p4 + 1)) ((pantomimeref17_In_l3 N a0 a1 m3) (p4 + 1)))) else (pantomimeref17_In_j2 N) := rfl
def pantomimeref17_In_O (N : Nat) (a0 : Int) (a1 : (List Int)) : Option Bool :=
  pantomimeref17_In_l3 N a0 a1 N 0
theorem pantomimeref17_In_ok {N : Nat} {a0 : Int} {a1 : (List Int)} {r : Bool} (h : pantomimeref17_In_O N a0 a1 = some r) {A1 : Option Addr} {n1 c1 : Nat} : Okc Try.prog 52 [.int .i64 a0, .slice A1 n1 c1] ([slC (rInt .i64) (.slice A1 n1 c1) a1]) (fun (u : Value) (post : List Chunk) => u = .bool r ∧ post = []) := by
  refine ok_E Try.func52 rfl rfl ?_
  simp only [envOf]
  refine G_seq ?_
  refine G_region ?_
  refine G_ev (ev_assign rfl) rfl rfl rfl ?_
  refine G_nil ?_
  refine nx_n ?_
  refine G_joinF (fun s L => pantomimeref17_In_j2 N = some r ∧ s = [(4, .bool false)] ∧ L = []) ?_ ?_
  · refine G_seq ?_
    refine G_region ?_
    refine G_ev (ev_assign rfl) rfl rfl rfl ?_
    refine G_nil ?_
    refine nx_n ?_
    refine G_block ?_
    refine G_loopF (fun m s L => ∃ (p4 : Int), pantomimeref17_In_l3 N a0 a1 m p4 = some r ∧ s = [(0, .int .i64 a0), (1, .slice A1 n1 c1), (4, .bool false), (5, .int .i64 p4)] ∧ L = [slC (rInt .i64) (.slice A1 n1 c1) a1]) N _ _ ⟨0, h, rfl, rfl⟩ (sub_cons rfl (sub_cons rfl (sub_cons rfl (sub_cons rfl sub_nil)))) (cv_sel [0] 1 rfl rfl) ?_
    rintro (_ | m3) _ _ ⟨p4, h, rfl, rfl⟩
    · exact none_some h
    rw [pantomimeref17_In_l3_s] at h
    refine G_seq ?_
    refine G_seq ?_
    refine G_region ?_
    refine G_ev (ev_move rfl) rfl rfl rfl ?_
    refine G_ev (ev_move rfl) rfl rfl rfl ?_
    refine G_rd (rd_len 0 rfl els_sl rfl Try.underlying31) rfl rfl rfl ?_
    refine G_ev (ev_lt rfl rfl) rfl rfl rfl ?_
    refine G_nil ?_
    refine nx_n ?_
    refine G_cond rfl (fun g5 => ?_) (fun g5 => ?_)
    · replace h := cond_t g5 h
      refine G_skip ?_
      refine nx_n ?_
      refine G_seq ?_
      refine G_block ?_
      refine G_seq ?_
      refine G_region ?_
      refine G_ev (ev_move rfl) rfl rfl rfl ?_
      refine G_ev (ev_move rfl) rfl rfl rfl ?_
      obtain ⟨x6, hx6, h⟩ := bind_elim h
      obtain ⟨lx6, ux6, hx6⟩ := getE_elim hx6
      refine G_rd (rd_idx 0 rfl els_sl rfl rfl Try.underlying31 size3 lx6 ux6) rfl rfl rfl ?_
      refine G_rd (rd_elem1 (u := .int .i64 x6) 0 rfl els_sl rfl hx6 one3 (fun _ _ _ h => by rw [show _ = _ from h]; rfl)) rfl rfl rfl ?_
      refine G_ev (ev_move rfl) rfl rfl rfl ?_
      refine G_ev (ev_eq rfl rfl) rfl rfl rfl ?_
      refine G_nil ?_
      refine nx_n ?_
      refine G_cond rfl (fun g7 => ?_) (fun g7 => ?_)
      · replace h := cond_t g7 h
        refine G_seq ?_
        refine G_region ?_
        refine G_ev (ev_assign rfl) rfl rfl rfl ?_
        refine G_nil ?_
        refine nx_n ?_
        refine G_ret ?_
        refine bk_r ?_
        refine nx_r ?_
        refine nx_r ?_
        refine bk_r ?_
        refine nx_r ?_
        obtain rfl := Option.some.inj h
        exact endG1 rfl rfl (cv_sel [] 1 rfl rfl) ⟨rfl, rfl⟩
      · replace h := cond_f g7 h
        refine G_skip ?_
        refine bk_n ?_
        refine nx_n ?_
        refine G_region ?_
        refine G_ev (ev_move rfl) rfl rfl rfl ?_
        obtain ⟨q8, h⟩ := req_elim h
        refine G_ev (ev_add rfl rfl q8.1 q8.2) rfl rfl rfl ?_
        refine G_ev (ev_assign rfl) rfl rfl rfl ?_
        refine G_nil ?_
        refine nx_n ?_
        exact ⟨m3, _, _, Nat.lt_succ_self _, ⟨p4 + 1, h, rfl, rfl⟩, sub_cons rfl (sub_cons rfl (sub_cons rfl (sub_cons rfl sub_nil))), cv_sel [0] 1 rfl rfl⟩
    · replace h := cond_f g5 h
      refine G_exit ?_
      refine nx_e ?_
      refine nx_e ?_
      refine bk_x ?_
      refine nx_n ?_
      exact ⟨_, _, ⟨h, rfl, rfl⟩, sub_cons rfl sub_nil, cv_sel [] 1 rfl rfl⟩
  · rintro _ _ ⟨h, rfl, rfl⟩
    refine G_seq ?_
    refine G_region ?_
    refine G_ev (ev_assign rfl) rfl rfl rfl ?_
    refine G_nil ?_
    refine nx_n ?_
    refine G_ret ?_
    obtain rfl := Option.some.inj h
    exact endG1 rfl rfl (cv_sel [] 0 rfl rfl) ⟨rfl, rfl⟩
theorem pantomimeref17_In_free {r : Bool} : ∀ v post, ((fun (u : Value) (post : List Chunk) => u = .bool r ∧ post = [])) v post → ∀ c ∈ post, Free c := by
  rintro _ _ ⟨rfl, rfl⟩; exact mem_nil
/-! pantomime/pantomimeref17.Opens -/
def pantomimeref17_Opens_j5 (N : Nat) (p6 : (List Int)) : Option (List Int) :=
  some p6
def pantomimeref17_Opens_j14 (N : Nat) (kb7 : (List Int) → Int → Option (List Int)) (p9 : Int) (a1 : (List Int)) (a0 : DCell) (p15 : (List Int)) : Option (List Int) :=
  req (in64 (p9 + 2)) (kb7 p15 (p9 + 2))
def pantomimeref17_Opens_l7 (N : Nat) (a1 : (List Int)) (a0 : DCell) : Nat → (List Int) → Int → Option (List Int)
  | 0, _, _ => none
  | m7 + 1, p8, p9 => (pantomimeref17_Is_O N a0).bind fun y11 => (bif y11 then (some (decide (p9 < (a0.More.length : Int)))) else (some false)).bind fun b12 => bif b12 then (req (in64 (p9 + 1)) ((getE a0.More (p9 + 1)).bind fun x17 => (getE a0.More p9).bind fun x19 => (pantomimeref17_In_O N x19.N a1).bind fun y20 => (bif y20 then ((bif decide (x17.Kind = 7) then (some true) else (some (decide (x17.Kind = 9)))).bind fun b22 => some b22) else (some false)).bind fun b21 => bif b21 then (req (fitsL (p8.length + ([x17.N] : List Int).length)) (pantomimeref17_Opens_j14 N (pantomimeref17_Opens_l7 N a1 a0 m7) p9 a1 a0 (p8 ++ ([x17.N] : List Int)))) else (pantomimeref17_Opens_j14 N (pantomimeref17_Opens_l7 N a1 a0 m7) p9 a1 a0 p8))) else (pantomimeref17_Opens_j5 N p8)
theorem pantomimeref17_Opens_l7_s {N m7 : Nat} {a1 : (List Int)} {a0 : DCell} {p8 : (List Int)} {p9 : Int} : pantomimeref17_Opens_l7 N a1 a0 (m7 + 1) p8 p9 = (pantomimeref17_Is_O N a0).bind fun y11 => (bif y11 then (some (decide (p9 < (a0.More.length : Int)))) else (some false)).bind fun b12 => bif b12 then (req (in64 (p9 + 1)) ((getE a0.More (p9 + 1)).bind fun x17 => (getE a0.More p9).bind fun x19 => (pantomimeref17_In_O N x19.N a1).bind fun y20 => (bif y20 then ((bif decide (x17.Kind = 7) then (some true) else (some (decide (x17.Kind = 9)))).bind fun b22 => some b22) else (some false)).bind fun b21 => bif b21 then (req (fitsL (p8.length + ([x17.N] : List Int).length)) (pantomimeref17_Opens_j14 N (pantomimeref17_Opens_l7 N a1 a0 m7) p9 a1 a0 (p8 ++ ([x17.N] : List Int)))) else (pantomimeref17_Opens_j14 N (pantomimeref17_Opens_l7 N a1 a0 m7) p9 a1 a0 p8))) else (pantomimeref17_Opens_j5 N p8) := rfl
def pantomimeref17_Opens_O (N : Nat) (a0 : DCell) (a1 : (List Int)) : Option (List Int) :=
  pantomimeref17_Opens_l7 N a1 a0 N [] 0
theorem pantomimeref17_Opens_ok {N : Nat} {a0 : DCell} {a1 : (List Int)} {r : (List Int)} (h : pantomimeref17_Opens_O N a0 a1 = some r) {A1 : Option Addr} {n1 c1 : Nat} {A2 : Option Addr} {n2 c2 : Nat} {A3 : Option Addr} {n3 c3 : Nat} : Okc Try.prog 21 [.agg #[.int .i64 a0.Kind, .int .i64 a0.Shape, .int .i64 a0.Flags, .int .i64 a0.Age, .slice A1 n1 c1, .slice A2 n2 c2], .slice A3 n3 c3] ([slC rDValue (.slice A1 n1 c1) a0.Slots, slC rDValue (.slice A2 n2 c2) a0.More, slC (rInt .i64) (.slice A3 n3 c3) a1]) (fun (u : Value) (post : List Chunk) => ∃ A0 n0 c0, u = .slice A0 n0 c0 ∧ post = [ownC (rInt .i64) 3 (.slice A0 n0 c0) r]) := by
  refine ok_E Try.func21 rfl rfl ?_
  simp only [envOf]
  refine G_seq ?_
  refine G_region ?_
  refine G_opd (op_box rfl rfl) rfl rfl rfl ?_
  rintro _ _ ⟨B4, rfl, rfl⟩
  refine G_ev (ev_assign rfl) rfl rfl rfl ?_
  refine G_nil ?_
  refine nx_n ?_
  refine G_seq ?_
  refine G_region ?_
  refine G_ev (ev_assign rfl) rfl rfl rfl ?_
  refine G_nil ?_
  refine nx_n ?_
  refine G_joinF (fun s L => ∃ (p6 : (List Int)) (A6 : Option Addr) (n6 c6 : Nat), pantomimeref17_Opens_j5 N p6 = some r ∧ s = [(4, .slice none 0 0), (5, .slice A6 n6 c6)] ∧ L = [ownC (rInt .i64) 3 (.slice A6 n6 c6) p6]) ?_ ?_
  · refine G_seq ?_
    refine G_region ?_
    refine G_ev (ev_assign rfl) rfl rfl rfl ?_
    refine G_nil ?_
    refine nx_n ?_
    refine G_block ?_
    refine G_loopF (fun m s L => ∃ (p8 : (List Int)) (p9 : Int) (A8 : Option Addr) (n8 c8 : Nat), pantomimeref17_Opens_l7 N a1 a0 m p8 p9 = some r ∧ s = [(1, .slice A3 n3 c3), (2, .pointer (some ⟨B4, 0, none⟩)), (4, .slice none 0 0), (5, .slice A8 n8 c8), (6, .int .i64 p9)] ∧ L = [slC (rInt .i64) (.slice A3 n3 c3) a1, ownC (rInt .i64) 3 (.slice A8 n8 c8) p8, slC rDValue (.slice A1 n1 c1) a0.Slots, slC rDValue (.slice A2 n2 c2) a0.More, boxC B4 42 [.int .i64 a0.Kind, .int .i64 a0.Shape, .int .i64 a0.Flags, .int .i64 a0.Age, .slice A1 n1 c1, .slice A2 n2 c2]]) N _ _ ⟨[], 0, none, 0, 0, h, rfl, rfl⟩ (sub_cons rfl (sub_cons rfl (sub_cons rfl (sub_cons rfl (sub_cons rfl sub_nil))))) ((cv_nil (rInt .i64) 3 _).trans (cv_sel [4, 0, 2, 3, 1] 5 rfl rfl)) ?_
    rintro (_ | m7) _ _ ⟨p8, p9, A8, n8, c8, h, rfl, rfl⟩
    · exact none_some h
    rw [pantomimeref17_Opens_l7_s] at h
    refine G_seq ?_
    refine G_seq ?_
    refine G_region ?_
    refine G_rd (rd_boxS (us := [.int .i64 a0.Kind, .int .i64 a0.Shape, .int .i64 a0.Flags, .int .i64 a0.Age, .slice A1 n1 c1, .slice A2 n2 c2]) 4 rfl rfl agg42 rfl) rfl rfl rfl ?_
    obtain ⟨y11, hy11, h⟩ := bind_elim h
    refine G_opd (op_callR (pantomimeref17_Is_ok hy11) call51 rfl (mem_cons (lent_ro (i := 2) rfl rfl) (mem_cons (lent_ro (i := 3) rfl rfl) mem_nil)) pantomimeref17_Is_free) rfl rfl rfl ?_
    rintro _ _ ⟨_, ⟨rfl, rfl⟩, rfl⟩
    refine G_ev (ev_move rfl) rfl rfl rfl ?_
    obtain ⟨b12, hb12, h⟩ := bind_elim h
    refine G_segb 6 16 b12 ?_ ?_
    · clear h
      refine G_case 10 rfl (fun g12 => ?_) (fun g12 => ?_)
      · have h := cond_t g12 hb12
        refine G_ev (ev_move rfl) rfl (g_tt g12 rfl) rfl ?_
        refine G_ev (ev_fa rfl fa_42_5) rfl (g_tt g12 rfl) rfl ?_
        refine G_rd (rd_box1 4 rfl rfl one25 rfl) rfl (g_tt g12 rfl) rfl ?_
        refine G_rd (rd_len 3 rfl els_sl rfl Try.underlying25) rfl (g_tt g12 rfl) rfl ?_
        refine G_ev (ev_lt rfl rfl) rfl (g_tt g12 rfl) rfl ?_
        refine G_ev (ev_pick_t' g12 rfl rfl) rfl rfl rfl ?_
        obtain rfl := Option.some.inj h
        exact G_joined (sub_cons rfl (sub_skip (sub_skip (sub_skip (sub_skip (sub_skip (sub_skip sub_refl rfl) rfl) rfl) rfl) rfl) rfl)) (cv_sel [0, 1, 2, 3, 4] 5 rfl rfl)
      · have h := cond_f g12 hb12
        refine G_no (g_tf g12 rfl) rfl ?_
        refine G_no (g_tf g12 rfl) rfl ?_
        refine G_no (g_tf g12 rfl) rfl ?_
        refine G_no (g_tf g12 rfl) rfl ?_
        refine G_no (g_tf g12 rfl) rfl ?_
        refine G_ev (ev_pick_f' g12 rfl rfl) rfl rfl rfl ?_
        obtain rfl := Option.some.inj h
        exact G_joined (sub_cons rfl (sub_skip (sub_skip (sub_skip (sub_skip (sub_skip (sub_skip sub_refl rfl) rfl) rfl) rfl) rfl) rfl)) (cv_sel [0, 1, 2, 3, 4] 5 rfl rfl)
    refine G_nil ?_
    refine nx_n ?_
    refine G_cond rfl (fun g13 => ?_) (fun g13 => ?_)
    · replace h := cond_t g13 h
      refine G_skip ?_
      refine nx_n ?_
      refine G_joinF (fun s L => ∃ (p15 : (List Int)) (A15 : Option Addr) (n15 c15 : Nat), pantomimeref17_Opens_j14 N (pantomimeref17_Opens_l7 N a1 a0 m7) p9 a1 a0 p15 = some r ∧ s = [(1, .slice A3 n3 c3), (2, .pointer (some ⟨B4, 0, none⟩)), (4, .slice none 0 0), (5, .slice A15 n15 c15), (6, .int .i64 p9)] ∧ L = [slC (rInt .i64) (.slice A3 n3 c3) a1, ownC (rInt .i64) 3 (.slice A15 n15 c15) p15, slC rDValue (.slice A1 n1 c1) a0.Slots, slC rDValue (.slice A2 n2 c2) a0.More, boxC B4 42 [.int .i64 a0.Kind, .int .i64 a0.Shape, .int .i64 a0.Flags, .int .i64 a0.Age, .slice A1 n1 c1, .slice A2 n2 c2]]) ?_ ?_
      · refine G_block ?_
        refine G_seq ?_
        refine G_region ?_
        refine G_ev (ev_fa rfl fa_42_5) rfl rfl rfl ?_
        refine G_rd (rd_box1 4 rfl rfl one25 rfl) rfl rfl rfl ?_
        refine G_ev (ev_move rfl) rfl rfl rfl ?_
        obtain ⟨q16, h⟩ := req_elim h
        refine G_ev (ev_add rfl rfl q16.1 q16.2) rfl rfl rfl ?_
        obtain ⟨x17, hx17, h⟩ := bind_elim h
        obtain ⟨lx17, ux17, hx17⟩ := getE_elim hx17
        refine G_rd (rd_idx 3 rfl els_sl rfl rfl Try.underlying25 size38 lx17 ux17) rfl rfl rfl ?_
        refine G_rd (rd_elemS (us := [.int .i64 x17.Kind, .int .i64 x17.N, .string x17.S]) 3 rfl els_sl rfl hx17 agg38 (fun _ _ _ h => by rw [show _ = _ from h]; rfl)) rfl rfl rfl ?_
        refine G_opd (op_alloc zero38 rfl) rfl rfl rfl ?_
        rintro _ _ ⟨B18, rfl, rfl⟩
        refine G_opn (op_store (us := [.int .i64 x17.Kind, .int .i64 x17.N, .string x17.S]) (cs' := [.int .i64 x17.Kind, .int .i64 x17.N, .string x17.S]) 0 rfl rfl rfl rfl size38 rfl rfl rfl) rfl rfl ?_
        rintro _ _ rfl
        refine G_norm ([boxC B18 38 [.int .i64 x17.Kind, .int .i64 x17.N, .string x17.S], slC (rInt .i64) (.slice A3 n3 c3) a1, ownC (rInt .i64) 3 (.slice A8 n8 c8) p8, slC rDValue (.slice A1 n1 c1) a0.Slots, slC rDValue (.slice A2 n2 c2) a0.More, boxC B4 42 [.int .i64 a0.Kind, .int .i64 a0.Shape, .int .i64 a0.Flags, .int .i64 a0.Age, .slice A1 n1 c1, .slice A2 n2 c2]]) rfl ?_
        refine G_nil ?_
        refine nx_n ?_
        refine G_seq ?_
        refine G_region ?_
        refine G_ev (ev_fa rfl fa_42_5) rfl rfl rfl ?_
        refine G_rd (rd_box1 5 rfl rfl one25 rfl) rfl rfl rfl ?_
        refine G_ev (ev_move rfl) rfl rfl rfl ?_
        obtain ⟨x19, hx19, h⟩ := bind_elim h
        obtain ⟨lx19, ux19, hx19⟩ := getE_elim hx19
        refine G_rd (rd_idx 4 rfl els_sl rfl rfl Try.underlying25 size38 lx19 ux19) rfl rfl rfl ?_
        refine G_rd (rd_fa 4 rfl els_sl rfl (toNat_lt lx19 ux19) fa_38_1) rfl rfl rfl ?_
        refine G_rd (rd_elem1 (u := .int .i64 x19.N) 4 rfl els_sl rfl hx19 one3 (fun _ _ _ h => by rw [show _ = _ from h]; rfl)) rfl rfl rfl ?_
        refine G_ev (ev_move rfl) rfl rfl rfl ?_
        obtain ⟨y20, hy20, h⟩ := bind_elim h
        refine G_opd (op_callR (pantomimeref17_In_ok hy20) call52 rfl (mem_cons (lent_ro (i := 1) rfl rfl) mem_nil) pantomimeref17_In_free) rfl rfl rfl ?_
        rintro _ _ ⟨_, ⟨rfl, rfl⟩, rfl⟩
        refine G_ev (ev_move rfl) rfl rfl rfl ?_
        obtain ⟨b21, hb21, h⟩ := bind_elim h
        refine G_segb 9 42 b21 ?_ ?_
        · clear h
          refine G_case 33 rfl (fun g21 => ?_) (fun g21 => ?_)
          · have h := cond_t g21 hb21
            refine G_ev (ev_fa0 rfl fa_38_0) rfl (g_tt g21 rfl) rfl ?_
            refine G_rd (rd_box1 0 rfl rfl one3 rfl) rfl (g_tt g21 rfl) rfl ?_
            refine G_ev (ev_eq rfl rfl) rfl (g_tt g21 rfl) rfl ?_
            refine G_ev (ev_move rfl) rfl (g_tt g21 rfl) rfl ?_
            obtain ⟨b22, hb22, h⟩ := bind_elim h
            refine G_segb 4 41 b22 ?_ ?_
            · clear h
              refine G_case 37 rfl (fun g22 => ?_) (fun g22 => ?_)
              · have h := cond_t g22 hb22
                refine G_no (g_ft g22 rfl) rfl ?_
                refine G_no (g_ft g22 rfl) rfl ?_
                refine G_no (g_ft g22 rfl) rfl ?_
                refine G_ev (ev_pick_t' g22 rfl rfl) rfl (g_tt g21 rfl) rfl ?_
                obtain rfl := Option.some.inj h
                exact G_joined (sub_cons rfl (sub_skip (sub_skip (sub_skip (sub_skip sub_refl rfl) rfl) rfl) rfl)) (cv_sel [0, 1, 2, 3, 4, 5] 6 rfl rfl)
              · have h := cond_f g22 hb22
                refine G_ev (ev_fa0 rfl fa_38_0) rfl (g_ff g22 rfl) rfl ?_
                refine G_rd (rd_box1 0 rfl rfl one3 rfl) rfl (g_ff g22 rfl) rfl ?_
                refine G_ev (ev_eq rfl rfl) rfl (g_ff g22 rfl) rfl ?_
                refine G_ev (ev_pick_f' g22 rfl rfl) rfl (g_tt g21 rfl) rfl ?_
                obtain rfl := Option.some.inj h
                exact G_joined (sub_cons rfl (sub_skip (sub_skip (sub_skip (sub_skip sub_refl rfl) rfl) rfl) rfl)) (cv_sel [0, 1, 2, 3, 4, 5] 6 rfl rfl)
            refine G_ev (ev_pick_t' g21 rfl rfl) rfl rfl rfl ?_
            obtain rfl := Option.some.inj h
            exact G_joined (sub_cons rfl (sub_skip (sub_skip (sub_skip (sub_skip (sub_skip (sub_skip sub_refl rfl) rfl) rfl) rfl) rfl) rfl)) (cv_sel [0, 1, 2, 3, 4, 5] 6 rfl rfl)
          · have h := cond_f g21 hb21
            refine G_no (g_tf g21 rfl) rfl ?_
            refine G_no (g_tf g21 rfl) rfl ?_
            refine G_no (g_tf g21 rfl) rfl ?_
            refine G_no (g_tf g21 rfl) rfl ?_
            refine G_no rfl rfl ?_
            refine G_no rfl rfl ?_
            refine G_no rfl rfl ?_
            refine G_no (g_tf g21 rfl) rfl ?_
            refine G_ev (ev_pick_f' g21 rfl rfl) rfl rfl rfl ?_
            obtain rfl := Option.some.inj h
            exact G_joined (sub_cons rfl (sub_skip (sub_skip (sub_skip (sub_skip (sub_skip (sub_skip (sub_skip (sub_skip (sub_skip sub_refl rfl) rfl) rfl) rfl) rfl) rfl) rfl) rfl) rfl)) (cv_sel [0, 1, 2, 3, 4, 5] 6 rfl rfl)
        refine G_nil ?_
        refine nx_n ?_
        refine G_cond rfl (fun g23 => ?_) (fun g23 => ?_)
        · replace h := cond_t g23 h
          refine G_region ?_
          refine G_ev (ev_move rfl) rfl rfl rfl ?_
          refine G_ev (ev_fa rfl fa_38_1) rfl rfl rfl ?_
          refine G_rd (rd_box1 0 rfl rfl one3 rfl) rfl rfl rfl ?_
          refine G_opd (op_bslice (R := (rInt .i64)) (vss := [[.int .i64 x17.N]]) (xs := [x17.N]) rfl (bsl_31_1 _) rfl rfl (fun _ _ hr => .cons rfl All2.nil)) rfl rfl rfl ?_
          rintro _ _ ⟨A24, n24, c24, rfl, rfl⟩
          obtain ⟨q25, h⟩ := req_elim h
          refine G_opd (op_append 3 0 rfl rfl els_own rfl rfl Try.underlying31 zb3 rfl rfl q25) rfl rfl rfl ?_
          rintro _ _ ⟨A26, n26, c26, rfl, rfl⟩
          refine G_norm ([ownC (rInt .i64) 3 (.slice A24 n24 c24) ([x17.N] : List Int), boxC B18 38 [.int .i64 x17.Kind, .int .i64 x17.N, .string x17.S], slC (rInt .i64) (.slice A3 n3 c3) a1, ownC (rInt .i64) 3 (.slice A26 n26 c26) (p8 ++ ([x17.N] : List Int)), slC rDValue (.slice A1 n1 c1) a0.Slots, slC rDValue (.slice A2 n2 c2) a0.More, boxC B4 42 [.int .i64 a0.Kind, .int .i64 a0.Shape, .int .i64 a0.Flags, .int .i64 a0.Age, .slice A1 n1 c1, .slice A2 n2 c2]]) rfl ?_
          refine G_ev (ev_assign rfl) rfl rfl rfl ?_
          refine G_nil ?_
          refine bk_n ?_
          refine nx_n ?_
          exact ⟨_, _, ⟨p8 ++ ([x17.N] : List Int), A26, n26, c26, h, rfl, rfl⟩, sub_cons rfl (sub_cons rfl (sub_cons rfl (sub_cons rfl (sub_cons rfl sub_nil)))), cv_sel [2, 3, 4, 5, 6] 7 rfl rfl⟩
        · replace h := cond_f g23 h
          refine G_skip ?_
          refine bk_n ?_
          refine nx_n ?_
          exact ⟨_, _, ⟨p8, A8, n8, c8, h, rfl, rfl⟩, sub_cons rfl (sub_cons rfl (sub_cons rfl (sub_cons rfl (sub_cons rfl sub_nil)))), cv_sel [1, 2, 3, 4, 5] 6 rfl rfl⟩
      · rintro _ _ ⟨p15, A15, n15, c15, h, rfl, rfl⟩
        refine G_region ?_
        refine G_ev (ev_move rfl) rfl rfl rfl ?_
        obtain ⟨q27, h⟩ := req_elim h
        refine G_ev (ev_add rfl rfl q27.1 q27.2) rfl rfl rfl ?_
        refine G_ev (ev_assign rfl) rfl rfl rfl ?_
        refine G_nil ?_
        refine nx_n ?_
        exact ⟨m7, _, _, Nat.lt_succ_self _, ⟨p15, p9 + 2, A15, n15, c15, h, rfl, rfl⟩, sub_cons rfl (sub_cons rfl (sub_cons rfl (sub_cons rfl (sub_cons rfl sub_nil)))), cv_sel [0, 1, 2, 3, 4] 5 rfl rfl⟩
    · replace h := cond_f g13 h
      refine G_exit ?_
      refine nx_e ?_
      refine nx_e ?_
      refine bk_x ?_
      refine nx_n ?_
      exact ⟨_, _, ⟨p8, A8, n8, c8, h, rfl, rfl⟩, sub_cons rfl (sub_cons rfl sub_nil), cv_sel [1] 5 rfl rfl⟩
  · rintro _ _ ⟨p6, A6, n6, c6, h, rfl, rfl⟩
    refine G_seq ?_
    refine G_region ?_
    refine G_ev (ev_move rfl) rfl rfl rfl ?_
    refine G_ev (ev_assign rfl) rfl rfl rfl ?_
    refine G_nil ?_
    refine nx_n ?_
    refine G_ret ?_
    obtain rfl := Option.some.inj h
    exact endG1 rfl rfl (cv_sel [0] 1 rfl rfl) ⟨_, _, _, rfl, rfl⟩
theorem pantomimeref17_Opens_free {r : (List Int)} : ∀ v post, ((fun (u : Value) (post : List Chunk) => ∃ A0 n0 c0, u = .slice A0 n0 c0 ∧ post = [ownC (rInt .i64) 3 (.slice A0 n0 c0) r])) v post → ∀ c ∈ post, Free c := by
  rintro _ _ ⟨_, _, _, rfl, rfl⟩; exact mem_cons free_own (mem_nil)
/-! pantomime/pantomimelaw19.ReachHeld -/
def pantomimelaw19_ReachHeld_j66 (N : Nat) : Option Bool :=
  (pantomimelaw19_goes_O N).bind fun y74 => some y74
def pantomimelaw19_ReachHeld_l67 (N : Nat) (y64 : ((List Int))) (y8 : ((List Int))) : Nat → Int → Option Bool
  | 0, _ => none
  | m67 + 1, p68 => bif decide (p68 < (y64.length : Int)) then ((getE y64 p68).bind fun x70 => (pantomimeref19_In_O N y8 x70).bind fun y71 => bif !y71 then (some false) else (req (in64 (p68 + 1)) ((pantomimelaw19_ReachHeld_l67 N y64 y8 m67) (p68 + 1)))) else (pantomimelaw19_ReachHeld_j66 N)
theorem pantomimelaw19_ReachHeld_l67_s {N m67 : Nat} {y64 : ((List Int))} {y8 : ((List Int))} {p68 : Int} : pantomimelaw19_ReachHeld_l67 N y64 y8 (m67 + 1) p68 = bif decide (p68 < (y64.length : Int)) then ((getE y64 p68).bind fun x70 => (pantomimeref19_In_O N y8 x70).bind fun y71 => bif !y71 then (some false) else (req (in64 (p68 + 1)) ((pantomimelaw19_ReachHeld_l67 N y64 y8 m67) (p68 + 1)))) else (pantomimelaw19_ReachHeld_j66 N) := rfl
def pantomimelaw19_ReachHeld_j25 (N : Nat) (a1 : (List DValue)) (y8 : ((List Int))) (a0 : DMemory) : Option Bool :=
  (reach_Strong_O N a0 a1).bind fun y64 => pantomimelaw19_ReachHeld_l67 N y64 y8 N 0
def pantomimelaw19_ReachHeld_j29 (N : Nat) (kb26 : Int → Option Bool) (y8 : ((List Int))) (p27 : Int) (a1 : (List DValue)) (a0 : DMemory) : Option Bool :=
  req (in64 (p27 + 1)) (kb26 (p27 + 1))
def pantomimelaw19_ReachHeld_j44 (N : Nat) (kb26 : Int → Option Bool) (p27 : Int) (y8 : ((List Int))) (a1 : (List DValue)) (a0 : DMemory) : Option Bool :=
  (bif decide (0 < p27) then ((getE y8 p27).bind fun x56 => req (in64 (p27 - 1)) ((getE y8 (p27 - 1)).bind fun x58 => some (decide (x56 ≤ x58)))) else (some false)).bind fun b55 => (bif b55 then (some true) else ((getE y8 p27).bind fun x60 => (pantomimeref19_Has_O N a0 x60).bind fun y61 => some (!y61))).bind fun b59 => bif b59 then (some false) else (pantomimelaw19_ReachHeld_j29 N kb26 y8 p27 a1 a0)
def pantomimelaw19_ReachHeld_l45 (N : Nat) (kb26 : Int → Option Bool) (p27 : Int) (y8 : ((List Int))) (y38 : ((List Int))) (y40 : ((List Int))) (a1 : (List DValue)) (a0 : DMemory) : Nat → Int → Option Bool
  | 0, _ => none
  | m45 + 1, p46 => bif decide (p46 < ((y38 ++ y40).length : Int)) then ((getE (y38 ++ y40) p46).bind fun x48 => (pantomimeref19_Has_O N a0 x48).bind fun y49 => (bif y49 then ((getE (y38 ++ y40) p46).bind fun x51 => (pantomimeref19_In_O N y8 x51).bind fun y52 => some (!y52)) else (some false)).bind fun b50 => bif b50 then (some false) else (req (in64 (p46 + 1)) ((pantomimelaw19_ReachHeld_l45 N kb26 p27 y8 y38 y40 a1 a0 m45) (p46 + 1)))) else (pantomimelaw19_ReachHeld_j44 N kb26 p27 y8 a1 a0)
theorem pantomimelaw19_ReachHeld_l45_s {N m45 : Nat} {kb26 : Int → Option Bool} {p27 : Int} {y8 : ((List Int))} {y38 : ((List Int))} {y40 : ((List Int))} {a1 : (List DValue)} {a0 : DMemory} {p46 : Int} : pantomimelaw19_ReachHeld_l45 N kb26 p27 y8 y38 y40 a1 a0 (m45 + 1) p46 = bif decide (p46 < ((y38 ++ y40).length : Int)) then ((getE (y38 ++ y40) p46).bind fun x48 => (pantomimeref19_Has_O N a0 x48).bind fun y49 => (bif y49 then ((getE (y38 ++ y40) p46).bind fun x51 => (pantomimeref19_In_O N y8 x51).bind fun y52 => some (!y52)) else (some false)).bind fun b50 => bif b50 then (some false) else (req (in64 (p46 + 1)) ((pantomimelaw19_ReachHeld_l45 N kb26 p27 y8 y38 y40 a1 a0 m45) (p46 + 1)))) else (pantomimelaw19_ReachHeld_j44 N kb26 p27 y8 a1 a0) := rfl
def pantomimelaw19_ReachHeld_l26 (N : Nat) (y8 : ((List Int))) (a1 : (List DValue)) (a0 : DMemory) : Nat → Int → Option Bool
  | 0, _ => none
  | m26 + 1, p27 => bif decide (p27 < (y8.length : Int)) then ((getE y8 p27).bind fun x30 => (pantomimeref19_At_O N a0 x30).bind fun y31 => (pantomimeref15_Leads_O N y31).bind fun y38 => (pantomimeref17_Opens_O N y31 y8).bind fun y40 => req (fitsL (y38.length + y40.length)) (pantomimelaw19_ReachHeld_l45 N (pantomimelaw19_ReachHeld_l26 N y8 a1 a0 m26) p27 y8 y38 y40 a1 a0 N 0)) else (pantomimelaw19_ReachHeld_j25 N a1 y8 a0)
theorem pantomimelaw19_ReachHeld_l26_s {N m26 : Nat} {y8 : ((List Int))} {a1 : (List DValue)} {a0 : DMemory} {p27 : Int} : pantomimelaw19_ReachHeld_l26 N y8 a1 a0 (m26 + 1) p27 = bif decide (p27 < (y8.length : Int)) then ((getE y8 p27).bind fun x30 => (pantomimeref19_At_O N a0 x30).bind fun y31 => (pantomimeref15_Leads_O N y31).bind fun y38 => (pantomimeref17_Opens_O N y31 y8).bind fun y40 => req (fitsL (y38.length + y40.length)) (pantomimelaw19_ReachHeld_l45 N (pantomimelaw19_ReachHeld_l26 N y8 a1 a0 m26) p27 y8 y38 y40 a1 a0 N 0)) else (pantomimelaw19_ReachHeld_j25 N a1 y8 a0) := rfl
def pantomimelaw19_ReachHeld_j10 (N : Nat) (a1 : (List DValue)) (y8 : ((List Int))) (a0 : DMemory) : Option Bool :=
  pantomimelaw19_ReachHeld_l26 N y8 a1 a0 N 0
def pantomimelaw19_ReachHeld_l11 (N : Nat) (a1 : (List DValue)) (y8 : ((List Int))) (a0 : DMemory) : Nat → Int → Option Bool
  | 0, _ => none
  | m11 + 1, p12 => bif decide (p12 < (a1.length : Int)) then ((getE a1 p12).bind fun x14 => (bif decide (x14.Kind = 7) then (some true) else ((getE a1 p12).bind fun x16 => some (decide (x16.Kind = 9)))).bind fun b15 => (bif b15 then ((getE a1 p12).bind fun x18 => (pantomimeref19_Has_O N a0 x18.N).bind fun y19 => some y19) else (some false)).bind fun b17 => (bif b17 then ((getE a1 p12).bind fun x21 => (pantomimeref19_In_O N y8 x21.N).bind fun y22 => some (!y22)) else (some false)).bind fun b20 => bif b20 then (some false) else (req (in64 (p12 + 1)) ((pantomimelaw19_ReachHeld_l11 N a1 y8 a0 m11) (p12 + 1)))) else (pantomimelaw19_ReachHeld_j10 N a1 y8 a0)
theorem pantomimelaw19_ReachHeld_l11_s {N m11 : Nat} {a1 : (List DValue)} {y8 : ((List Int))} {a0 : DMemory} {p12 : Int} : pantomimelaw19_ReachHeld_l11 N a1 y8 a0 (m11 + 1) p12 = bif decide (p12 < (a1.length : Int)) then ((getE a1 p12).bind fun x14 => (bif decide (x14.Kind = 7) then (some true) else ((getE a1 p12).bind fun x16 => some (decide (x16.Kind = 9)))).bind fun b15 => (bif b15 then ((getE a1 p12).bind fun x18 => (pantomimeref19_Has_O N a0 x18.N).bind fun y19 => some y19) else (some false)).bind fun b17 => (bif b17 then ((getE a1 p12).bind fun x21 => (pantomimeref19_In_O N y8 x21.N).bind fun y22 => some (!y22)) else (some false)).bind fun b20 => bif b20 then (some false) else (req (in64 (p12 + 1)) ((pantomimelaw19_ReachHeld_l11 N a1 y8 a0 m11) (p12 + 1)))) else (pantomimelaw19_ReachHeld_j10 N a1 y8 a0) := rfl
def pantomimelaw19_ReachHeld_O (N : Nat) (a0 : DMemory) (a1 : (List DValue)) : Option Bool :=
  (pantomimeref19_Few_O N a0 a1).bind fun y5 => bif !y5 then ((pantomimelaw19_goes_O N).bind fun y7 => some y7) else ((reach_Live_O N a0 a1).bind fun y8 => pantomimelaw19_ReachHeld_l11 N a1 y8 a0 N 0)
set_option maxHeartbeats 4000000 in
theorem pantomimelaw19_ReachHeld_ok {N : Nat} {a0 : DMemory} {a1 : (List DValue)} {r : Bool} (h : pantomimelaw19_ReachHeld_O N a0 a1 = some r) {A1 : Option Addr} {n1 c1 : Nat} {A2 : Option Addr} {n2 c2 : Nat} {A3 : Option Addr} {n3 c3 : Nat} : Okc Try.prog 4 [.agg #[.slice A1 n1 c1, .slice A2 n2 c2], .slice A3 n3 c3] ([slC rDCell (.slice A1 n1 c1) a0.Young, slC rDCell (.slice A2 n2 c2) a0.Old, slC rDValue (.slice A3 n3 c3) a1]) (fun (u : Value) (post : List Chunk) => u = .bool r ∧ post = []) := by
  refine ok_E Try.func4 rfl rfl ?_
  simp only [envOf]
  refine G_seq ?_
  refine G_region ?_
  refine G_opd (op_box rfl rfl) rfl rfl rfl ?_
  rintro _ _ ⟨B4, rfl, rfl⟩
  refine G_ev (ev_assign rfl) rfl rfl rfl ?_
  refine G_nil ?_
  refine nx_n ?_
  refine G_seq ?_
  refine G_seq ?_
  refine G_region ?_
  refine G_rd (rd_boxS (us := [.slice A1 n1 c1, .slice A2 n2 c2]) 0 rfl rfl agg24 rfl) rfl rfl rfl ?_
  refine G_ev (ev_move rfl) rfl rfl rfl ?_
  obtain ⟨y5, hy5, h⟩ := bind_elim h
  refine G_opd (op_callR (pantomimeref19_Few_ok hy5) call14 rfl (mem_cons (lent_ro (i := 1) rfl rfl) (mem_cons (lent_ro (i := 2) rfl rfl) (mem_cons (lent_ro (i := 3) rfl rfl) mem_nil))) pantomimeref19_Few_free) rfl rfl rfl ?_
  rintro _ _ ⟨_, ⟨rfl, rfl⟩, rfl⟩
  refine G_ev (ev_not rfl) rfl rfl rfl ?_
  refine G_nil ?_
  refine nx_n ?_
  refine G_cond rfl (fun g6 => ?_) (fun g6 => ?_)
  · replace h := cond_t g6 h
    refine G_seq ?_
    refine G_region ?_
    obtain ⟨y7, hy7, h⟩ := bind_elim h
    refine G_opd (op_callR (pantomimelaw19_goes_ok hy7) call15 rfl (mem_nil) pantomimelaw19_goes_free) rfl rfl rfl ?_
    rintro _ _ ⟨_, ⟨rfl, rfl⟩, rfl⟩
    refine G_ev (ev_assign rfl) rfl rfl rfl ?_
    refine G_nil ?_
    refine nx_n ?_
    refine G_ret ?_
    refine nx_r ?_
    obtain rfl := Option.some.inj h
    exact endG1 rfl rfl (cv_sel [] 4 rfl rfl) ⟨rfl, rfl⟩
  · replace h := cond_f g6 h
    refine G_skip ?_
    refine nx_n ?_
    refine G_seq ?_
    refine G_region ?_
    refine G_rd (rd_boxS (us := [.slice A1 n1 c1, .slice A2 n2 c2]) 0 rfl rfl agg24 rfl) rfl rfl rfl ?_
    refine G_ev (ev_move rfl) rfl rfl rfl ?_
    obtain ⟨y8, hy8, h⟩ := bind_elim h
    refine G_opd (op_callR (reach_Live_ok hy8) call16 rfl (mem_cons (lent_ro (i := 1) rfl rfl) (mem_cons (lent_ro (i := 2) rfl rfl) (mem_cons (lent_ro (i := 3) rfl rfl) mem_nil))) reach_Live_free) rfl rfl rfl ?_
    rintro _ _ ⟨_, ⟨A9, n9, c9, rfl, rfl⟩, rfl⟩
    refine G_ev (ev_assign rfl) rfl rfl rfl ?_
    refine G_nil ?_
    refine nx_n ?_
    refine G_joinF (fun s L => pantomimelaw19_ReachHeld_j10 N a1 y8 a0 = some r ∧ s = [(1, .slice A3 n3 c3), (2, .pointer (some ⟨B4, 0, none⟩)), (4, .bool false), (5, .slice A9 n9 c9)] ∧ L = [slC rDValue (.slice A3 n3 c3) a1, ownC (rInt .i64) 3 (.slice A9 n9 c9) y8, slC rDCell (.slice A1 n1 c1) a0.Young, slC rDCell (.slice A2 n2 c2) a0.Old, boxC B4 24 [.slice A1 n1 c1, .slice A2 n2 c2]]) ?_ ?_
    · refine G_seq ?_
      refine G_region ?_
      refine G_ev (ev_move rfl) rfl rfl rfl ?_
      refine G_rd (rd_len 4 rfl els_sl rfl Try.underlying25) rfl rfl rfl ?_
      refine G_ev (ev_move rfl) rfl rfl rfl ?_
      refine G_nil ?_
      refine nx_n ?_
      refine G_block ?_
      refine G_loopF (fun m s L => ∃ (p12 : Int), pantomimelaw19_ReachHeld_l11 N a1 y8 a0 m p12 = some r ∧ s = [(1, .slice A3 n3 c3), (2, .pointer (some ⟨B4, 0, none⟩)), (4, .bool false), (5, .slice A9 n9 c9), (22, .int .i64 (a1.length : Int)), (23, .int .i64 p12)] ∧ L = [slC rDValue (.slice A3 n3 c3) a1, ownC (rInt .i64) 3 (.slice A9 n9 c9) y8, slC rDCell (.slice A1 n1 c1) a0.Young, slC rDCell (.slice A2 n2 c2) a0.Old, boxC B4 24 [.slice A1 n1 c1, .slice A2 n2 c2]]) N _ _ ⟨0, h, rfl, rfl⟩ (sub_cons rfl (sub_cons rfl (sub_cons rfl (sub_cons rfl (sub_cons rfl (sub_cons rfl sub_nil)))))) (cv_sel [4, 0, 2, 3, 1] 5 rfl rfl) ?_
      rintro (_ | m11) _ _ ⟨p12, h, rfl, rfl⟩
      · exact none_some h
      rw [pantomimelaw19_ReachHeld_l11_s] at h
      refine G_seq ?_
      refine G_region ?_
      refine G_ev (ev_lt rfl rfl) rfl rfl rfl ?_
      refine G_nil ?_
      refine nx_n ?_
      refine G_seq ?_
      refine G_cond rfl (fun g13 => ?_) (fun g13 => ?_)
      · replace h := cond_t g13 h
        refine G_skip ?_
        refine nx_n ?_
        refine G_seq ?_
        refine G_block ?_
        refine G_seq ?_
        refine G_region ?_
        refine G_ev (ev_move rfl) rfl rfl rfl ?_
        refine G_ev (ev_assign rfl) rfl rfl rfl ?_
        refine G_nil ?_
        refine nx_n ?_
        refine G_seq ?_
        refine G_drawn (by kernel_rfl) _ (cv_refl _) ?_
        refine T3_ev 0 rfl (by kernel_rfl) (ev_move rfl) rfl rfl ?_
        refine T3_ev 1 rfl (by kernel_rfl) (ev_move rfl) rfl rfl ?_
        obtain ⟨x14, hx14, h⟩ := bind_elim h
        obtain ⟨lx14, ux14, hx14⟩ := getE_elim hx14
        refine T3_rd 2 rfl (by kernel_rfl) (rd_idx 0 rfl els_sl rfl rfl Try.underlying25 size38 lx14 ux14) rfl rfl ?_
        refine T3_rd 3 rfl (by kernel_rfl) (rd_fa0 0 rfl els_sl rfl (toNat_lt lx14 ux14) fa_38_0) rfl rfl ?_
        refine T3_rd 4 rfl (by kernel_rfl) (rd_elem1 (u := .int .i64 x14.Kind) 0 rfl els_sl rfl hx14 one3 (fun _ _ _ h => by rw [show _ = _ from h]; rfl)) rfl rfl ?_
        refine T3_ev 5 rfl (by kernel_rfl) (ev_eq rfl rfl) rfl rfl ?_
        refine T3_ev 6 rfl (by kernel_rfl) (ev_move rfl) rfl rfl ?_
        obtain ⟨b15, hb15, h⟩ := bind_elim h
        refine T3_joinB (fun l => (((((((l.setIfInBounds 7 true).setIfInBounds 8 true).setIfInBounds 9 true).setIfInBounds 10 true).setIfInBounds 11 true).setIfInBounds 12 true).setIfInBounds 13 true)) 19 39 b15 (fun rest => ?_) ?_
        · clear h
          refine T3_case 32 rfl (fun g15 => ?_) (fun g15 => ?_)
          · have h := cond_t g15 hb15
            refine T3_no 7 rfl (by kernel_rfl) (g_ft g15 rfl) rfl ?_
            refine T3_no 8 rfl (by kernel_rfl) (g_ft g15 rfl) rfl ?_
            refine T3_no 9 rfl (by kernel_rfl) (g_ft g15 rfl) rfl ?_
            refine T3_no 10 rfl (by kernel_rfl) (g_ft g15 rfl) rfl ?_
            refine T3_no 11 rfl (by kernel_rfl) (g_ft g15 rfl) rfl ?_
            refine T3_no 12 rfl (by kernel_rfl) (g_ft g15 rfl) rfl ?_
            refine T3_ev 13 rfl (by kernel_rfl) (ev_pick_t' g15 rfl rfl) rfl rfl ?_
            obtain rfl := Option.some.inj h
            exact T3_sub rest (sub_cons rfl (sub_skip (sub_skip (sub_skip (sub_skip (sub_skip (sub_skip (sub_skip sub_refl rfl) rfl) rfl) rfl) rfl) rfl) rfl)) (cv_refl _) (cv_refl _)
          · have h := cond_f g15 hb15
            refine T3_ev 7 rfl (by kernel_rfl) (ev_move rfl) (g_ff g15 rfl) rfl ?_
            refine T3_ev 8 rfl (by kernel_rfl) (ev_move rfl) (g_ff g15 rfl) rfl ?_
            obtain ⟨x16, hx16, h⟩ := bind_elim h
            obtain ⟨lx16, ux16, hx16⟩ := getE_elim hx16
            refine T3_rd 9 rfl (by kernel_rfl) (rd_idx 0 rfl els_sl rfl rfl Try.underlying25 size38 lx16 ux16) (g_ff g15 rfl) rfl ?_
            refine T3_rd 10 rfl (by kernel_rfl) (rd_fa0 0 rfl els_sl rfl (toNat_lt lx16 ux16) fa_38_0) (g_ff g15 rfl) rfl ?_
            refine T3_rd 11 rfl (by kernel_rfl) (rd_elem1 (u := .int .i64 x16.Kind) 0 rfl els_sl rfl hx16 one3 (fun _ _ _ h => by rw [show _ = _ from h]; rfl)) (g_ff g15 rfl) rfl ?_
            refine T3_ev 12 rfl (by kernel_rfl) (ev_eq rfl rfl) (g_ff g15 rfl) rfl ?_
            refine T3_ev 13 rfl (by kernel_rfl) (ev_pick_f' g15 rfl rfl) rfl rfl ?_
            obtain rfl := Option.some.inj h
            exact T3_sub rest (sub_cons rfl (sub_skip (sub_skip (sub_skip (sub_skip (sub_skip (sub_skip (sub_skip sub_refl rfl) rfl) rfl) rfl) rfl) rfl) rfl)) (cv_refl _) (cv_refl _)
        refine T3_ev 14 rfl (by kernel_rfl) (ev_move rfl) rfl rfl ?_
        obtain ⟨b17, hb17, h⟩ := bind_elim h
        refine T3_joinB (fun l => ((((((((l.setIfInBounds 15 true).setIfInBounds 16 true).setIfInBounds 17 true).setIfInBounds 18 true).setIfInBounds 19 true).setIfInBounds 20 true).setIfInBounds 21 true).setIfInBounds 22 true)) 10 48 b17 (fun rest => ?_) ?_
        · clear h
          refine T3_case 40 rfl (fun g17 => ?_) (fun g17 => ?_)
          · have h := cond_t g17 hb17
            refine T3_rd 15 rfl (by kernel_rfl) (rd_boxS (us := [.slice A1 n1 c1, .slice A2 n2 c2]) 4 rfl rfl agg24 rfl) (g_tt g17 rfl) rfl ?_
            refine T3_ev 16 rfl (by kernel_rfl) (ev_move rfl) (g_tt g17 rfl) rfl ?_
            refine T3_ev 17 rfl (by kernel_rfl) (ev_move rfl) (g_tt g17 rfl) rfl ?_
            obtain ⟨x18, hx18, h⟩ := bind_elim h
            obtain ⟨lx18, ux18, hx18⟩ := getE_elim hx18
            refine T3_rd 18 rfl (by kernel_rfl) (rd_idx 0 rfl els_sl rfl rfl Try.underlying25 size38 lx18 ux18) (g_tt g17 rfl) rfl ?_
            refine T3_rd 19 rfl (by kernel_rfl) (rd_fa 0 rfl els_sl rfl (toNat_lt lx18 ux18) fa_38_1) (g_tt g17 rfl) rfl ?_
            refine T3_rd 20 rfl (by kernel_rfl) (rd_elem1 (u := .int .i64 x18.N) 0 rfl els_sl rfl hx18 one3 (fun _ _ _ h => by rw [show _ = _ from h]; rfl)) (g_tt g17 rfl) rfl ?_
            obtain ⟨y19, hy19, h⟩ := bind_elim h
            refine T3_opd 21 rfl (by kernel_rfl) (op_callR (pantomimeref19_Has_ok hy19) call17 rfl (mem_cons (lent_ro (i := 2) rfl rfl) (mem_cons (lent_ro (i := 3) rfl rfl) mem_nil)) pantomimeref19_Has_free) rfl (g_tt g17 rfl) rfl ?_
            rintro _ _ ⟨_, ⟨rfl, rfl⟩, rfl⟩
            refine ⟨_, cv_refl _, cv_refl _, ?_⟩
            refine T3_ev 22 rfl (by kernel_rfl) (ev_pick_t' g17 rfl rfl) rfl rfl ?_
            obtain rfl := Option.some.inj h
            exact T3_sub rest (sub_cons rfl (sub_skip (sub_skip (sub_skip (sub_skip (sub_skip (sub_skip (sub_skip (sub_skip sub_refl rfl) rfl) rfl) rfl) rfl) rfl) rfl) rfl)) (cv_refl _) (cv_refl _)
          · have h := cond_f g17 hb17
            refine T3_no 15 rfl (by kernel_rfl) (g_tf g17 rfl) rfl ?_
            refine T3_no 16 rfl (by kernel_rfl) (g_tf g17 rfl) rfl ?_
            refine T3_no 17 rfl (by kernel_rfl) (g_tf g17 rfl) rfl ?_
            refine T3_no 18 rfl (by kernel_rfl) (g_tf g17 rfl) rfl ?_
            refine T3_no 19 rfl (by kernel_rfl) (g_tf g17 rfl) rfl ?_
            refine T3_no 20 rfl (by kernel_rfl) (g_tf g17 rfl) rfl ?_
            refine T3_no 21 rfl (by kernel_rfl) (g_tf g17 rfl) rfl ?_
            refine T3_ev 22 rfl (by kernel_rfl) (ev_pick_f' g17 rfl rfl) rfl rfl ?_
            obtain rfl := Option.some.inj h
            exact T3_sub rest (sub_cons rfl (sub_skip (sub_skip (sub_skip (sub_skip (sub_skip (sub_skip (sub_skip (sub_skip sub_refl rfl) rfl) rfl) rfl) rfl) rfl) rfl) rfl)) (cv_refl _) (cv_refl _)
        refine T3_ev 23 rfl (by kernel_rfl) (ev_move rfl) rfl rfl ?_
        obtain ⟨b20, hb20, h⟩ := bind_elim h
        refine T3_joinB (fun l => (((((((((l.setIfInBounds 24 true).setIfInBounds 25 true).setIfInBounds 26 true).setIfInBounds 27 true).setIfInBounds 28 true).setIfInBounds 29 true).setIfInBounds 30 true).setIfInBounds 31 true).setIfInBounds 32 true)) 0 58 b20 (fun rest => ?_) ?_
        · clear h
          refine T3_case 49 rfl (fun g20 => ?_) (fun g20 => ?_)
          · have h := cond_t g20 hb20
            refine T3_ev 24 rfl (by kernel_rfl) (ev_move rfl) (g_tt g20 rfl) rfl ?_
            refine T3_ev 25 rfl (by kernel_rfl) (ev_move rfl) (g_tt g20 rfl) rfl ?_
            refine T3_ev 26 rfl (by kernel_rfl) (ev_move rfl) (g_tt g20 rfl) rfl ?_
            obtain ⟨x21, hx21, h⟩ := bind_elim h
            obtain ⟨lx21, ux21, hx21⟩ := getE_elim hx21
            refine T3_rd 27 rfl (by kernel_rfl) (rd_idx 0 rfl els_sl rfl rfl Try.underlying25 size38 lx21 ux21) (g_tt g20 rfl) rfl ?_
            refine T3_rd 28 rfl (by kernel_rfl) (rd_fa 0 rfl els_sl rfl (toNat_lt lx21 ux21) fa_38_1) (g_tt g20 rfl) rfl ?_
            refine T3_rd 29 rfl (by kernel_rfl) (rd_elem1 (u := .int .i64 x21.N) 0 rfl els_sl rfl hx21 one3 (fun _ _ _ h => by rw [show _ = _ from h]; rfl)) (g_tt g20 rfl) rfl ?_
            obtain ⟨y22, hy22, h⟩ := bind_elim h
            refine T3_opd 30 rfl (by kernel_rfl) (op_callR (pantomimeref19_In_ok hy22) call18 rfl (mem_cons (lent_own (i := 1) rfl) mem_nil) pantomimeref19_In_free) rfl (g_tt g20 rfl) rfl ?_
            rintro _ _ ⟨_, ⟨rfl, rfl⟩, rfl⟩
            refine ⟨_, cv_refl _, cv_refl _, ?_⟩
            refine T3_ev 31 rfl (by kernel_rfl) (ev_not rfl) (g_tt g20 rfl) rfl ?_
            refine T3_ev 32 rfl (by kernel_rfl) (ev_pick_t' g20 rfl rfl) rfl rfl ?_
            obtain rfl := Option.some.inj h
            exact T3_sub rest (sub_cons rfl (sub_skip (sub_skip (sub_skip (sub_skip (sub_skip (sub_skip (sub_skip (sub_skip (sub_skip sub_refl rfl) rfl) rfl) rfl) rfl) rfl) rfl) rfl) rfl)) (cv_refl _) (cv_refl _)
          · have h := cond_f g20 hb20
            refine T3_no 24 rfl (by kernel_rfl) (g_tf g20 rfl) rfl ?_
            refine T3_no 25 rfl (by kernel_rfl) (g_tf g20 rfl) rfl ?_
            refine T3_no 26 rfl (by kernel_rfl) (g_tf g20 rfl) rfl ?_
            refine T3_no 27 rfl (by kernel_rfl) (g_tf g20 rfl) rfl ?_
            refine T3_no 28 rfl (by kernel_rfl) (g_tf g20 rfl) rfl ?_
            refine T3_no 29 rfl (by kernel_rfl) (g_tf g20 rfl) rfl ?_
            refine T3_no 30 rfl (by kernel_rfl) (g_tf g20 rfl) rfl ?_
            refine T3_no 31 rfl (by kernel_rfl) (g_tf g20 rfl) rfl ?_
            refine T3_ev 32 rfl (by kernel_rfl) (ev_pick_f' g20 rfl rfl) rfl rfl ?_
            obtain rfl := Option.some.inj h
            exact T3_sub rest (sub_cons rfl (sub_skip (sub_skip (sub_skip (sub_skip (sub_skip (sub_skip (sub_skip (sub_skip (sub_skip sub_refl rfl) rfl) rfl) rfl) rfl) rfl) rfl) rfl) rfl)) (cv_refl _) (cv_refl _)
        refine T3_done (by kernel_rfl) ?_
        refine nx_n ?_
        refine G_cond rfl (fun g23 => ?_) (fun g23 => ?_)
        · replace h := cond_t g23 h
          refine G_seq ?_
          refine G_region ?_
          refine G_ev (ev_assign rfl) rfl rfl rfl ?_
          refine G_nil ?_
          refine nx_n ?_
          refine G_ret ?_
          refine bk_r ?_
          refine nx_r ?_
          refine nx_r ?_
          refine bk_r ?_
          refine nx_r ?_
          obtain rfl := Option.some.inj h
          exact endG1 rfl rfl (cv_sel [] 5 rfl rfl) ⟨rfl, rfl⟩
        · replace h := cond_f g23 h
          refine G_skip ?_
          refine bk_n ?_
          refine nx_n ?_
          refine G_region ?_
          obtain ⟨q24, h⟩ := req_elim h
          refine G_ev (ev_add rfl rfl q24.1 q24.2) rfl rfl rfl ?_
          refine G_ev (ev_move rfl) rfl rfl rfl ?_
          refine G_nil ?_
          refine nx_n ?_
          exact ⟨m11, _, _, Nat.lt_succ_self _, ⟨p12 + 1, h, rfl, rfl⟩, sub_cons rfl (sub_cons rfl (sub_cons rfl (sub_cons rfl (sub_cons rfl (sub_cons rfl sub_nil))))), cv_sel [0, 1, 2, 3, 4] 5 rfl rfl⟩
      · replace h := cond_f g13 h
        refine G_exit ?_
        refine nx_e ?_
        refine nx_e ?_
        refine bk_x ?_
        refine nx_n ?_
        exact ⟨_, _, ⟨h, rfl, rfl⟩, sub_cons rfl (sub_cons rfl (sub_cons rfl (sub_cons rfl sub_nil))), cv_sel [0, 1, 2, 3, 4] 5 rfl rfl⟩
    · rintro _ _ ⟨h, rfl, rfl⟩
      refine G_joinF (fun s L => pantomimelaw19_ReachHeld_j25 N a1 y8 a0 = some r ∧ s = [(1, .slice A3 n3 c3), (2, .pointer (some ⟨B4, 0, none⟩)), (4, .bool false), (5, .slice A9 n9 c9)] ∧ L = [slC rDValue (.slice A3 n3 c3) a1, ownC (rInt .i64) 3 (.slice A9 n9 c9) y8, slC rDCell (.slice A1 n1 c1) a0.Young, slC rDCell (.slice A2 n2 c2) a0.Old, boxC B4 24 [.slice A1 n1 c1, .slice A2 n2 c2]]) ?_ ?_
      · refine G_seq ?_
        refine G_region ?_
        refine G_ev (ev_move rfl) rfl rfl rfl ?_
        refine G_rd (rd_len 1 rfl els_own rfl Try.underlying31) rfl rfl rfl ?_
        refine G_ev (ev_move rfl) rfl rfl rfl ?_
        refine G_nil ?_
        refine nx_n ?_
        refine G_block ?_
        refine G_loopF (fun m s L => ∃ (p27 : Int), pantomimelaw19_ReachHeld_l26 N y8 a1 a0 m p27 = some r ∧ s = [(1, .slice A3 n3 c3), (2, .pointer (some ⟨B4, 0, none⟩)), (4, .bool false), (5, .slice A9 n9 c9), (61, .int .i64 (y8.length : Int)), (62, .int .i64 p27)] ∧ L = [slC rDValue (.slice A3 n3 c3) a1, ownC (rInt .i64) 3 (.slice A9 n9 c9) y8, slC rDCell (.slice A1 n1 c1) a0.Young, slC rDCell (.slice A2 n2 c2) a0.Old, boxC B4 24 [.slice A1 n1 c1, .slice A2 n2 c2]]) N _ _ ⟨0, h, rfl, rfl⟩ (sub_cons rfl (sub_cons rfl (sub_cons rfl (sub_cons rfl (sub_cons rfl (sub_cons rfl sub_nil)))))) (cv_sel [0, 1, 2, 3, 4] 5 rfl rfl) ?_
        rintro (_ | m26) _ _ ⟨p27, h, rfl, rfl⟩
        · exact none_some h
        rw [pantomimelaw19_ReachHeld_l26_s] at h
        refine G_seq ?_
        refine G_region ?_
        refine G_ev (ev_lt rfl rfl) rfl rfl rfl ?_
        refine G_nil ?_
        refine nx_n ?_
        refine G_seq ?_
        refine G_cond rfl (fun g28 => ?_) (fun g28 => ?_)
        · replace h := cond_t g28 h
          refine G_skip ?_
          refine nx_n ?_
          refine G_joinF (fun s L => pantomimelaw19_ReachHeld_j29 N (pantomimelaw19_ReachHeld_l26 N y8 a1 a0 m26) y8 p27 a1 a0 = some r ∧ s = [(1, .slice A3 n3 c3), (2, .pointer (some ⟨B4, 0, none⟩)), (4, .bool false), (5, .slice A9 n9 c9), (61, .int .i64 (y8.length : Int)), (62, .int .i64 p27)] ∧ L = [slC rDValue (.slice A3 n3 c3) a1, ownC (rInt .i64) 3 (.slice A9 n9 c9) y8, slC rDCell (.slice A1 n1 c1) a0.Young, slC rDCell (.slice A2 n2 c2) a0.Old, boxC B4 24 [.slice A1 n1 c1, .slice A2 n2 c2]]) ?_ ?_
          · refine G_block ?_
            refine G_seq ?_
            refine G_region ?_
            refine G_ev (ev_move rfl) rfl rfl rfl ?_
            refine G_ev (ev_assign rfl) rfl rfl rfl ?_
            refine G_nil ?_
            refine nx_n ?_
            refine G_seq ?_
            obtain ⟨x30, hx30, h⟩ := bind_elim h
            obtain ⟨lx30, ux30, hx30⟩ := getE_elim hx30
            obtain ⟨y31, hy31, h⟩ := bind_elim h
            refine G_sub (t := [(1, .slice A3 n3 c3), (2, .pointer (some ⟨B4, 0, none⟩)), (4, .bool false), (5, .slice A9 n9 c9), (7, .int .i64 p27), (61, .int .i64 (y8.length : Int)), (62, .int .i64 p27)]) ?_ (sub_cons rfl (sub_cons rfl (sub_cons rfl (sub_cons rfl (sub_cons rfl (sub_cons rfl (sub_cons rfl sub_nil))))))) (cv_refl _)
            refine G_monoR (by kernel_rfl) 7 [] [65, 66, 67, 68, 69, 70, 8] [[], [], [], [1, 2], [3], [0, 4], []] [fun u => [pureC (u = .agg #[.slice A1 n1 c1, .slice A2 n2 c2])],
      fun u => [pureC (u = .slice A9 n9 c9)],
      fun u => [pureC (u = .int .i64 p27)],
      fun u => [pureC (u = elemQ (.slice A9 n9 c9) p27.toNat 1 0)],
      fun u => [pureC (u = .int .i64 x30)],
      fun u => [pureC (∃ (A34 : Option Addr) (n34 : Nat) (c34 : Nat) (A35 : Option Addr) (n35 : Nat) (c35 : Nat), u = .agg #[.int .i64 y31.Kind, .int .i64 y31.Shape, .int .i64 y31.Flags, .int .i64 y31.Age, .slice A34 n34 c34, .slice A35 n35 c35]), slC rDValue (cl u 4) y31.Slots, slC rDValue (cl u 5) y31.More],
      fun u => [pureC (∃ (B37 : Nat), u = .pointer (some ⟨B37, 0, none⟩)), boxC (pb u) 42 [.int .i64 0, .int .i64 0, .int .i64 0, .int .i64 0, .slice none 0 0, .slice none 0 0]]] (by kernel_rfl) ?_ ?_ ?_
            · exact qs_nil
            · refine steps_cons rfl ?_ ?_
              · intro val
                refine X_start (s := [(1, .slice A3 n3 c3), (2, .pointer (some ⟨B4, 0, none⟩)), (4, .bool false), (5, .slice A9 n9 c9), (7, .int .i64 p27), (61, .int .i64 (y8.length : Int)), (62, .int .i64 p27)]) (L := [slC rDValue (.slice A3 n3 c3) a1, ownC (rInt .i64) 3 (.slice A9 n9 c9) y8, slC rDCell (.slice A1 n1 c1) a0.Young, slC rDCell (.slice A2 n2 c2) a0.Old, boxC B4 24 [.slice A1 n1 c1, .slice A2 n2 c2]]) (A := fun u => [pureC (∃ (B37 : Nat), u = .pointer (some ⟨B37, 0, none⟩)), boxC (pb u) 42 [.int .i64 0, .int .i64 0, .int .i64 0, .int .i64 0, .slice none 0 0, .slice none 0 0]]) ?_ rfl rfl rfl
                refine X_op (op_alloc zero42 rfl) rfl ?_
                rintro _ _ ⟨B36, rfl, rfl⟩
                exact cv_put [boxC B36 42 [.int .i64 0, .int .i64 0, .int .i64 0, .int .i64 0, .slice none 0 0, .slice none 0 0]] ⟨_, rfl⟩ (cv_refl _)
              refine steps_cons rfl ?_ ?_
              · intro val
                refine X_start (s := [(65, val 0), (69, val 4), (1, .slice A3 n3 c3), (2, .pointer (some ⟨B4, 0, none⟩)), (4, .bool false), (5, .slice A9 n9 c9), (7, .int .i64 p27), (61, .int .i64 (y8.length : Int)), (62, .int .i64 p27)]) (L := [pureC ((val 0) = .agg #[.slice A1 n1 c1, .slice A2 n2 c2]), pureC ((val 4) = .int .i64 x30), slC rDValue (.slice A3 n3 c3) a1, ownC (rInt .i64) 3 (.slice A9 n9 c9) y8, slC rDCell (.slice A1 n1 c1) a0.Young, slC rDCell (.slice A2 n2 c2) a0.Old, boxC B4 24 [.slice A1 n1 c1, .slice A2 n2 c2]]) (A := fun u => [pureC (∃ (A34 : Option Addr) (n34 : Nat) (c34 : Nat) (A35 : Option Addr) (n35 : Nat) (c35 : Nat), u = .agg #[.int .i64 y31.Kind, .int .i64 y31.Shape, .int .i64 y31.Flags, .int .i64 y31.Age, .slice A34 n34 c34, .slice A35 n35 c35]), slC rDValue (cl u 4) y31.Slots, slC rDValue (cl u 5) y31.More]) ?_ rfl rfl rfl
                generalize val 0 = u0
                generalize val 4 = u4
                refine X_pure 0 rfl ?_
                rintro rfl
                refine X_pure 1 rfl ?_
                rintro rfl
                refine X_op (op_call (pantomimeref19_At_ok hy31) call19 rfl (cv_take [4, 5] [] [0, 1, 2, 3, 4, 5, 6] 7 rfl)) rfl ?_
                rintro _ _ ⟨_, ⟨A32, n32, c32, A33, n33, c33, rfl, rfl⟩, rfl⟩
                exact cv_put [slC rDValue (.slice A32 n32 c32) y31.Slots, slC rDValue (.slice A33 n33 c33) y31.More] ⟨_, _, _, _, _, _, rfl⟩ (cv_refl _)
              refine steps_cons rfl ?_ ?_
              · intro val
                refine X_start (s := [(68, val 3), (1, .slice A3 n3 c3), (2, .pointer (some ⟨B4, 0, none⟩)), (4, .bool false), (5, .slice A9 n9 c9), (7, .int .i64 p27), (61, .int .i64 (y8.length : Int)), (62, .int .i64 p27)]) (L := [pureC ((val 3) = elemQ (.slice A9 n9 c9) p27.toNat 1 0), slC rDValue (.slice A3 n3 c3) a1, ownC (rInt .i64) 3 (.slice A9 n9 c9) y8, slC rDCell (.slice A1 n1 c1) a0.Young, slC rDCell (.slice A2 n2 c2) a0.Old, boxC B4 24 [.slice A1 n1 c1, .slice A2 n2 c2]]) (A := fun u => [pureC (u = .int .i64 x30)]) ?_ rfl rfl rfl
                generalize val 3 = u3
                refine X_pure 0 rfl ?_
                rintro rfl
                exact X_rd (rd_elem1 (u := .int .i64 x30) 2 rfl els_own rfl hx30 one3 (fun _ _ _ h => by rw [show _ = _ from h]; rfl)) rfl (cv_put [] rfl (cv_refl _))
              refine steps_cons rfl ?_ ?_
              · intro val
                refine X_start (s := [(66, val 1), (67, val 2), (1, .slice A3 n3 c3), (2, .pointer (some ⟨B4, 0, none⟩)), (4, .bool false), (5, .slice A9 n9 c9), (7, .int .i64 p27), (61, .int .i64 (y8.length : Int)), (62, .int .i64 p27)]) (L := [pureC ((val 1) = .slice A9 n9 c9), pureC ((val 2) = .int .i64 p27), slC rDValue (.slice A3 n3 c3) a1, ownC (rInt .i64) 3 (.slice A9 n9 c9) y8, slC rDCell (.slice A1 n1 c1) a0.Young, slC rDCell (.slice A2 n2 c2) a0.Old, boxC B4 24 [.slice A1 n1 c1, .slice A2 n2 c2]]) (A := fun u => [pureC (u = elemQ (.slice A9 n9 c9) p27.toNat 1 0)]) ?_ rfl rfl rfl
                generalize val 1 = u1
                generalize val 2 = u2
                refine X_pure 0 rfl ?_
                rintro rfl
                refine X_pure 1 rfl ?_
                rintro rfl
                exact X_rd (rd_idx 3 rfl els_own rfl rfl Try.underlying31 size3 lx30 ux30) rfl (cv_put [] rfl (cv_refl _))
              refine steps_cons rfl ?_ ?_
              · intro val
                refine X_start (s := [(1, .slice A3 n3 c3), (2, .pointer (some ⟨B4, 0, none⟩)), (4, .bool false), (5, .slice A9 n9 c9), (7, .int .i64 p27), (61, .int .i64 (y8.length : Int)), (62, .int .i64 p27)]) (L := [slC rDValue (.slice A3 n3 c3) a1, ownC (rInt .i64) 3 (.slice A9 n9 c9) y8, slC rDCell (.slice A1 n1 c1) a0.Young, slC rDCell (.slice A2 n2 c2) a0.Old, boxC B4 24 [.slice A1 n1 c1, .slice A2 n2 c2]]) (A := fun u => [pureC (u = .int .i64 p27)]) ?_ rfl rfl rfl
                exact X_ev (ev_move rfl) rfl (cv_put [] rfl (cv_refl _))
              refine steps_cons rfl ?_ ?_
              · intro val
                refine X_start (s := [(1, .slice A3 n3 c3), (2, .pointer (some ⟨B4, 0, none⟩)), (4, .bool false), (5, .slice A9 n9 c9), (7, .int .i64 p27), (61, .int .i64 (y8.length : Int)), (62, .int .i64 p27)]) (L := [slC rDValue (.slice A3 n3 c3) a1, ownC (rInt .i64) 3 (.slice A9 n9 c9) y8, slC rDCell (.slice A1 n1 c1) a0.Young, slC rDCell (.slice A2 n2 c2) a0.Old, boxC B4 24 [.slice A1 n1 c1, .slice A2 n2 c2]]) (A := fun u => [pureC (u = .slice A9 n9 c9)]) ?_ rfl rfl rfl
                exact X_ev (ev_move rfl) rfl (cv_put [] rfl (cv_refl _))
              refine steps_cons rfl ?_ ?_
              · intro val
                refine X_start (s := [(1, .slice A3 n3 c3), (2, .pointer (some ⟨B4, 0, none⟩)), (4, .bool false), (5, .slice A9 n9 c9), (7, .int .i64 p27), (61, .int .i64 (y8.length : Int)), (62, .int .i64 p27)]) (L := [slC rDValue (.slice A3 n3 c3) a1, ownC (rInt .i64) 3 (.slice A9 n9 c9) y8, slC rDCell (.slice A1 n1 c1) a0.Young, slC rDCell (.slice A2 n2 c2) a0.Old, boxC B4 24 [.slice A1 n1 c1, .slice A2 n2 c2]]) (A := fun u => [pureC (u = .agg #[.slice A1 n1 c1, .slice A2 n2 c2])]) ?_ rfl rfl rfl
                exact X_rd (rd_boxS (us := [.slice A1 n1 c1, .slice A2 n2 c2]) 4 rfl rfl agg24 rfl) rfl (cv_put [] rfl (cv_refl _))
              exact steps_nil
            · intro val
              show TkN _ _ _ _ _ [(65, val 0), (66, val 1), (67, val 2), (68, val 3), (69, val 4), (70, val 5), (8, val 6), (1, .slice A3 n3 c3), (2, .pointer (some ⟨B4, 0, none⟩)), (4, .bool false), (5, .slice A9 n9 c9), (7, .int .i64 p27), (61, .int .i64 (y8.length : Int)), (62, .int .i64 p27)] ([pureC ((val 0) = .agg #[.slice A1 n1 c1, .slice A2 n2 c2]), pureC ((val 1) = .slice A9 n9 c9), pureC ((val 2) = .int .i64 p27), pureC ((val 3) = elemQ (.slice A9 n9 c9) p27.toNat 1 0), pureC ((val 4) = .int .i64 x30), pureC (∃ (A34 : Option Addr) (n34 : Nat) (c34 : Nat) (A35 : Option Addr) (n35 : Nat) (c35 : Nat), (val 5) = .agg #[.int .i64 y31.Kind, .int .i64 y31.Shape, .int .i64 y31.Flags, .int .i64 y31.Age, .slice A34 n34 c34, .slice A35 n35 c35]), slC rDValue (cl (val 5) 4) y31.Slots, slC rDValue (cl (val 5) 5) y31.More, pureC (∃ (B37 : Nat), (val 6) = .pointer (some ⟨B37, 0, none⟩)), boxC (pb (val 6)) 42 [.int .i64 0, .int .i64 0, .int .i64 0, .int .i64 0, .slice none 0 0, .slice none 0 0], slC rDValue (.slice A3 n3 c3) a1, ownC (rInt .i64) 3 (.slice A9 n9 c9) y8, slC rDCell (.slice A1 n1 c1) a0.Young, slC rDCell (.slice A2 n2 c2) a0.Old, boxC B4 24 [.slice A1 n1 c1, .slice A2 n2 c2]])
              generalize val 0 = u0
              generalize val 1 = u1
              generalize val 2 = u2
              generalize val 3 = u3
              generalize val 4 = u4
              generalize val 5 = u5
              generalize val 6 = u6
              refine N_pure 0 rfl ?_
              rintro rfl
              refine N_pure 1 rfl ?_
              rintro rfl
              refine N_pure 2 rfl ?_
              rintro rfl
              refine N_pure 3 rfl ?_
              rintro rfl
              refine N_pure 4 rfl ?_
              rintro rfl
              refine N_pure 5 rfl ?_
              rintro ⟨A34, n34, c34, A35, n35, c35, rfl⟩
              refine N_pure 8 rfl ?_
              rintro ⟨B37, rfl⟩
              refine N_sub (L' := [slC rDValue (.slice A34 n34 c34) y31.Slots, slC rDValue (.slice A35 n35 c35) y31.More, boxC B37 42 [.int .i64 0, .int .i64 0, .int .i64 0, .int .i64 0, .slice none 0 0, .slice none 0 0], slC rDValue (.slice A3 n3 c3) a1, ownC (rInt .i64) 3 (.slice A9 n9 c9) y8, slC rDCell (.slice A1 n1 c1) a0.Young, slC rDCell (.slice A2 n2 c2) a0.Old, boxC B4 24 [.slice A1 n1 c1, .slice A2 n2 c2]]) ?_ sub_refl (cv_sel [6, 7, 9, 10, 11, 12, 13, 14] 15 rfl rfl)
              refine N_opn 7 rfl (by kernel_rfl) (op_store (us := [.int .i64 y31.Kind, .int .i64 y31.Shape, .int .i64 y31.Flags, .int .i64 y31.Age, .slice A34 n34 c34, .slice A35 n35 c35]) (cs' := [.int .i64 y31.Kind, .int .i64 y31.Shape, .int .i64 y31.Flags, .int .i64 y31.Age, .slice A34 n34 c34, .slice A35 n35 c35]) 2 rfl rfl rfl rfl size42 rfl rfl rfl) rfl rfl ?_
              rintro _ _ rfl
              refine N_norm ([slC rDValue (.slice A34 n34 c34) y31.Slots, slC rDValue (.slice A35 n35 c35) y31.More, boxC B37 42 [.int .i64 y31.Kind, .int .i64 y31.Shape, .int .i64 y31.Flags, .int .i64 y31.Age, .slice A34 n34 c34, .slice A35 n35 c35], slC rDValue (.slice A3 n3 c3) a1, ownC (rInt .i64) 3 (.slice A9 n9 c9) y8, slC rDCell (.slice A1 n1 c1) a0.Young, slC rDCell (.slice A2 n2 c2) a0.Old, boxC B4 24 [.slice A1 n1 c1, .slice A2 n2 c2]]) rfl ?_
              refine N_done (by kernel_rfl) ?_
              refine nx_n ?_
              refine G_seq ?_
              refine G_drawn (by kernel_rfl) _ (cv_refl _) ?_
              refine T3_rd 0 rfl (by kernel_rfl) (rd_boxS (us := [.int .i64 y31.Kind, .int .i64 y31.Shape, .int .i64 y31.Flags, .int .i64 y31.Age, .slice A34 n34 c34, .slice A35 n35 c35]) 2 rfl rfl agg42 rfl) rfl rfl ?_
              refine T3_rd 2 rfl (by kernel_rfl) (rd_boxS (us := [.int .i64 y31.Kind, .int .i64 y31.Shape, .int .i64 y31.Flags, .int .i64 y31.Age, .slice A34 n34 c34, .slice A35 n35 c35]) 2 rfl rfl agg42 rfl) rfl rfl ?_
              refine T3_ev 3 rfl (by kernel_rfl) (ev_move rfl) rfl rfl ?_
              obtain ⟨y38, hy38, h⟩ := bind_elim h
              refine T3_opd 1 rfl (by kernel_rfl) (op_callR (pantomimeref15_Leads_ok hy38) call20 rfl (mem_cons (lent_ro (i := 0) rfl rfl) (mem_cons (lent_ro (i := 1) rfl rfl) mem_nil)) pantomimeref15_Leads_free) rfl rfl rfl ?_
              rintro _ _ ⟨_, ⟨A39, n39, c39, rfl, rfl⟩, rfl⟩
              refine ⟨[slC rDValue (.slice A34 n34 c34) y31.Slots, slC rDValue (.slice A35 n35 c35) y31.More, boxC B37 42 [.int .i64 y31.Kind, .int .i64 y31.Shape, .int .i64 y31.Flags, .int .i64 y31.Age, .slice A34 n34 c34, .slice A35 n35 c35], slC rDValue (.slice A3 n3 c3) a1, ownC (rInt .i64) 3 (.slice A9 n9 c9) y8, slC rDCell (.slice A1 n1 c1) a0.Young, slC rDCell (.slice A2 n2 c2) a0.Old, boxC B4 24 [.slice A1 n1 c1, .slice A2 n2 c2]], cv_sel [1, 2, 3, 4, 5, 6, 7, 8] 9 rfl rfl, cv_refl _, ?_⟩
              obtain ⟨y40, hy40, h⟩ := bind_elim h
              refine T3_opd 4 rfl (by kernel_rfl) (op_callR (pantomimeref17_Opens_ok hy40) call21 rfl (mem_cons (lent_ro (i := 1) rfl rfl) (mem_cons (lent_ro (i := 2) rfl rfl) (mem_cons (lent_own (i := 5) rfl) mem_nil))) pantomimeref17_Opens_free) rfl rfl rfl ?_
              rintro _ _ ⟨_, ⟨A41, n41, c41, rfl, rfl⟩, rfl⟩
              refine ⟨[slC rDValue (.slice A34 n34 c34) y31.Slots, slC rDValue (.slice A35 n35 c35) y31.More, boxC B37 42 [.int .i64 y31.Kind, .int .i64 y31.Shape, .int .i64 y31.Flags, .int .i64 y31.Age, .slice A34 n34 c34, .slice A35 n35 c35], slC rDValue (.slice A3 n3 c3) a1, ownC (rInt .i64) 3 (.slice A9 n9 c9) y8, slC rDCell (.slice A1 n1 c1) a0.Young, slC rDCell (.slice A2 n2 c2) a0.Old, boxC B4 24 [.slice A1 n1 c1, .slice A2 n2 c2]], cv_sel [2, 3, 4, 5, 6, 7, 8, 9] 10 rfl rfl, cv_refl _, ?_⟩
              obtain ⟨q42, h⟩ := req_elim h
              refine T3_opd 5 rfl (by kernel_rfl) (op_append 1 0 rfl rfl els_own rfl rfl Try.underlying31 zb3 rfl rfl q42) rfl rfl rfl ?_
              rintro _ _ ⟨A43, n43, c43, rfl, rfl⟩
              refine ⟨[slC rDValue (.slice A34 n34 c34) y31.Slots, slC rDValue (.slice A35 n35 c35) y31.More, boxC B37 42 [.int .i64 y31.Kind, .int .i64 y31.Shape, .int .i64 y31.Flags, .int .i64 y31.Age, .slice A34 n34 c34, .slice A35 n35 c35], slC rDValue (.slice A3 n3 c3) a1, ownC (rInt .i64) 3 (.slice A9 n9 c9) y8, slC rDCell (.slice A1 n1 c1) a0.Young, slC rDCell (.slice A2 n2 c2) a0.Old, boxC B4 24 [.slice A1 n1 c1, .slice A2 n2 c2]], cv_sel [2, 3, 4, 5, 6, 7, 8, 9] 10 rfl rfl, cv_refl _, ?_⟩
              refine T3_norm ([ownC (rInt .i64) 3 (.slice A41 n41 c41) y40, ownC (rInt .i64) 3 (.slice A43 n43 c43) (y38 ++ y40), slC rDValue (.slice A34 n34 c34) y31.Slots, slC rDValue (.slice A35 n35 c35) y31.More, boxC B37 42 [.int .i64 y31.Kind, .int .i64 y31.Shape, .int .i64 y31.Flags, .int .i64 y31.Age, .slice A34 n34 c34, .slice A35 n35 c35], slC rDValue (.slice A3 n3 c3) a1, ownC (rInt .i64) 3 (.slice A9 n9 c9) y8, slC rDCell (.slice A1 n1 c1) a0.Young, slC rDCell (.slice A2 n2 c2) a0.Old, boxC B4 24 [.slice A1 n1 c1, .slice A2 n2 c2]]) rfl ?_
              refine T3_ev 6 rfl (by kernel_rfl) (ev_assign rfl) rfl rfl ?_
              refine T3_done (by kernel_rfl) ?_
              refine nx_n ?_
              refine G_joinF (fun s L => pantomimelaw19_ReachHeld_j44 N (pantomimelaw19_ReachHeld_l26 N y8 a1 a0 m26) p27 y8 a1 a0 = some r ∧ s = [(1, .slice A3 n3 c3), (2, .pointer (some ⟨B4, 0, none⟩)), (4, .bool false), (5, .slice A9 n9 c9), (7, .int .i64 p27), (61, .int .i64 (y8.length : Int)), (62, .int .i64 p27)] ∧ L = [slC rDValue (.slice A3 n3 c3) a1, ownC (rInt .i64) 3 (.slice A9 n9 c9) y8, slC rDCell (.slice A1 n1 c1) a0.Young, slC rDCell (.slice A2 n2 c2) a0.Old, boxC B4 24 [.slice A1 n1 c1, .slice A2 n2 c2]]) ?_ ?_
              · refine G_seq ?_
                refine G_region ?_
                refine G_ev (ev_move rfl) rfl rfl rfl ?_
                refine G_rd (rd_len 1 rfl els_own rfl Try.underlying31) rfl rfl rfl ?_
                refine G_ev (ev_move rfl) rfl rfl rfl ?_
                refine G_nil ?_
                refine nx_n ?_
                refine G_block ?_
                refine G_loopF (fun m s L => ∃ (p46 : Int), pantomimelaw19_ReachHeld_l45 N (pantomimelaw19_ReachHeld_l26 N y8 a1 a0 m26) p27 y8 y38 y40 a1 a0 m p46 = some r ∧ s = [(1, .slice A3 n3 c3), (2, .pointer (some ⟨B4, 0, none⟩)), (4, .bool false), (5, .slice A9 n9 c9), (7, .int .i64 p27), (9, .slice A43 n43 c43), (61, .int .i64 (y8.length : Int)), (62, .int .i64 p27), (78, .int .i64 ((y38 ++ y40).length : Int)), (79, .int .i64 p46)] ∧ L = [slC rDValue (.slice A3 n3 c3) a1, ownC (rInt .i64) 3 (.slice A9 n9 c9) y8, ownC (rInt .i64) 3 (.slice A43 n43 c43) (y38 ++ y40), slC rDCell (.slice A1 n1 c1) a0.Young, slC rDCell (.slice A2 n2 c2) a0.Old, boxC B4 24 [.slice A1 n1 c1, .slice A2 n2 c2]]) N _ _ ⟨0, h, rfl, rfl⟩ (sub_cons rfl (sub_cons rfl (sub_cons rfl (sub_cons rfl (sub_cons rfl (sub_cons rfl (sub_cons rfl (sub_cons rfl (sub_cons rfl (sub_cons rfl sub_nil)))))))))) (cv_sel [5, 6, 1, 7, 8, 9] 10 rfl rfl) ?_
                rintro (_ | m45) _ _ ⟨p46, h, rfl, rfl⟩
                · exact none_some h
                rw [pantomimelaw19_ReachHeld_l45_s] at h
                refine G_seq ?_
                refine G_region ?_
                refine G_ev (ev_lt rfl rfl) rfl rfl rfl ?_
                refine G_nil ?_
                refine nx_n ?_
                refine G_seq ?_
                refine G_cond rfl (fun g47 => ?_) (fun g47 => ?_)
                · replace h := cond_t g47 h
                  refine G_skip ?_
                  refine nx_n ?_
                  refine G_seq ?_
                  refine G_block ?_
                  refine G_seq ?_
                  refine G_region ?_
                  refine G_ev (ev_move rfl) rfl rfl rfl ?_
                  refine G_ev (ev_assign rfl) rfl rfl rfl ?_
                  refine G_nil ?_
                  refine nx_n ?_
                  refine G_seq ?_
                  refine G_drawn (by kernel_rfl) _ (cv_refl _) ?_
                  refine T3_rd 0 rfl (by kernel_rfl) (rd_boxS (us := [.slice A1 n1 c1, .slice A2 n2 c2]) 5 rfl rfl agg24 rfl) rfl rfl ?_
                  refine T3_ev 1 rfl (by kernel_rfl) (ev_move rfl) rfl rfl ?_
                  refine T3_ev 2 rfl (by kernel_rfl) (ev_move rfl) rfl rfl ?_
                  obtain ⟨x48, hx48, h⟩ := bind_elim h
                  obtain ⟨lx48, ux48, hx48⟩ := getE_elim hx48
                  refine T3_rd 3 rfl (by kernel_rfl) (rd_idx 2 rfl els_own rfl rfl Try.underlying31 size3 lx48 ux48) rfl rfl ?_
                  refine T3_rd 4 rfl (by kernel_rfl) (rd_elem1 (u := .int .i64 x48) 2 rfl els_own rfl hx48 one3 (fun _ _ _ h => by rw [show _ = _ from h]; rfl)) rfl rfl ?_
                  obtain ⟨y49, hy49, h⟩ := bind_elim h
                  refine T3_opd 5 rfl (by kernel_rfl) (op_callR (pantomimeref19_Has_ok hy49) call17 rfl (mem_cons (lent_ro (i := 3) rfl rfl) (mem_cons (lent_ro (i := 4) rfl rfl) mem_nil)) pantomimeref19_Has_free) rfl rfl rfl ?_
                  rintro _ _ ⟨_, ⟨rfl, rfl⟩, rfl⟩
                  refine ⟨_, cv_refl _, cv_refl _, ?_⟩
                  refine T3_ev 6 rfl (by kernel_rfl) (ev_move rfl) rfl rfl ?_
                  obtain ⟨b50, hb50, h⟩ := bind_elim h
                  refine T3_joinB (fun l => ((((((((l.setIfInBounds 7 true).setIfInBounds 8 true).setIfInBounds 9 true).setIfInBounds 10 true).setIfInBounds 11 true).setIfInBounds 12 true).setIfInBounds 13 true).setIfInBounds 14 true)) 0 96 b50 (fun rest => ?_) ?_
                  · clear h
                    refine T3_case 88 rfl (fun g50 => ?_) (fun g50 => ?_)
                    · have h := cond_t g50 hb50
                      refine T3_ev 7 rfl (by kernel_rfl) (ev_move rfl) (g_tt g50 rfl) rfl ?_
                      refine T3_ev 8 rfl (by kernel_rfl) (ev_move rfl) (g_tt g50 rfl) rfl ?_
                      refine T3_ev 9 rfl (by kernel_rfl) (ev_move rfl) (g_tt g50 rfl) rfl ?_
                      obtain ⟨x51, hx51, h⟩ := bind_elim h
                      obtain ⟨lx51, ux51, hx51⟩ := getE_elim hx51
                      refine T3_rd 10 rfl (by kernel_rfl) (rd_idx 2 rfl els_own rfl rfl Try.underlying31 size3 lx51 ux51) (g_tt g50 rfl) rfl ?_
                      refine T3_rd 11 rfl (by kernel_rfl) (rd_elem1 (u := .int .i64 x51) 2 rfl els_own rfl hx51 one3 (fun _ _ _ h => by rw [show _ = _ from h]; rfl)) (g_tt g50 rfl) rfl ?_
                      obtain ⟨y52, hy52, h⟩ := bind_elim h
                      refine T3_opd 12 rfl (by kernel_rfl) (op_callR (pantomimeref19_In_ok hy52) call18 rfl (mem_cons (lent_own (i := 1) rfl) mem_nil) pantomimeref19_In_free) rfl (g_tt g50 rfl) rfl ?_
                      rintro _ _ ⟨_, ⟨rfl, rfl⟩, rfl⟩
                      refine ⟨_, cv_refl _, cv_refl _, ?_⟩
                      refine T3_ev 13 rfl (by kernel_rfl) (ev_not rfl) (g_tt g50 rfl) rfl ?_
                      refine T3_ev 14 rfl (by kernel_rfl) (ev_pick_t' g50 rfl rfl) rfl rfl ?_
                      obtain rfl := Option.some.inj h
                      exact T3_sub rest (sub_cons rfl (sub_skip (sub_skip (sub_skip (sub_skip (sub_skip (sub_skip (sub_skip (sub_skip sub_refl rfl) rfl) rfl) rfl) rfl) rfl) rfl) rfl)) (cv_refl _) (cv_refl _)
                    · have h := cond_f g50 hb50
                      refine T3_no 7 rfl (by kernel_rfl) (g_tf g50 rfl) rfl ?_
                      refine T3_no 8 rfl (by kernel_rfl) (g_tf g50 rfl) rfl ?_
                      refine T3_no 9 rfl (by kernel_rfl) (g_tf g50 rfl) rfl ?_
                      refine T3_no 10 rfl (by kernel_rfl) (g_tf g50 rfl) rfl ?_
                      refine T3_no 11 rfl (by kernel_rfl) (g_tf g50 rfl) rfl ?_
                      refine T3_no 12 rfl (by kernel_rfl) (g_tf g50 rfl) rfl ?_
                      refine T3_no 13 rfl (by kernel_rfl) (g_tf g50 rfl) rfl ?_
                      refine T3_ev 14 rfl (by kernel_rfl) (ev_pick_f' g50 rfl rfl) rfl rfl ?_
                      obtain rfl := Option.some.inj h
                      exact T3_sub rest (sub_cons rfl (sub_skip (sub_skip (sub_skip (sub_skip (sub_skip (sub_skip (sub_skip (sub_skip sub_refl rfl) rfl) rfl) rfl) rfl) rfl) rfl) rfl)) (cv_refl _) (cv_refl _)
                  refine T3_done (by kernel_rfl) ?_
                  refine nx_n ?_
                  refine G_cond rfl (fun g53 => ?_) (fun g53 => ?_)
                  · replace h := cond_t g53 h
                    refine G_seq ?_
                    refine G_region ?_
                    refine G_ev (ev_assign rfl) rfl rfl rfl ?_
                    refine G_nil ?_
                    refine nx_n ?_
                    refine G_ret ?_
                    refine bk_r ?_
                    refine nx_r ?_
                    refine nx_r ?_
                    refine bk_r ?_
                    refine nx_r ?_
                    refine bk_r ?_
                    refine nx_r ?_
                    refine nx_r ?_
                    refine bk_r ?_
                    refine nx_r ?_
                    obtain rfl := Option.some.inj h
                    exact endG1 rfl rfl (cv_sel [] 6 rfl rfl) ⟨rfl, rfl⟩
                  · replace h := cond_f g53 h
                    refine G_skip ?_
                    refine bk_n ?_
                    refine nx_n ?_
                    refine G_region ?_
                    obtain ⟨q54, h⟩ := req_elim h
                    refine G_ev (ev_add rfl rfl q54.1 q54.2) rfl rfl rfl ?_
                    refine G_ev (ev_move rfl) rfl rfl rfl ?_
                    refine G_nil ?_
                    refine nx_n ?_
                    exact ⟨m45, _, _, Nat.lt_succ_self _, ⟨p46 + 1, h, rfl, rfl⟩, sub_cons rfl (sub_cons rfl (sub_cons rfl (sub_cons rfl (sub_cons rfl (sub_cons rfl (sub_cons rfl (sub_cons rfl (sub_cons rfl (sub_cons rfl sub_nil))))))))), cv_sel [0, 1, 2, 3, 4, 5] 6 rfl rfl⟩
                · replace h := cond_f g47 h
                  refine G_exit ?_
                  refine nx_e ?_
                  refine nx_e ?_
                  refine bk_x ?_
                  refine nx_n ?_
                  exact ⟨_, _, ⟨h, rfl, rfl⟩, sub_cons rfl (sub_cons rfl (sub_cons rfl (sub_cons rfl (sub_cons rfl (sub_cons rfl (sub_cons rfl sub_nil)))))), cv_sel [0, 1, 3, 4, 5] 6 rfl rfl⟩
              · rintro _ _ ⟨h, rfl, rfl⟩
                refine G_seq ?_
                refine G_drawn (by kernel_rfl) _ (cv_refl _) ?_
                refine T3_ev 0 rfl (by kernel_rfl) (ev_move rfl) rfl rfl ?_
                refine T3_ev 1 rfl (by kernel_rfl) (ev_gt rfl rfl) rfl rfl ?_
                refine T3_ev 2 rfl (by kernel_rfl) (ev_move rfl) rfl rfl ?_
                obtain ⟨b55, hb55, h⟩ := bind_elim h
                refine T3_joinB (fun l => (((((((((((l.setIfInBounds 3 true).setIfInBounds 4 true).setIfInBounds 5 true).setIfInBounds 6 true).setIfInBounds 7 true).setIfInBounds 8 true).setIfInBounds 9 true).setIfInBounds 10 true).setIfInBounds 11 true).setIfInBounds 12 true).setIfInBounds 13 true)) 9 111 b55 (fun rest => ?_) ?_
                · clear h
                  refine T3_case 100 rfl (fun g55 => ?_) (fun g55 => ?_)
                  · have h := cond_t g55 hb55
                    refine T3_ev 3 rfl (by kernel_rfl) (ev_move rfl) (g_tt g55 rfl) rfl ?_
                    refine T3_ev 4 rfl (by kernel_rfl) (ev_move rfl) (g_tt g55 rfl) rfl ?_
                    obtain ⟨x56, hx56, h⟩ := bind_elim h
                    obtain ⟨lx56, ux56, hx56⟩ := getE_elim hx56
                    refine T3_rd 5 rfl (by kernel_rfl) (rd_idx 1 rfl els_own rfl rfl Try.underlying31 size3 lx56 ux56) (g_tt g55 rfl) rfl ?_
                    refine T3_rd 6 rfl (by kernel_rfl) (rd_elem1 (u := .int .i64 x56) 1 rfl els_own rfl hx56 one3 (fun _ _ _ h => by rw [show _ = _ from h]; rfl)) (g_tt g55 rfl) rfl ?_
                    refine T3_ev 7 rfl (by kernel_rfl) (ev_move rfl) (g_tt g55 rfl) rfl ?_
                    refine T3_ev 8 rfl (by kernel_rfl) (ev_move rfl) (g_tt g55 rfl) rfl ?_
                    obtain ⟨q57, h⟩ := req_elim h
                    refine T3_ev 9 rfl (by kernel_rfl) (ev_sub rfl rfl q57.1 q57.2) (g_tt g55 rfl) rfl ?_
                    obtain ⟨x58, hx58, h⟩ := bind_elim h
                    obtain ⟨lx58, ux58, hx58⟩ := getE_elim hx58
                    refine T3_rd 10 rfl (by kernel_rfl) (rd_idx 1 rfl els_own rfl rfl Try.underlying31 size3 lx58 ux58) (g_tt g55 rfl) rfl ?_
                    refine T3_rd 11 rfl (by kernel_rfl) (rd_elem1 (u := .int .i64 x58) 1 rfl els_own rfl hx58 one3 (fun _ _ _ h => by rw [show _ = _ from h]; rfl)) (g_tt g55 rfl) rfl ?_
                    refine T3_ev 12 rfl (by kernel_rfl) (ev_le rfl rfl) (g_tt g55 rfl) rfl ?_
                    refine T3_ev 13 rfl (by kernel_rfl) (ev_pick_t' g55 rfl rfl) rfl rfl ?_
                    obtain rfl := Option.some.inj h
                    exact T3_sub rest (sub_cons rfl (sub_skip (sub_skip (sub_skip (sub_skip (sub_skip (sub_skip (sub_skip (sub_skip (sub_skip (sub_skip (sub_skip sub_refl rfl) rfl) rfl) rfl) rfl) rfl) rfl) rfl) rfl) rfl) rfl)) (cv_refl _) (cv_refl _)
                  · have h := cond_f g55 hb55
                    refine T3_no 3 rfl (by kernel_rfl) (g_tf g55 rfl) rfl ?_
                    refine T3_no 4 rfl (by kernel_rfl) (g_tf g55 rfl) rfl ?_
                    refine T3_no 5 rfl (by kernel_rfl) (g_tf g55 rfl) rfl ?_
                    refine T3_no 6 rfl (by kernel_rfl) (g_tf g55 rfl) rfl ?_
                    refine T3_no 7 rfl (by kernel_rfl) (g_tf g55 rfl) rfl ?_
                    refine T3_no 8 rfl (by kernel_rfl) (g_tf g55 rfl) rfl ?_
                    refine T3_no 9 rfl (by kernel_rfl) (g_tf g55 rfl) rfl ?_
                    refine T3_no 10 rfl (by kernel_rfl) (g_tf g55 rfl) rfl ?_
                    refine T3_no 11 rfl (by kernel_rfl) (g_tf g55 rfl) rfl ?_
                    refine T3_no 12 rfl (by kernel_rfl) (g_tf g55 rfl) rfl ?_
                    refine T3_ev 13 rfl (by kernel_rfl) (ev_pick_f' g55 rfl rfl) rfl rfl ?_
                    obtain rfl := Option.some.inj h
                    exact T3_sub rest (sub_cons rfl (sub_skip (sub_skip (sub_skip (sub_skip (sub_skip (sub_skip (sub_skip (sub_skip (sub_skip (sub_skip (sub_skip sub_refl rfl) rfl) rfl) rfl) rfl) rfl) rfl) rfl) rfl) rfl) rfl)) (cv_refl _) (cv_refl _)
                refine T3_ev 14 rfl (by kernel_rfl) (ev_move rfl) rfl rfl ?_
                obtain ⟨b59, hb59, h⟩ := bind_elim h
                refine T3_joinB (fun l => ((((((((l.setIfInBounds 15 true).setIfInBounds 16 true).setIfInBounds 17 true).setIfInBounds 18 true).setIfInBounds 19 true).setIfInBounds 20 true).setIfInBounds 21 true).setIfInBounds 22 true)) 0 120 b59 (fun rest => ?_) ?_
                · clear h
                  refine T3_case 112 rfl (fun g59 => ?_) (fun g59 => ?_)
                  · have h := cond_t g59 hb59
                    refine T3_no 15 rfl (by kernel_rfl) (g_ft g59 rfl) rfl ?_
                    refine T3_no 16 rfl (by kernel_rfl) (g_ft g59 rfl) rfl ?_
                    refine T3_no 17 rfl (by kernel_rfl) (g_ft g59 rfl) rfl ?_
                    refine T3_no 18 rfl (by kernel_rfl) (g_ft g59 rfl) rfl ?_
                    refine T3_no 19 rfl (by kernel_rfl) (g_ft g59 rfl) rfl ?_
                    refine T3_no 20 rfl (by kernel_rfl) (g_ft g59 rfl) rfl ?_
                    refine T3_no 21 rfl (by kernel_rfl) (g_ft g59 rfl) rfl ?_
                    refine T3_ev 22 rfl (by kernel_rfl) (ev_pick_t' g59 rfl rfl) rfl rfl ?_
                    obtain rfl := Option.some.inj h
                    exact T3_sub rest (sub_cons rfl (sub_skip (sub_skip (sub_skip (sub_skip (sub_skip (sub_skip (sub_skip (sub_skip sub_refl rfl) rfl) rfl) rfl) rfl) rfl) rfl) rfl)) (cv_refl _) (cv_refl _)
                  · have h := cond_f g59 hb59
                    refine T3_rd 15 rfl (by kernel_rfl) (rd_boxS (us := [.slice A1 n1 c1, .slice A2 n2 c2]) 4 rfl rfl agg24 rfl) (g_ff g59 rfl) rfl ?_
                    refine T3_ev 16 rfl (by kernel_rfl) (ev_move rfl) (g_ff g59 rfl) rfl ?_
                    refine T3_ev 17 rfl (by kernel_rfl) (ev_move rfl) (g_ff g59 rfl) rfl ?_
                    obtain ⟨x60, hx60, h⟩ := bind_elim h
                    obtain ⟨lx60, ux60, hx60⟩ := getE_elim hx60
                    refine T3_rd 18 rfl (by kernel_rfl) (rd_idx 1 rfl els_own rfl rfl Try.underlying31 size3 lx60 ux60) (g_ff g59 rfl) rfl ?_
                    refine T3_rd 19 rfl (by kernel_rfl) (rd_elem1 (u := .int .i64 x60) 1 rfl els_own rfl hx60 one3 (fun _ _ _ h => by rw [show _ = _ from h]; rfl)) (g_ff g59 rfl) rfl ?_
                    obtain ⟨y61, hy61, h⟩ := bind_elim h
                    refine T3_opd 20 rfl (by kernel_rfl) (op_callR (pantomimeref19_Has_ok hy61) call17 rfl (mem_cons (lent_ro (i := 2) rfl rfl) (mem_cons (lent_ro (i := 3) rfl rfl) mem_nil)) pantomimeref19_Has_free) rfl (g_ff g59 rfl) rfl ?_
                    rintro _ _ ⟨_, ⟨rfl, rfl⟩, rfl⟩
                    refine ⟨_, cv_refl _, cv_refl _, ?_⟩
                    refine T3_ev 21 rfl (by kernel_rfl) (ev_not rfl) (g_ff g59 rfl) rfl ?_
                    refine T3_ev 22 rfl (by kernel_rfl) (ev_pick_f' g59 rfl rfl) rfl rfl ?_
                    obtain rfl := Option.some.inj h
                    exact T3_sub rest (sub_cons rfl (sub_skip (sub_skip (sub_skip (sub_skip (sub_skip (sub_skip (sub_skip (sub_skip sub_refl rfl) rfl) rfl) rfl) rfl) rfl) rfl) rfl)) (cv_refl _) (cv_refl _)
                refine T3_done (by kernel_rfl) ?_
                refine nx_n ?_
                refine G_cond rfl (fun g62 => ?_) (fun g62 => ?_)
                · replace h := cond_t g62 h
                  refine G_seq ?_
                  refine G_region ?_
                  refine G_ev (ev_assign rfl) rfl rfl rfl ?_
                  refine G_nil ?_
                  refine nx_n ?_
                  refine G_ret ?_
                  refine bk_r ?_
                  refine nx_r ?_
                  refine nx_r ?_
                  refine bk_r ?_
                  refine nx_r ?_
                  obtain rfl := Option.some.inj h
                  exact endG1 rfl rfl (cv_sel [] 5 rfl rfl) ⟨rfl, rfl⟩
                · replace h := cond_f g62 h
                  refine G_skip ?_
                  refine bk_n ?_
                  refine nx_n ?_
                  exact ⟨_, _, ⟨h, rfl, rfl⟩, sub_cons rfl (sub_cons rfl (sub_cons rfl (sub_cons rfl (sub_cons rfl (sub_cons rfl sub_nil))))), cv_sel [0, 1, 2, 3, 4] 5 rfl rfl⟩
          · rintro _ _ ⟨h, rfl, rfl⟩
            refine G_region ?_
            obtain ⟨q63, h⟩ := req_elim h
            refine G_ev (ev_add rfl rfl q63.1 q63.2) rfl rfl rfl ?_
            refine G_ev (ev_move rfl) rfl rfl rfl ?_
            refine G_nil ?_
            refine nx_n ?_
            exact ⟨m26, _, _, Nat.lt_succ_self _, ⟨p27 + 1, h, rfl, rfl⟩, sub_cons rfl (sub_cons rfl (sub_cons rfl (sub_cons rfl (sub_cons rfl (sub_cons rfl sub_nil))))), cv_sel [0, 1, 2, 3, 4] 5 rfl rfl⟩
        · replace h := cond_f g28 h
          refine G_exit ?_
          refine nx_e ?_
          refine nx_e ?_
          refine bk_x ?_
          refine nx_n ?_
          exact ⟨_, _, ⟨h, rfl, rfl⟩, sub_cons rfl (sub_cons rfl (sub_cons rfl (sub_cons rfl sub_nil))), cv_sel [0, 1, 2, 3, 4] 5 rfl rfl⟩
      · rintro _ _ ⟨h, rfl, rfl⟩
        refine G_seq ?_
        refine G_region ?_
        refine G_rd (rd_boxS (us := [.slice A1 n1 c1, .slice A2 n2 c2]) 4 rfl rfl agg24 rfl) rfl rfl rfl ?_
        refine G_ev (ev_move rfl) rfl rfl rfl ?_
        obtain ⟨y64, hy64, h⟩ := bind_elim h
        refine G_opd (op_callR (reach_Strong_ok hy64) call22 rfl (mem_cons (lent_ro (i := 2) rfl rfl) (mem_cons (lent_ro (i := 3) rfl rfl) (mem_cons (lent_ro (i := 0) rfl rfl) mem_nil))) reach_Strong_free) rfl rfl rfl ?_
        rintro _ _ ⟨_, ⟨A65, n65, c65, rfl, rfl⟩, rfl⟩
        refine G_ev (ev_assign rfl) rfl rfl rfl ?_
        refine G_nil ?_
        refine nx_n ?_
        refine G_joinF (fun s L => pantomimelaw19_ReachHeld_j66 N = some r ∧ s = [(4, .bool false)] ∧ L = []) ?_ ?_
        · refine G_seq ?_
          refine G_region ?_
          refine G_ev (ev_move rfl) rfl rfl rfl ?_
          refine G_rd (rd_len 0 rfl els_own rfl Try.underlying31) rfl rfl rfl ?_
          refine G_ev (ev_move rfl) rfl rfl rfl ?_
          refine G_nil ?_
          refine nx_n ?_
          refine G_block ?_
          refine G_loopF (fun m s L => ∃ (p68 : Int), pantomimelaw19_ReachHeld_l67 N y64 y8 m p68 = some r ∧ s = [(4, .bool false), (5, .slice A9 n9 c9), (11, .slice A65 n65 c65), (126, .int .i64 (y64.length : Int)), (127, .int .i64 p68)] ∧ L = [ownC (rInt .i64) 3 (.slice A9 n9 c9) y8, ownC (rInt .i64) 3 (.slice A65 n65 c65) y64]) N _ _ ⟨0, h, rfl, rfl⟩ (sub_cons rfl (sub_cons rfl (sub_cons rfl (sub_cons rfl (sub_cons rfl sub_nil))))) (cv_sel [2, 0] 6 rfl rfl) ?_
          rintro (_ | m67) _ _ ⟨p68, h, rfl, rfl⟩
          · exact none_some h
          rw [pantomimelaw19_ReachHeld_l67_s] at h
          refine G_seq ?_
          refine G_region ?_
          refine G_ev (ev_lt rfl rfl) rfl rfl rfl ?_
          refine G_nil ?_
          refine nx_n ?_
          refine G_seq ?_
          refine G_cond rfl (fun g69 => ?_) (fun g69 => ?_)
          · replace h := cond_t g69 h
            refine G_skip ?_
            refine nx_n ?_
            refine G_seq ?_
            refine G_block ?_
            refine G_seq ?_
            refine G_region ?_
            refine G_ev (ev_move rfl) rfl rfl rfl ?_
            refine G_ev (ev_assign rfl) rfl rfl rfl ?_
            refine G_nil ?_
            refine nx_n ?_
            refine G_seq ?_
            refine G_region ?_
            refine G_ev (ev_move rfl) rfl rfl rfl ?_
            refine G_ev (ev_move rfl) rfl rfl rfl ?_
            refine G_ev (ev_move rfl) rfl rfl rfl ?_
            obtain ⟨x70, hx70, h⟩ := bind_elim h
            obtain ⟨lx70, ux70, hx70⟩ := getE_elim hx70
            refine G_rd (rd_idx 1 rfl els_own rfl rfl Try.underlying31 size3 lx70 ux70) rfl rfl rfl ?_
            refine G_rd (rd_elem1 (u := .int .i64 x70) 1 rfl els_own rfl hx70 one3 (fun _ _ _ h => by rw [show _ = _ from h]; rfl)) rfl rfl rfl ?_
            obtain ⟨y71, hy71, h⟩ := bind_elim h
            refine G_opd (op_callR (pantomimeref19_In_ok hy71) call18 rfl (mem_cons (lent_own (i := 0) rfl) mem_nil) pantomimeref19_In_free) rfl rfl rfl ?_
            rintro _ _ ⟨_, ⟨rfl, rfl⟩, rfl⟩
            refine G_ev (ev_not rfl) rfl rfl rfl ?_
            refine G_nil ?_
            refine nx_n ?_
            refine G_cond rfl (fun g72 => ?_) (fun g72 => ?_)
            · replace h := cond_t g72 h
              refine G_seq ?_
              refine G_region ?_
              refine G_ev (ev_assign rfl) rfl rfl rfl ?_
              refine G_nil ?_
              refine nx_n ?_
              refine G_ret ?_
              refine bk_r ?_
              refine nx_r ?_
              refine nx_r ?_
              refine bk_r ?_
              refine nx_r ?_
              obtain rfl := Option.some.inj h
              exact endG1 rfl rfl (cv_sel [] 2 rfl rfl) ⟨rfl, rfl⟩
            · replace h := cond_f g72 h
              refine G_skip ?_
              refine bk_n ?_
              refine nx_n ?_
              refine G_region ?_
              obtain ⟨q73, h⟩ := req_elim h
              refine G_ev (ev_add rfl rfl q73.1 q73.2) rfl rfl rfl ?_
              refine G_ev (ev_move rfl) rfl rfl rfl ?_
              refine G_nil ?_
              refine nx_n ?_
              exact ⟨m67, _, _, Nat.lt_succ_self _, ⟨p68 + 1, h, rfl, rfl⟩, sub_cons rfl (sub_cons rfl (sub_cons rfl (sub_cons rfl (sub_cons rfl sub_nil)))), cv_sel [0, 1] 2 rfl rfl⟩
          · replace h := cond_f g69 h
            refine G_exit ?_
            refine nx_e ?_
            refine nx_e ?_
            refine bk_x ?_
            refine nx_n ?_
            exact ⟨_, _, ⟨h, rfl, rfl⟩, sub_cons rfl sub_nil, cv_sel [] 2 rfl rfl⟩
        · rintro _ _ ⟨h, rfl, rfl⟩
          refine G_seq ?_
          refine G_region ?_
          obtain ⟨y74, hy74, h⟩ := bind_elim h
          refine G_opd (op_callR (pantomimelaw19_goes_ok hy74) call15 rfl (mem_nil) pantomimelaw19_goes_free) rfl rfl rfl ?_
          rintro _ _ ⟨_, ⟨rfl, rfl⟩, rfl⟩
          refine G_ev (ev_assign rfl) rfl rfl rfl ?_
          refine G_nil ?_
          refine nx_n ?_
          refine G_ret ?_
          obtain rfl := Option.some.inj h
          exact endG1 rfl rfl (cv_sel [] 0 rfl rfl) ⟨rfl, rfl⟩
theorem pantomimelaw19_ReachHeld_free {r : Bool} : ∀ v post, ((fun (u : Value) (post : List Chunk) => u = .bool r ∧ post = [])) v post → ∀ c ∈ post, Free c := by
  rintro _ _ ⟨rfl, rfl⟩; exact mem_nil

end Go.Proofs.Ytmbaennilhdieaa
