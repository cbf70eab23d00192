/- Merged texts: part 6. No conditions of their own. -/
import Derived.Test.YtmbaennilhdieaaGreatG5
/- Pure functions and contracts of Go functions (printed by all3.py). -/
namespace Go.Proofs.YtmbaennilhdieaaGreat
open Go.RowKit Asn
set_option maxRecDepth 20000
def r19_place_j2 (N : Nat) : Option Int :=
 some (-1)
def r19_place_l3 (N : Nat) (a1 : Int) (a0 : (List Int)) : Nat → Int → Option Int
 | 0, _ => none
 | m3 + 1, p4 => bif decide (p4 < (a0.length : Int)) then ((getE a0 p4).bind fun x6 => bif decide (x6 = a1) then (some p4) else (req (in64 (p4 + 1)) ((r19_place_l3 N a1 a0 m3) (p4 + 1)))) else (r19_place_j2 N)
theorem r19_place_l3_s {N m3 : Nat} {a1 : Int} {a0 : (List Int)} {p4 : Int} : r19_place_l3 N a1 a0 (m3 + 1) p4 = bif decide (p4 < (a0.length : Int)) then ((getE a0 p4).bind fun x6 => bif decide (x6 = a1) then (some p4) else (req (in64 (p4 + 1)) ((r19_place_l3 N a1 a0 m3) (p4 + 1)))) else (r19_place_j2 N) := rfl
def r19_place_O (N : Nat) (a0 : (List Int)) (a1 : Int) : Option Int :=
 r19_place_l3 N a1 a0 N 0
theorem r19_place_ok {N : Nat} {a0 : (List Int)} {a1 : Int} {r : Int} (h : r19_place_O N a0 a1 = some r) {A1 : Option Addr} {n1 c1 : Nat} : Okc Tryz.prog 129 [.slice A1 n1 c1, iV a1] ([kS5 A1 n1 c1 a0]) (fun (u : Value) (post : List Chunk) => u = iV r ∧ post = []) := by
 refine ok_E Tryz.func129 rfl rfl ?_
 simp only [envOf]
 refine run ?_
 refine G_joinF (fun s L => r19_place_j2 N = some r ∧ s = [(4, iV 0)] ∧ L = []) ?_ ?_
 ·refine run ?_
  refine G_loopF (fun m s L => ∃ (p4 : Int), r19_place_l3 N a1 a0 m p4 = some r ∧ s = [(0, .slice A1 n1 c1), (1, iV a1), (4, iV 0), (5, iV p4)] ∧ L = [kS5 A1 n1 c1 a0]) N _ _ ⟨0, h, rfl, rfl⟩ sA (cv_sel [0] 1 rfl rfl) ?_
  rintro (_ | m3) _ _ ⟨p4, h, rfl, rfl⟩
  ·exact none_some h
  rw [r19_place_l3_s] at h
  refine G_seq ?_
  refine run ?_
  refine gR (rd_len 0 rfl els_sl rfl Tryz.underlying35) ?_
  refine run ?_
  refine G_cond rfl (fun g5 => ?_) (fun g5 => ?_)
  ·replace h := cond_t g5 h
   refine run ?_
   refine G_seq ?_
   refine run ?_
   obtain ⟨x6, hx6, h⟩ := bind_elim h
   obtain ⟨lx6, ux6, hx6⟩ := getE_elim hx6
   refine gR (rd_idx 0 rfl els_sl rfl rfl Tryz.underlying35 size3 lx6 ux6) ?_
   refine gR (rd_elem1 (u := iV x6) 0 rfl els_sl rfl hx6 one3 (fun _ _ _ h => by rw [show _ = _ from h]; rfl)) ?_
   refine run ?_
   refine G_cond rfl (fun g7 => ?_) (fun g7 => ?_)
   ·replace h := cond_t g7 h
    refine run ?_
    obtain rfl := Option.some.inj h
    exact endG1 rfl rfl (cv_sel [] 1 rfl rfl) ⟨rfl, rfl⟩
   ·replace h := cond_f g7 h
    refine run ?_
    obtain ⟨q8, h⟩ := req_elim h
    refine gE (ev_add rfl rfl q8.1 q8.2) ?_
    refine run ?_
    exact ⟨m3, _, _, Nat.lt_succ_self _, ⟨p4 + 1, h, rfl, rfl⟩, sA, cv_sel [0] 1 rfl rfl⟩
  ·replace h := cond_f g5 h
   refine run ?_
   exact ⟨_, _, ⟨h, rfl, rfl⟩, sA, cv_sel [] 1 rfl rfl⟩
 ·rintro _ _ ⟨h, rfl, rfl⟩
  refine run ?_
  obtain rfl := Option.some.inj h
  exact endG1 rfl rfl (cv_sel [] 0 rfl rfl) ⟨rfl, rfl⟩
theorem r19_place_free {r : Int} : ∀ v post, ((fun (u : Value) (post : List Chunk) => u = iV r ∧ post = [])) v post → ∀ c ∈ post, Free c := by
 rintro _ _ ⟨rfl, rfl⟩; exact mem_nil
def r19_values_j12 (N : Nat) : Option Bool :=
 some true
def r19_values_l13 (N : Nat) (a1 : (List DValue)) (a3 : (List DValue)) (a0 : DSide) (a2 : DSide) : Nat → Int → Option Bool
 | 0, _ => none
 | m13 + 1, p14 => bif decide (p14 < (a1.length : Int)) then ((getE a1 p14).bind fun x16 => (bif decide (x16.Kind = 7) then (some true) else ((getE a1 p14).bind fun x18 => some (decide (x18.Kind = 9)))).bind fun b17 => (bif !b17 then ((getE a1 p14).bind fun x20 => (getE a3 p14).bind fun x21 => some (!decide (x20 = x21))) else (some false)).bind fun b19 => bif b19 then (some false) else ((bif b17 then ((getE a1 p14).bind fun x24 => (getE a3 p14).bind fun x25 => (bif !decide (x24.Kind = x25.Kind) then (some true) else ((getE a1 p14).bind fun x27 => (getE a3 p14).bind fun x28 => some (!(x27.S.toList == x28.S.toList)))).bind fun b26 => (bif b26 then (some true) else ((getE a1 p14).bind fun x30 => (getE a3 p14).bind fun x31 => (r19_Has_O N a0.M x30.N).bind fun y32 => (r19_Has_O N a2.M x31.N).bind fun y33 => some (!(y32 == y33)))).bind fun b29 => some b29) else (some false)).bind fun b23 => bif b23 then (some false) else ((bif b17 then ((getE a1 p14).bind fun x36 => (r19_Has_O N a0.M x36.N).bind fun y37 => some y37) else (some false)).bind fun b35 => (bif b35 then ((getE a1 p14).bind fun x39 => (getE a3 p14).bind fun x40 => (r19_place_O N a0.Order x39.N).bind fun y41 => (r19_place_O N a2.Order x40.N).bind fun y42 => some (!decide (y41 = y42))) else (some false)).bind fun b38 => bif b38 then (some false) else (req (in64 (p14 + 1)) ((r19_values_l13 N a1 a3 a0 a2 m13) (p14 + 1)))))) else (r19_values_j12 N)
theorem r19_values_l13_s {N m13 : Nat} {a1 : (List DValue)} {a3 : (List DValue)} {a0 : DSide} {a2 : DSide} {p14 : Int} : r19_values_l13 N a1 a3 a0 a2 (m13 + 1) p14 = bif decide (p14 < (a1.length : Int)) then ((getE a1 p14).bind fun x16 => (bif decide (x16.Kind = 7) then (some true) else ((getE a1 p14).bind fun x18 => some (decide (x18.Kind = 9)))).bind fun b17 => (bif !b17 then ((getE a1 p14).bind fun x20 => (getE a3 p14).bind fun x21 => some (!decide (x20 = x21))) else (some false)).bind fun b19 => bif b19 then (some false) else ((bif b17 then ((getE a1 p14).bind fun x24 => (getE a3 p14).bind fun x25 => (bif !decide (x24.Kind = x25.Kind) then (some true) else ((getE a1 p14).bind fun x27 => (getE a3 p14).bind fun x28 => some (!(x27.S.toList == x28.S.toList)))).bind fun b26 => (bif b26 then (some true) else ((getE a1 p14).bind fun x30 => (getE a3 p14).bind fun x31 => (r19_Has_O N a0.M x30.N).bind fun y32 => (r19_Has_O N a2.M x31.N).bind fun y33 => some (!(y32 == y33)))).bind fun b29 => some b29) else (some false)).bind fun b23 => bif b23 then (some false) else ((bif b17 then ((getE a1 p14).bind fun x36 => (r19_Has_O N a0.M x36.N).bind fun y37 => some y37) else (some false)).bind fun b35 => (bif b35 then ((getE a1 p14).bind fun x39 => (getE a3 p14).bind fun x40 => (r19_place_O N a0.Order x39.N).bind fun y41 => (r19_place_O N a2.Order x40.N).bind fun y42 => some (!decide (y41 = y42))) else (some false)).bind fun b38 => bif b38 then (some false) else (req (in64 (p14 + 1)) ((r19_values_l13 N a1 a3 a0 a2 m13) (p14 + 1)))))) else (r19_values_j12 N) := rfl
def r19_values_O (N : Nat) (a0 : DSide) (a1 : (List DValue)) (a2 : DSide) (a3 : (List DValue)) : Option Bool :=
 bif !decide ((a1.length : Int) = (a3.length : Int)) then (some false) else (r19_values_l13 N a1 a3 a0 a2 N 0)
set_option maxHeartbeats 4000000 in
theorem r19_values_ok {N : Nat} {a0 : DSide} {a1 : (List DValue)} {a2 : DSide} {a3 : (List DValue)} {r : Bool} (h : r19_values_O N a0 a1 a2 a3 = some r) {A1 : Option Addr} {n1 c1 : Nat} {A2 : Option Addr} {n2 c2 : Nat} {A3 : Option Addr} {n3 c3 : Nat} {A4 : Option Addr} {n4 c4 : Nat} {A5 : Option Addr} {n5 c5 : Nat} {A6 : Option Addr} {n6 c6 : Nat} {A7 : Option Addr} {n7 c7 : Nat} {A8 : Option Addr} {n8 c8 : Nat} : Okc Tryz.prog 74 [.agg #[.slice A1 n1 c1, .slice A2 n2 c2, .slice A3 n3 c3], .slice A4 n4 c4, .agg #[.slice A5 n5 c5, .slice A6 n6 c6, .slice A7 n7 c7], .slice A8 n8 c8] ([kS1 A1 n1 c1 a0.M.Young, kS1 A2 n2 c2 a0.M.Old, kS5 A3 n3 c3 a0.Order, kS0 A4 n4 c4 a1, kS1 A5 n5 c5 a2.M.Young, kS1 A6 n6 c6 a2.M.Old, kS5 A7 n7 c7 a2.Order, kS0 A8 n8 c8 a3]) (fun (u : Value) (post : List Chunk) => u = .bool r ∧ post = []) := by
 refine ok_E Tryz.func74 rfl rfl ?_
 simp only [envOf]
 refine run ?_
 refine gD (op_box rfl rfl) ?_
 rintro _ _ ⟨B9, rfl, rfl⟩
 refine gD (op_box rfl rfl) ?_
 rintro _ _ ⟨B10, rfl, rfl⟩
 refine run ?_
 refine G_seq ?_
 refine run ?_
 refine gR (rd_len 5 rfl els_sl rfl Tryz.underlying25) ?_
 refine run ?_
 refine gR (rd_len 9 rfl els_sl rfl Tryz.underlying25) ?_
 refine run ?_
 refine G_cond rfl (fun g11 => ?_) (fun g11 => ?_)
 ·replace h := cond_t g11 h
  refine run ?_
  obtain rfl := Option.some.inj h
  exact endG1 rfl rfl (cv_sel [] 10 rfl rfl) ⟨rfl, rfl⟩
 ·replace h := cond_f g11 h
  refine run ?_
  refine G_joinF (fun s L => r19_values_j12 N = some r ∧ s = [(8, .bool false)] ∧ L = []) ?_ ?_
  ·refine run ?_
   refine G_loopF (fun m s L => ∃ (p14 : Int), r19_values_l13 N a1 a3 a0 a2 m p14 = some r ∧ s = [(1, .slice A4 n4 c4), (3, .slice A8 n8 c8), (4, pV B9 0), (6, pV B10 0), (8, .bool false), (9, iV p14)] ∧ L = [kS0 A4 n4 c4 a1, kS0 A8 n8 c8 a3, kS1 A1 n1 c1 a0.M.Young, kS1 A2 n2 c2 a0.M.Old, kS5 A3 n3 c3 a0.Order, boxC B9 93 [.slice A1 n1 c1, .slice A2 n2 c2, .slice A3 n3 c3], kS1 A5 n5 c5 a2.M.Young, kS1 A6 n6 c6 a2.M.Old, kS5 A7 n7 c7 a2.Order, boxC B10 93 [.slice A5 n5 c5, .slice A6 n6 c6, .slice A7 n7 c7]]) N _ _ ⟨0, h, rfl, rfl⟩ sA (cv_sel [5, 9, 2, 3, 4, 1, 6, 7, 8, 0] 10 rfl rfl) ?_
   rintro (_ | m13) _ _ ⟨p14, h, rfl, rfl⟩
   ·exact none_some h
   rw [r19_values_l13_s] at h
   refine G_seq ?_
   refine run ?_
   refine gR (rd_len 0 rfl els_sl rfl Tryz.underlying25) ?_
   refine run ?_
   refine G_cond rfl (fun g15 => ?_) (fun g15 => ?_)
   ·replace h := cond_t g15 h
    refine run ?_
    refine G_seq ?_
    refine run ?_
    obtain ⟨x16, hx16, h⟩ := bind_elim h
    obtain ⟨lx16, ux16, hx16⟩ := getE_elim hx16
    refine gR (rd_idx 0 rfl els_sl rfl rfl Tryz.underlying25 size38 lx16 ux16) ?_
    refine gR (rd_fa0 0 rfl els_sl rfl (toNat_lt lx16 ux16) fa_38_0) ?_
    refine gR (rd_elem1 (u := iV x16.Kind) 0 rfl els_sl rfl hx16 one3 (fun _ _ _ h => by rw [show _ = _ from h]; rfl)) ?_
    refine run ?_
    obtain ⟨b17, hb17, h⟩ := bind_elim h
    refine G_segb 7 35 b17 ?_ ?_
    ·clear h
     refine G_case 28 rfl (fun g17 => ?_) (fun g17 => ?_)
     ·have h := cond_t g17 hb17
      refine run ?_
      obtain rfl := Option.some.inj h
      exact G_joined sA (cv_sel [0, 1, 2, 3, 4, 5, 6, 7, 8, 9] 10 rfl rfl)
     ·have h := cond_f g17 hb17
      refine run ?_
      obtain ⟨x18, hx18, h⟩ := bind_elim h
      obtain ⟨lx18, ux18, hx18⟩ := getE_elim hx18
      refine G_rd (rd_idx 0 rfl els_sl rfl rfl Tryz.underlying25 size38 lx18 ux18) rfl (g_ff g17 rfl) rfl ?_
      refine G_rd (rd_fa0 0 rfl els_sl rfl (toNat_lt lx18 ux18) fa_38_0) rfl (g_ff g17 rfl) rfl ?_
      refine G_rd (rd_elem1 (u := iV x18.Kind) 0 rfl els_sl rfl hx18 one3 (fun _ _ _ h => by rw [show _ = _ from h]; rfl)) rfl (g_ff g17 rfl) rfl ?_
      refine run ?_
      obtain rfl := Option.some.inj h
      exact G_joined sA (cv_sel [0, 1, 2, 3, 4, 5, 6, 7, 8, 9] 10 rfl rfl)
    refine run ?_
    refine G_seq ?_
    refine G_seq ?_
    refine G_drawn (by kernel_rfl) _ (cv_refl _) ?_
    refine T3_ev 0 rfl (by kernel_rfl) (ev_move rfl) rfl rfl ?_
    refine T3_ev 1 rfl (by kernel_rfl) (ev_not rfl) rfl rfl ?_
    refine T3_ev 2 rfl (by kernel_rfl) (ev_move rfl) rfl rfl ?_
    obtain ⟨b19, hb19, h⟩ := bind_elim h
    refine T3_joinB (fun l => ((((((((((l.setIfInBounds 3 true).setIfInBounds 4 true).setIfInBounds 5 true).setIfInBounds 6 true).setIfInBounds 7 true).setIfInBounds 8 true).setIfInBounds 9 true).setIfInBounds 10 true).setIfInBounds 11 true).setIfInBounds 12 true)) 0 48 b19 (fun rest => ?_) ?_
    ·clear h
     refine T3_case 38 rfl (fun g19 => ?_) (fun g19 => ?_)
     ·have h := cond_t g19 hb19
      refine T3_ev 3 rfl (by kernel_rfl) (ev_move rfl) (g_tt g19 rfl) rfl ?_
      refine T3_ev 4 rfl (by kernel_rfl) (ev_move rfl) (g_tt g19 rfl) rfl ?_
      obtain ⟨x20, hx20, h⟩ := bind_elim h
      obtain ⟨lx20, ux20, hx20⟩ := getE_elim hx20
      refine T3_rd 5 rfl (by kernel_rfl) (rd_idx 0 rfl els_sl rfl rfl Tryz.underlying25 size38 lx20 ux20) (g_tt g19 rfl) rfl ?_
      refine T3_rd 6 rfl (by kernel_rfl) (rd_elemS (us := [iV x20.Kind, iV x20.N, .string x20.S]) 0 rfl els_sl rfl hx20 agg38 (fun _ _ _ h => by rw [show _ = _ from h]; rfl)) (g_tt g19 rfl) rfl ?_
      refine T3_ev 7 rfl (by kernel_rfl) (ev_move rfl) (g_tt g19 rfl) rfl ?_
      refine T3_ev 8 rfl (by kernel_rfl) (ev_move rfl) (g_tt g19 rfl) rfl ?_
      obtain ⟨x21, hx21, h⟩ := bind_elim h
      obtain ⟨lx21, ux21, hx21⟩ := getE_elim hx21
      refine T3_rd 9 rfl (by kernel_rfl) (rd_idx 1 rfl els_sl rfl rfl Tryz.underlying25 size38 lx21 ux21) (g_tt g19 rfl) rfl ?_
      refine T3_rd 10 rfl (by kernel_rfl) (rd_elemS (us := [iV x21.Kind, iV x21.N, .string x21.S]) 1 rfl els_sl rfl hx21 agg38 (fun _ _ _ h => by rw [show _ = _ from h]; rfl)) (g_tt g19 rfl) rfl ?_
      refine T3_ev 11 rfl (by kernel_rfl) (ev_seqn38 (x := x20) (y := x21) rfl rfl) (g_tt g19 rfl) rfl ?_
      refine T3_ev 12 rfl (by kernel_rfl) (ev_pick_t' g19 rfl rfl) rfl rfl ?_
      obtain rfl := Option.some.inj h
      exact T3_sub rest (sub_cons rfl (sub_skip (sub_skip (sub_skip (sub_skip (sub_skip (sub_skip (sub_skip (sub_skip (sub_skip (sub_skip sub_refl rfl) rfl) rfl) rfl) rfl) rfl) rfl) rfl) rfl) rfl)) (cv_refl _) (cv_refl _)
     ·have h := cond_f g19 hb19
      refine T3_no 3 rfl (by kernel_rfl) (g_tf g19 rfl) rfl ?_
      refine T3_no 4 rfl (by kernel_rfl) (g_tf g19 rfl) rfl ?_
      refine T3_no 5 rfl (by kernel_rfl) (g_tf g19 rfl) rfl ?_
      refine T3_no 6 rfl (by kernel_rfl) (g_tf g19 rfl) rfl ?_
      refine T3_no 7 rfl (by kernel_rfl) (g_tf g19 rfl) rfl ?_
      refine T3_no 8 rfl (by kernel_rfl) (g_tf g19 rfl) rfl ?_
      refine T3_no 9 rfl (by kernel_rfl) (g_tf g19 rfl) rfl ?_
      refine T3_no 10 rfl (by kernel_rfl) (g_tf g19 rfl) rfl ?_
      refine T3_no 11 rfl (by kernel_rfl) (g_tf g19 rfl) rfl ?_
      refine T3_ev 12 rfl (by kernel_rfl) (ev_pick_f' g19 rfl rfl) rfl rfl ?_
      obtain rfl := Option.some.inj h
      exact T3_sub rest (sub_cons rfl (sub_skip (sub_skip (sub_skip (sub_skip (sub_skip (sub_skip (sub_skip (sub_skip (sub_skip (sub_skip sub_refl rfl) rfl) rfl) rfl) rfl) rfl) rfl) rfl) rfl) rfl)) (cv_refl _) (cv_refl _)
    refine T3_done (by kernel_rfl) ?_
    refine nx_n ?_
    refine G_cond rfl (fun g22 => ?_) (fun g22 => ?_)
    ·replace h := cond_t g22 h
     refine run ?_
     obtain rfl := Option.some.inj h
     exact endG1 rfl rfl (cv_sel [] 10 rfl rfl) ⟨rfl, rfl⟩
    ·replace h := cond_f g22 h
     refine run ?_
     refine G_seq ?_
     refine G_seq ?_
     refine G_drawn (by kernel_rfl) _ (cv_refl _) ?_
     refine T3_ev 0 rfl (by kernel_rfl) (ev_move rfl) rfl rfl ?_
     refine T3_ev 1 rfl (by kernel_rfl) (ev_move rfl) rfl rfl ?_
     obtain ⟨b23, hb23, h⟩ := bind_elim h
     refine T3_joinB (fun l => ((((((((((((((((((((((((((((((((((((((((((((l.setIfInBounds 2 true).setIfInBounds 3 true).setIfInBounds 4 true).setIfInBounds 5 true).setIfInBounds 6 true).setIfInBounds 7 true).setIfInBounds 8 true).setIfInBounds 9 true).setIfInBounds 10 true).setIfInBounds 11 true).setIfInBounds 12 true).setIfInBounds 13 true).setIfInBounds 14 true).setIfInBounds 15 true).setIfInBounds 16 true).setIfInBounds 17 true).setIfInBounds 18 true).setIfInBounds 19 true).setIfInBounds 20 true).setIfInBounds 21 true).setIfInBounds 22 true).setIfInBounds 23 true).setIfInBounds 24 true).setIfInBounds 25 true).setIfInBounds 26 true).setIfInBounds 27 true).setIfInBounds 28 true).setIfInBounds 29 true).setIfInBounds 30 true).setIfInBounds 31 true).setIfInBounds 32 true).setIfInBounds 33 true).setIfInBounds 35 true).setIfInBounds 36 true).setIfInBounds 37 true).setIfInBounds 38 true).setIfInBounds 39 true).setIfInBounds 40 true).setIfInBounds 41 true).setIfInBounds 34 true).setIfInBounds 42 true).setIfInBounds 43 true).setIfInBounds 44 true).setIfInBounds 45 true)) 0 94 b23 (fun rest => ?_) ?_
     ·clear h
      refine T3_case 50 rfl (fun g23 => ?_) (fun g23 => ?_)
      ·have h := cond_t g23 hb23
       refine T3_ev 2 rfl (by kernel_rfl) (ev_move rfl) (g_tt g23 rfl) rfl ?_
       refine T3_ev 3 rfl (by kernel_rfl) (ev_move rfl) (g_tt g23 rfl) rfl ?_
       obtain ⟨x24, hx24, h⟩ := bind_elim h
       obtain ⟨lx24, ux24, hx24⟩ := getE_elim hx24
       refine T3_rd 4 rfl (by kernel_rfl) (rd_idx 0 rfl els_sl rfl rfl Tryz.underlying25 size38 lx24 ux24) (g_tt g23 rfl) rfl ?_
       refine T3_rd 5 rfl (by kernel_rfl) (rd_fa0 0 rfl els_sl rfl (toNat_lt lx24 ux24) fa_38_0) (g_tt g23 rfl) rfl ?_
       refine T3_rd 6 rfl (by kernel_rfl) (rd_elem1 (u := iV x24.Kind) 0 rfl els_sl rfl hx24 one3 (fun _ _ _ h => by rw [show _ = _ from h]; rfl)) (g_tt g23 rfl) rfl ?_
       refine T3_ev 7 rfl (by kernel_rfl) (ev_move rfl) (g_tt g23 rfl) rfl ?_
       refine T3_ev 8 rfl (by kernel_rfl) (ev_move rfl) (g_tt g23 rfl) rfl ?_
       obtain ⟨x25, hx25, h⟩ := bind_elim h
       obtain ⟨lx25, ux25, hx25⟩ := getE_elim hx25
       refine T3_rd 9 rfl (by kernel_rfl) (rd_idx 1 rfl els_sl rfl rfl Tryz.underlying25 size38 lx25 ux25) (g_tt g23 rfl) rfl ?_
       refine T3_rd 10 rfl (by kernel_rfl) (rd_fa0 1 rfl els_sl rfl (toNat_lt lx25 ux25) fa_38_0) (g_tt g23 rfl) rfl ?_
       refine T3_rd 11 rfl (by kernel_rfl) (rd_elem1 (u := iV x25.Kind) 1 rfl els_sl rfl hx25 one3 (fun _ _ _ h => by rw [show _ = _ from h]; rfl)) (g_tt g23 rfl) rfl ?_
       refine T3_ev 12 rfl (by kernel_rfl) (ev_ne rfl rfl) (g_tt g23 rfl) rfl ?_
       refine T3_ev 13 rfl (by kernel_rfl) (ev_move rfl) (g_tt g23 rfl) rfl ?_
       obtain ⟨b26, hb26, h⟩ := bind_elim h
       refine T3_joinB (fun l => ((((((((((((l.setIfInBounds 14 true).setIfInBounds 15 true).setIfInBounds 16 true).setIfInBounds 17 true).setIfInBounds 18 true).setIfInBounds 19 true).setIfInBounds 20 true).setIfInBounds 21 true).setIfInBounds 22 true).setIfInBounds 23 true).setIfInBounds 24 true).setIfInBounds 25 true)) 20 74 b26 (fun rest => ?_) ?_
       ·clear h
        refine T3_case 62 rfl (fun g26 => ?_) (fun g26 => ?_)
        ·have h := cond_t g26 hb26
         refine T3_no 14 rfl (by kernel_rfl) (g_ft g26 rfl) rfl ?_
         refine T3_no 15 rfl (by kernel_rfl) (g_ft g26 rfl) rfl ?_
         refine T3_no 16 rfl (by kernel_rfl) (g_ft g26 rfl) rfl ?_
         refine T3_no 17 rfl (by kernel_rfl) (g_ft g26 rfl) rfl ?_
         refine T3_no 18 rfl (by kernel_rfl) (g_ft g26 rfl) rfl ?_
         refine T3_no 19 rfl (by kernel_rfl) (g_ft g26 rfl) rfl ?_
         refine T3_no 20 rfl (by kernel_rfl) (g_ft g26 rfl) rfl ?_
         refine T3_no 21 rfl (by kernel_rfl) (g_ft g26 rfl) rfl ?_
         refine T3_no 22 rfl (by kernel_rfl) (g_ft g26 rfl) rfl ?_
         refine T3_no 23 rfl (by kernel_rfl) (g_ft g26 rfl) rfl ?_
         refine T3_no 24 rfl (by kernel_rfl) (g_ft g26 rfl) rfl ?_
         refine T3_ev 25 rfl (by kernel_rfl) (ev_pick_t' g26 rfl rfl) (g_tt g23 rfl) rfl ?_
         obtain rfl := Option.some.inj h
         exact T3_sub rest (sub_cons rfl (sub_skip (sub_skip (sub_skip (sub_skip (sub_skip (sub_skip (sub_skip (sub_skip (sub_skip (sub_skip (sub_skip (sub_skip sub_refl rfl) rfl) rfl) rfl) rfl) rfl) rfl) rfl) rfl) rfl) rfl) rfl)) (cv_refl _) (cv_refl _)
        ·have h := cond_f g26 hb26
         refine T3_ev 14 rfl (by kernel_rfl) (ev_move rfl) (g_ff g26 rfl) rfl ?_
         refine T3_ev 15 rfl (by kernel_rfl) (ev_move rfl) (g_ff g26 rfl) rfl ?_
         obtain ⟨x27, hx27, h⟩ := bind_elim h
         obtain ⟨lx27, ux27, hx27⟩ := getE_elim hx27
         refine T3_rd 16 rfl (by kernel_rfl) (rd_idx 0 rfl els_sl rfl rfl Tryz.underlying25 size38 lx27 ux27) (g_ff g26 rfl) rfl ?_
         refine T3_rd 17 rfl (by kernel_rfl) (rd_fa 0 rfl els_sl rfl (toNat_lt lx27 ux27) fa_38_2) (g_ff g26 rfl) rfl ?_
         refine T3_rd 18 rfl (by kernel_rfl) (rd_elem1 (u := .string x27.S) 0 rfl els_sl rfl hx27 one9 (fun _ _ _ h => by rw [show _ = _ from h]; rfl)) (g_ff g26 rfl) rfl ?_
         refine T3_ev 19 rfl (by kernel_rfl) (ev_move rfl) (g_ff g26 rfl) rfl ?_
         refine T3_ev 20 rfl (by kernel_rfl) (ev_move rfl) (g_ff g26 rfl) rfl ?_
         obtain ⟨x28, hx28, h⟩ := bind_elim h
         obtain ⟨lx28, ux28, hx28⟩ := getE_elim hx28
         refine T3_rd 21 rfl (by kernel_rfl) (rd_idx 1 rfl els_sl rfl rfl Tryz.underlying25 size38 lx28 ux28) (g_ff g26 rfl) rfl ?_
         refine T3_rd 22 rfl (by kernel_rfl) (rd_fa 1 rfl els_sl rfl (toNat_lt lx28 ux28) fa_38_2) (g_ff g26 rfl) rfl ?_
         refine T3_rd 23 rfl (by kernel_rfl) (rd_elem1 (u := .string x28.S) 1 rfl els_sl rfl hx28 one9 (fun _ _ _ h => by rw [show _ = _ from h]; rfl)) (g_ff g26 rfl) rfl ?_
         refine T3_ev 24 rfl (by kernel_rfl) (ev_strne rfl rfl) (g_ff g26 rfl) rfl ?_
         refine T3_ev 25 rfl (by kernel_rfl) (ev_pick_f' g26 rfl rfl) (g_tt g23 rfl) rfl ?_
         obtain rfl := Option.some.inj h
         exact T3_sub rest (sub_cons rfl (sub_skip (sub_skip (sub_skip (sub_skip (sub_skip (sub_skip (sub_skip (sub_skip (sub_skip (sub_skip (sub_skip (sub_skip sub_refl rfl) rfl) rfl) rfl) rfl) rfl) rfl) rfl) rfl) rfl) rfl) rfl)) (cv_refl _) (cv_refl _)
       refine T3_ev 26 rfl (by kernel_rfl) (ev_move rfl) (g_tt g23 rfl) rfl ?_
       obtain ⟨b29, hb29, h⟩ := bind_elim h
       refine T3_joinB (fun l => ((((((((((((((((((l.setIfInBounds 27 true).setIfInBounds 28 true).setIfInBounds 29 true).setIfInBounds 30 true).setIfInBounds 31 true).setIfInBounds 32 true).setIfInBounds 33 true).setIfInBounds 35 true).setIfInBounds 36 true).setIfInBounds 37 true).setIfInBounds 38 true).setIfInBounds 39 true).setIfInBounds 40 true).setIfInBounds 41 true).setIfInBounds 34 true).setIfInBounds 42 true).setIfInBounds 43 true).setIfInBounds 44 true)) 1 93 b29 (fun rest => ?_) ?_
       ·clear h
        refine T3_case 75 rfl (fun g29 => ?_) (fun g29 => ?_)
        ·have h := cond_t g29 hb29
         refine T3_no 27 rfl (by kernel_rfl) (g_ft g29 rfl) rfl ?_
         refine T3_no 28 rfl (by kernel_rfl) (g_ft g29 rfl) rfl ?_
         refine T3_no 29 rfl (by kernel_rfl) (g_ft g29 rfl) rfl ?_
         refine T3_no 30 rfl (by kernel_rfl) (g_ft g29 rfl) rfl ?_
         refine T3_no 31 rfl (by kernel_rfl) (g_ft g29 rfl) rfl ?_
         refine T3_no 32 rfl (by kernel_rfl) (g_ft g29 rfl) rfl ?_
         refine T3_no 33 rfl (by kernel_rfl) (g_ft g29 rfl) rfl ?_
         refine T3_no 35 rfl (by kernel_rfl) (g_ft g29 rfl) rfl ?_
         refine T3_no 36 rfl (by kernel_rfl) (g_ft g29 rfl) rfl ?_
         refine T3_no 37 rfl (by kernel_rfl) (g_ft g29 rfl) rfl ?_
         refine T3_no 38 rfl (by kernel_rfl) (g_ft g29 rfl) rfl ?_
         refine T3_no 39 rfl (by kernel_rfl) (g_ft g29 rfl) rfl ?_
         refine T3_no 40 rfl (by kernel_rfl) (g_ft g29 rfl) rfl ?_
         refine T3_no 41 rfl (by kernel_rfl) (g_ft g29 rfl) rfl ?_
         refine T3_no 34 rfl (by kernel_rfl) (g_ft g29 rfl) rfl ?_
         refine T3_no 42 rfl (by kernel_rfl) (g_ft g29 rfl) rfl ?_
         refine T3_no 43 rfl (by kernel_rfl) (g_ft g29 rfl) rfl ?_
         refine T3_ev 44 rfl (by kernel_rfl) (ev_pick_t' g29 rfl rfl) (g_tt g23 rfl) rfl ?_
         obtain rfl := Option.some.inj h
         exact T3_sub rest (sub_cons rfl (sub_skip (sub_skip (sub_skip (sub_skip (sub_skip (sub_skip (sub_skip (sub_skip (sub_skip (sub_skip (sub_skip (sub_skip (sub_skip (sub_skip (sub_skip (sub_skip (sub_skip (sub_skip sub_refl rfl) rfl) rfl) rfl) rfl) rfl) rfl) rfl) rfl) rfl) rfl) rfl) rfl) rfl) rfl) rfl) rfl) rfl)) (cv_refl _) (cv_refl _)
        ·have h := cond_f g29 hb29
         refine T3_ev 27 rfl (by kernel_rfl) (ev_fa0 rfl fa_93_0) (g_ff g29 rfl) rfl ?_
         refine T3_rd 28 rfl (by kernel_rfl) (rd_boxS (us := [.slice A1 n1 c1, .slice A2 n2 c2]) 5 rfl rfl agg24 rfl) (g_ff g29 rfl) rfl ?_
         refine T3_ev 29 rfl (by kernel_rfl) (ev_move rfl) (g_ff g29 rfl) rfl ?_
         refine T3_ev 30 rfl (by kernel_rfl) (ev_move rfl) (g_ff g29 rfl) rfl ?_
         obtain ⟨x30, hx30, h⟩ := bind_elim h
         obtain ⟨lx30, ux30, hx30⟩ := getE_elim hx30
         refine T3_rd 31 rfl (by kernel_rfl) (rd_idx 0 rfl els_sl rfl rfl Tryz.underlying25 size38 lx30 ux30) (g_ff g29 rfl) rfl ?_
         refine T3_rd 32 rfl (by kernel_rfl) (rd_fa 0 rfl els_sl rfl (toNat_lt lx30 ux30) fa_38_1) (g_ff g29 rfl) rfl ?_
         refine T3_rd 33 rfl (by kernel_rfl) (rd_elem1 (u := iV x30.N) 0 rfl els_sl rfl hx30 one3 (fun _ _ _ h => by rw [show _ = _ from h]; rfl)) (g_ff g29 rfl) rfl ?_
         refine T3_ev 35 rfl (by kernel_rfl) (ev_fa0 rfl fa_93_0) (g_ff g29 rfl) rfl ?_
         refine T3_rd 36 rfl (by kernel_rfl) (rd_boxS (us := [.slice A5 n5 c5, .slice A6 n6 c6]) 9 rfl rfl agg24 rfl) (g_ff g29 rfl) rfl ?_
         refine T3_ev 37 rfl (by kernel_rfl) (ev_move rfl) (g_ff g29 rfl) rfl ?_
         refine T3_ev 38 rfl (by kernel_rfl) (ev_move rfl) (g_ff g29 rfl) rfl ?_
         obtain ⟨x31, hx31, h⟩ := bind_elim h
         obtain ⟨lx31, ux31, hx31⟩ := getE_elim hx31
         refine T3_rd 39 rfl (by kernel_rfl) (rd_idx 1 rfl els_sl rfl rfl Tryz.underlying25 size38 lx31 ux31) (g_ff g29 rfl) rfl ?_
         refine T3_rd 40 rfl (by kernel_rfl) (rd_fa 1 rfl els_sl rfl (toNat_lt lx31 ux31) fa_38_1) (g_ff g29 rfl) rfl ?_
         refine T3_rd 41 rfl (by kernel_rfl) (rd_elem1 (u := iV x31.N) 1 rfl els_sl rfl hx31 one3 (fun _ _ _ h => by rw [show _ = _ from h]; rfl)) (g_ff g29 rfl) rfl ?_
         obtain ⟨y32, hy32, h⟩ := bind_elim h
         refine T3_opd 34 rfl (by kernel_rfl) (op_callR (r19_Has_ok hy32) call14 rfl (mem_cons (lent_ro (i := 2) rfl rfl) (mem_cons (lent_ro (i := 3) rfl rfl) mem_nil)) r19_Has_free) rfl (g_ff g29 rfl) rfl ?_
         rintro _ _ ⟨_, ⟨rfl, rfl⟩, rfl⟩
         refine ⟨_, cv_refl _, cv_refl _, ?_⟩
         obtain ⟨y33, hy33, h⟩ := bind_elim h
         refine T3_opd 42 rfl (by kernel_rfl) (op_callR (r19_Has_ok hy33) call14 rfl (mem_cons (lent_ro (i := 6) rfl rfl) (mem_cons (lent_ro (i := 7) rfl rfl) mem_nil)) r19_Has_free) rfl (g_ff g29 rfl) rfl ?_
         rintro _ _ ⟨_, ⟨rfl, rfl⟩, rfl⟩
         refine ⟨_, cv_refl _, cv_refl _, ?_⟩
         refine T3_ev 43 rfl (by kernel_rfl) (ev_bne rfl rfl Tryz.underlying4) (g_ff g29 rfl) rfl ?_
         refine T3_ev 44 rfl (by kernel_rfl) (ev_pick_f' g29 rfl rfl) (g_tt g23 rfl) rfl ?_
         obtain rfl := Option.some.inj h
         exact T3_sub rest (sub_cons rfl (sub_skip (sub_skip (sub_skip (sub_skip (sub_skip (sub_skip (sub_skip (sub_skip (sub_skip (sub_skip (sub_skip (sub_skip (sub_skip (sub_skip (sub_skip (sub_skip (sub_skip (sub_skip sub_refl rfl) rfl) rfl) rfl) rfl) rfl) rfl) rfl) rfl) rfl) rfl) rfl) rfl) rfl) rfl) rfl) rfl) rfl)) (cv_refl _) (cv_refl _)
       refine T3_ev 45 rfl (by kernel_rfl) (ev_pick_t' g23 rfl rfl) rfl rfl ?_
       obtain rfl := Option.some.inj h
       exact T3_sub rest (sub_cons rfl (sub_skip (sub_skip (sub_skip (sub_skip (sub_skip (sub_skip (sub_skip (sub_skip (sub_skip (sub_skip (sub_skip (sub_skip (sub_skip (sub_skip (sub_skip (sub_skip sub_refl rfl) rfl) rfl) rfl) rfl) rfl) rfl) rfl) rfl) rfl) rfl) rfl) rfl) rfl) rfl) rfl)) (cv_refl _) (cv_refl _)
      ·have h := cond_f g23 hb23
       refine T3_no 2 rfl (by kernel_rfl) (g_tf g23 rfl) rfl ?_
       refine T3_no 3 rfl (by kernel_rfl) (g_tf g23 rfl) rfl ?_
       refine T3_no 4 rfl (by kernel_rfl) (g_tf g23 rfl) rfl ?_
       refine T3_no 5 rfl (by kernel_rfl) (g_tf g23 rfl) rfl ?_
       refine T3_no 6 rfl (by kernel_rfl) (g_tf g23 rfl) rfl ?_
       refine T3_no 7 rfl (by kernel_rfl) (g_tf g23 rfl) rfl ?_
       refine T3_no 8 rfl (by kernel_rfl) (g_tf g23 rfl) rfl ?_
       refine T3_no 9 rfl (by kernel_rfl) (g_tf g23 rfl) rfl ?_
       refine T3_no 10 rfl (by kernel_rfl) (g_tf g23 rfl) rfl ?_
       refine T3_no 11 rfl (by kernel_rfl) (g_tf g23 rfl) rfl ?_
       refine T3_no 12 rfl (by kernel_rfl) (g_tf g23 rfl) rfl ?_
       refine T3_no 13 rfl (by kernel_rfl) (g_tf g23 rfl) rfl ?_
       refine T3_no 14 rfl (by kernel_rfl) rfl rfl ?_
       refine T3_no 15 rfl (by kernel_rfl) rfl rfl ?_
       refine T3_no 16 rfl (by kernel_rfl) rfl rfl ?_
       refine T3_no 17 rfl (by kernel_rfl) rfl rfl ?_
       refine T3_no 18 rfl (by kernel_rfl) rfl rfl ?_
       refine T3_no 19 rfl (by kernel_rfl) rfl rfl ?_
       refine T3_no 20 rfl (by kernel_rfl) rfl rfl ?_
       refine T3_no 21 rfl (by kernel_rfl) rfl rfl ?_
       refine T3_no 22 rfl (by kernel_rfl) rfl rfl ?_
       refine T3_no 23 rfl (by kernel_rfl) rfl rfl ?_
       refine T3_no 24 rfl (by kernel_rfl) rfl rfl ?_
       refine T3_no 25 rfl (by kernel_rfl) (g_tf g23 rfl) rfl ?_
       refine T3_no 26 rfl (by kernel_rfl) (g_tf g23 rfl) rfl ?_
       refine T3_no 27 rfl (by kernel_rfl) rfl rfl ?_
       refine T3_no 28 rfl (by kernel_rfl) rfl rfl ?_
       refine T3_no 29 rfl (by kernel_rfl) rfl rfl ?_
       refine T3_no 30 rfl (by kernel_rfl) rfl rfl ?_
       refine T3_no 31 rfl (by kernel_rfl) rfl rfl ?_
       refine T3_no 32 rfl (by kernel_rfl) rfl rfl ?_
       refine T3_no 33 rfl (by kernel_rfl) rfl rfl ?_
       refine T3_no 35 rfl (by kernel_rfl) rfl rfl ?_
       refine T3_no 36 rfl (by kernel_rfl) rfl rfl ?_
       refine T3_no 37 rfl (by kernel_rfl) rfl rfl ?_
       refine T3_no 38 rfl (by kernel_rfl) rfl rfl ?_
       refine T3_no 39 rfl (by kernel_rfl) rfl rfl ?_
       refine T3_no 40 rfl (by kernel_rfl) rfl rfl ?_
       refine T3_no 41 rfl (by kernel_rfl) rfl rfl ?_
       refine T3_no 34 rfl (by kernel_rfl) rfl rfl ?_
       refine T3_no 42 rfl (by kernel_rfl) rfl rfl ?_
       refine T3_no 43 rfl (by kernel_rfl) rfl rfl ?_
       refine T3_no 44 rfl (by kernel_rfl) (g_tf g23 rfl) rfl ?_
       refine T3_ev 45 rfl (by kernel_rfl) (ev_pick_f' g23 rfl rfl) rfl rfl ?_
       obtain rfl := Option.some.inj h
       exact T3_sub rest (sub_cons rfl (sub_skip (sub_skip (sub_skip (sub_skip (sub_skip (sub_skip (sub_skip (sub_skip (sub_skip (sub_skip (sub_skip (sub_skip (sub_skip (sub_skip (sub_skip (sub_skip (sub_skip (sub_skip (sub_skip (sub_skip (sub_skip (sub_skip (sub_skip (sub_skip (sub_skip (sub_skip (sub_skip (sub_skip (sub_skip (sub_skip (sub_skip (sub_skip (sub_skip (sub_skip (sub_skip (sub_skip (sub_skip (sub_skip (sub_skip (sub_skip (sub_skip (sub_skip (sub_skip (sub_skip sub_refl rfl) rfl) rfl) rfl) rfl) rfl) rfl) rfl) rfl) rfl) rfl) rfl) rfl) rfl) rfl) rfl) rfl) rfl) rfl) rfl) rfl) rfl) rfl) rfl) rfl) rfl) rfl) rfl) rfl) rfl) rfl) rfl) rfl) rfl) rfl) rfl) rfl) rfl) rfl) rfl) rfl) rfl) rfl) rfl)) (cv_refl _) (cv_refl _)
     refine T3_done (by kernel_rfl) ?_
     refine nx_n ?_
     refine G_cond rfl (fun g34 => ?_) (fun g34 => ?_)
     ·replace h := cond_t g34 h
      refine run ?_
      obtain rfl := Option.some.inj h
      exact endG1 rfl rfl (cv_sel [] 10 rfl rfl) ⟨rfl, rfl⟩
     ·replace h := cond_f g34 h
      refine run ?_
      refine G_seq ?_
      refine G_drawn (by kernel_rfl) _ (cv_refl _) ?_
      refine T3_ev 0 rfl (by kernel_rfl) (ev_move rfl) rfl rfl ?_
      refine T3_ev 1 rfl (by kernel_rfl) (ev_move rfl) rfl rfl ?_
      obtain ⟨b35, hb35, h⟩ := bind_elim h
      refine T3_joinB (fun l => (((((((((l.setIfInBounds 2 true).setIfInBounds 3 true).setIfInBounds 4 true).setIfInBounds 5 true).setIfInBounds 6 true).setIfInBounds 7 true).setIfInBounds 8 true).setIfInBounds 9 true).setIfInBounds 10 true)) 19 105 b35 (fun rest => ?_) ?_
      ·clear h
       refine T3_case 96 rfl (fun g35 => ?_) (fun g35 => ?_)
       ·have h := cond_t g35 hb35
        refine T3_ev 2 rfl (by kernel_rfl) (ev_fa0 rfl fa_93_0) (g_tt g35 rfl) rfl ?_
        refine T3_rd 3 rfl (by kernel_rfl) (rd_boxS (us := [.slice A1 n1 c1, .slice A2 n2 c2]) 5 rfl rfl agg24 rfl) (g_tt g35 rfl) rfl ?_
        refine T3_ev 4 rfl (by kernel_rfl) (ev_move rfl) (g_tt g35 rfl) rfl ?_
        refine T3_ev 5 rfl (by kernel_rfl) (ev_move rfl) (g_tt g35 rfl) rfl ?_
        obtain ⟨x36, hx36, h⟩ := bind_elim h
        obtain ⟨lx36, ux36, hx36⟩ := getE_elim hx36
        refine T3_rd 6 rfl (by kernel_rfl) (rd_idx 0 rfl els_sl rfl rfl Tryz.underlying25 size38 lx36 ux36) (g_tt g35 rfl) rfl ?_
        refine T3_rd 7 rfl (by kernel_rfl) (rd_fa 0 rfl els_sl rfl (toNat_lt lx36 ux36) fa_38_1) (g_tt g35 rfl) rfl ?_
        refine T3_rd 8 rfl (by kernel_rfl) (rd_elem1 (u := iV x36.N) 0 rfl els_sl rfl hx36 one3 (fun _ _ _ h => by rw [show _ = _ from h]; rfl)) (g_tt g35 rfl) rfl ?_
        obtain ⟨y37, hy37, h⟩ := bind_elim h
        refine T3_opd 9 rfl (by kernel_rfl) (op_callR (r19_Has_ok hy37) call14 rfl (mem_cons (lent_ro (i := 2) rfl rfl) (mem_cons (lent_ro (i := 3) rfl rfl) mem_nil)) r19_Has_free) rfl (g_tt g35 rfl) rfl ?_
        rintro _ _ ⟨_, ⟨rfl, rfl⟩, rfl⟩
        refine ⟨_, cv_refl _, cv_refl _, ?_⟩
        refine T3_ev 10 rfl (by kernel_rfl) (ev_pick_t' g35 rfl rfl) rfl rfl ?_
        obtain rfl := Option.some.inj h
        exact T3_sub rest (sub_cons rfl (sub_skip (sub_skip (sub_skip (sub_skip (sub_skip (sub_skip (sub_skip (sub_skip (sub_skip sub_refl rfl) rfl) rfl) rfl) rfl) rfl) rfl) rfl) rfl)) (cv_refl _) (cv_refl _)
       ·have h := cond_f g35 hb35
        refine T3_no 2 rfl (by kernel_rfl) (g_tf g35 rfl) rfl ?_
        refine T3_no 3 rfl (by kernel_rfl) (g_tf g35 rfl) rfl ?_
        refine T3_no 4 rfl (by kernel_rfl) (g_tf g35 rfl) rfl ?_
        refine T3_no 5 rfl (by kernel_rfl) (g_tf g35 rfl) rfl ?_
        refine T3_no 6 rfl (by kernel_rfl) (g_tf g35 rfl) rfl ?_
        refine T3_no 7 rfl (by kernel_rfl) (g_tf g35 rfl) rfl ?_
        refine T3_no 8 rfl (by kernel_rfl) (g_tf g35 rfl) rfl ?_
        refine T3_no 9 rfl (by kernel_rfl) (g_tf g35 rfl) rfl ?_
        refine T3_ev 10 rfl (by kernel_rfl) (ev_pick_f' g35 rfl rfl) rfl rfl ?_
        obtain rfl := Option.some.inj h
        exact T3_sub rest (sub_cons rfl (sub_skip (sub_skip (sub_skip (sub_skip (sub_skip (sub_skip (sub_skip (sub_skip (sub_skip sub_refl rfl) rfl) rfl) rfl) rfl) rfl) rfl) rfl) rfl)) (cv_refl _) (cv_refl _)
      refine T3_ev 11 rfl (by kernel_rfl) (ev_move rfl) rfl rfl ?_
      obtain ⟨b38, hb38, h⟩ := bind_elim h
      refine T3_joinB (fun l => ((((((((((((((((((l.setIfInBounds 12 true).setIfInBounds 13 true).setIfInBounds 14 true).setIfInBounds 15 true).setIfInBounds 16 true).setIfInBounds 17 true).setIfInBounds 18 true).setIfInBounds 20 true).setIfInBounds 21 true).setIfInBounds 22 true).setIfInBounds 23 true).setIfInBounds 24 true).setIfInBounds 25 true).setIfInBounds 26 true).setIfInBounds 19 true).setIfInBounds 27 true).setIfInBounds 28 true).setIfInBounds 29 true)) 0 124 b38 (fun rest => ?_) ?_
      ·clear h
       refine T3_case 106 rfl (fun g38 => ?_) (fun g38 => ?_)
       ·have h := cond_t g38 hb38
        refine T3_ev 12 rfl (by kernel_rfl) (ev_fa rfl fa_93_1) (g_tt g38 rfl) rfl ?_
        refine T3_rd 13 rfl (by kernel_rfl) (rd_box1 5 rfl rfl one35 rfl) (g_tt g38 rfl) rfl ?_
        refine T3_ev 14 rfl (by kernel_rfl) (ev_move rfl) (g_tt g38 rfl) rfl ?_
        refine T3_ev 15 rfl (by kernel_rfl) (ev_move rfl) (g_tt g38 rfl) rfl ?_
        obtain ⟨x39, hx39, h⟩ := bind_elim h
        obtain ⟨lx39, ux39, hx39⟩ := getE_elim hx39
        refine T3_rd 16 rfl (by kernel_rfl) (rd_idx 0 rfl els_sl rfl rfl Tryz.underlying25 size38 lx39 ux39) (g_tt g38 rfl) rfl ?_
        refine T3_rd 17 rfl (by kernel_rfl) (rd_fa 0 rfl els_sl rfl (toNat_lt lx39 ux39) fa_38_1) (g_tt g38 rfl) rfl ?_
        refine T3_rd 18 rfl (by kernel_rfl) (rd_elem1 (u := iV x39.N) 0 rfl els_sl rfl hx39 one3 (fun _ _ _ h => by rw [show _ = _ from h]; rfl)) (g_tt g38 rfl) rfl ?_
        refine T3_ev 20 rfl (by kernel_rfl) (ev_fa rfl fa_93_1) (g_tt g38 rfl) rfl ?_
        refine T3_rd 21 rfl (by kernel_rfl) (rd_box1 9 rfl rfl one35 rfl) (g_tt g38 rfl) rfl ?_
        refine T3_ev 22 rfl (by kernel_rfl) (ev_move rfl) (g_tt g38 rfl) rfl ?_
        refine T3_ev 23 rfl (by kernel_rfl) (ev_move rfl) (g_tt g38 rfl) rfl ?_
        obtain ⟨x40, hx40, h⟩ := bind_elim h
        obtain ⟨lx40, ux40, hx40⟩ := getE_elim hx40
        refine T3_rd 24 rfl (by kernel_rfl) (rd_idx 1 rfl els_sl rfl rfl Tryz.underlying25 size38 lx40 ux40) (g_tt g38 rfl) rfl ?_
        refine T3_rd 25 rfl (by kernel_rfl) (rd_fa 1 rfl els_sl rfl (toNat_lt lx40 ux40) fa_38_1) (g_tt g38 rfl) rfl ?_
        refine T3_rd 26 rfl (by kernel_rfl) (rd_elem1 (u := iV x40.N) 1 rfl els_sl rfl hx40 one3 (fun _ _ _ h => by rw [show _ = _ from h]; rfl)) (g_tt g38 rfl) rfl ?_
        obtain ⟨y41, hy41, h⟩ := bind_elim h
        refine T3_opd 19 rfl (by kernel_rfl) (op_callR (r19_place_ok hy41) call129 rfl (mem_cons (lent_ro (i := 4) rfl rfl) mem_nil) r19_place_free) rfl (g_tt g38 rfl) rfl ?_
        rintro _ _ ⟨_, ⟨rfl, rfl⟩, rfl⟩
        refine ⟨_, cv_refl _, cv_refl _, ?_⟩
        obtain ⟨y42, hy42, h⟩ := bind_elim h
        refine T3_opd 27 rfl (by kernel_rfl) (op_callR (r19_place_ok hy42) call129 rfl (mem_cons (lent_ro (i := 8) rfl rfl) mem_nil) r19_place_free) rfl (g_tt g38 rfl) rfl ?_
        rintro _ _ ⟨_, ⟨rfl, rfl⟩, rfl⟩
        refine ⟨_, cv_refl _, cv_refl _, ?_⟩
        refine T3_ev 28 rfl (by kernel_rfl) (ev_ne rfl rfl) (g_tt g38 rfl) rfl ?_
        refine T3_ev 29 rfl (by kernel_rfl) (ev_pick_t' g38 rfl rfl) rfl rfl ?_
        obtain rfl := Option.some.inj h
        exact T3_sub rest (sub_cons rfl (sub_skip (sub_skip (sub_skip (sub_skip (sub_skip (sub_skip (sub_skip (sub_skip (sub_skip (sub_skip (sub_skip (sub_skip (sub_skip (sub_skip (sub_skip (sub_skip (sub_skip (sub_skip sub_refl rfl) rfl) rfl) rfl) rfl) rfl) rfl) rfl) rfl) rfl) rfl) rfl) rfl) rfl) rfl) rfl) rfl) rfl)) (cv_refl _) (cv_refl _)
       ·have h := cond_f g38 hb38
        refine T3_no 12 rfl (by kernel_rfl) (g_tf g38 rfl) rfl ?_
        refine T3_no 13 rfl (by kernel_rfl) (g_tf g38 rfl) rfl ?_
        refine T3_no 14 rfl (by kernel_rfl) (g_tf g38 rfl) rfl ?_
        refine T3_no 15 rfl (by kernel_rfl) (g_tf g38 rfl) rfl ?_
        refine T3_no 16 rfl (by kernel_rfl) (g_tf g38 rfl) rfl ?_
        refine T3_no 17 rfl (by kernel_rfl) (g_tf g38 rfl) rfl ?_
        refine T3_no 18 rfl (by kernel_rfl) (g_tf g38 rfl) rfl ?_
        refine T3_no 20 rfl (by kernel_rfl) (g_tf g38 rfl) rfl ?_
        refine T3_no 21 rfl (by kernel_rfl) (g_tf g38 rfl) rfl ?_
        refine T3_no 22 rfl (by kernel_rfl) (g_tf g38 rfl) rfl ?_
        refine T3_no 23 rfl (by kernel_rfl) (g_tf g38 rfl) rfl ?_
        refine T3_no 24 rfl (by kernel_rfl) (g_tf g38 rfl) rfl ?_
        refine T3_no 25 rfl (by kernel_rfl) (g_tf g38 rfl) rfl ?_
        refine T3_no 26 rfl (by kernel_rfl) (g_tf g38 rfl) rfl ?_
        refine T3_no 19 rfl (by kernel_rfl) (g_tf g38 rfl) rfl ?_
        refine T3_no 27 rfl (by kernel_rfl) (g_tf g38 rfl) rfl ?_
        refine T3_no 28 rfl (by kernel_rfl) (g_tf g38 rfl) rfl ?_
        refine T3_ev 29 rfl (by kernel_rfl) (ev_pick_f' g38 rfl rfl) rfl rfl ?_
        obtain rfl := Option.some.inj h
        exact T3_sub rest (sub_cons rfl (sub_skip (sub_skip (sub_skip (sub_skip (sub_skip (sub_skip (sub_skip (sub_skip (sub_skip (sub_skip (sub_skip (sub_skip (sub_skip (sub_skip (sub_skip (sub_skip (sub_skip (sub_skip sub_refl rfl) rfl) rfl) rfl) rfl) rfl) rfl) rfl) rfl) rfl) rfl) rfl) rfl) rfl) rfl) rfl) rfl) rfl)) (cv_refl _) (cv_refl _)
      refine T3_done (by kernel_rfl) ?_
      refine nx_n ?_
      refine G_cond rfl (fun g43 => ?_) (fun g43 => ?_)
      ·replace h := cond_t g43 h
       refine run ?_
       obtain rfl := Option.some.inj h
       exact endG1 rfl rfl (cv_sel [] 10 rfl rfl) ⟨rfl, rfl⟩
      ·replace h := cond_f g43 h
       refine run ?_
       obtain ⟨q44, h⟩ := req_elim h
       refine gE (ev_add rfl rfl q44.1 q44.2) ?_
       refine run ?_
       exact ⟨m13, _, _, Nat.lt_succ_self _, ⟨p14 + 1, h, rfl, rfl⟩, sA, cv_sel [0, 1, 2, 3, 4, 5, 6, 7, 8, 9] 10 rfl rfl⟩
   ·replace h := cond_f g15 h
    refine run ?_
    exact ⟨_, _, ⟨h, rfl, rfl⟩, sA, cv_sel [] 10 rfl rfl⟩
  ·rintro _ _ ⟨h, rfl, rfl⟩
   refine run ?_
   obtain rfl := Option.some.inj h
   exact endG1 rfl rfl (cv_sel [] 0 rfl rfl) ⟨rfl, rfl⟩
theorem r19_values_free {r : Bool} : ∀ v post, ((fun (u : Value) (post : List Chunk) => u = .bool r ∧ post = [])) v post → ∀ c ∈ post, Free c := by
 rintro _ _ ⟨rfl, rfl⟩; exact mem_nil
def r17_Copied_O (N : Nat) (a0 : DCell) : Option DCell :=
 req (fitsL (([] : List DValue).length + a0.Slots.length)) (req (fitsL (([] : List DValue).length + a0.More.length)) (some (⟨a0.Kind, a0.Shape, a0.Flags, a0.Age, ([] : List DValue) ++ a0.Slots, ([] : List DValue) ++ a0.More⟩ : DCell)))
theorem r17_Copied_ok {N : Nat} {a0 : DCell} {r : DCell} (h : r17_Copied_O N a0 = some r) {A1 : Option Addr} {n1 c1 : Nat} {A2 : Option Addr} {n2 c2 : Nat} : Okc Tryz.prog 181 [.agg #[iV a0.Kind, iV a0.Shape, iV a0.Flags, iV a0.Age, .slice A1 n1 c1, .slice A2 n2 c2]] ([kS0 A1 n1 c1 a0.Slots, kS0 A2 n2 c2 a0.More]) (fun (u : Value) (post : List Chunk) => ∃ A0 n0 c0 A1 n1 c1, u = .agg #[iV r.Kind, iV r.Shape, iV r.Flags, iV r.Age, .slice A0 n0 c0, .slice A1 n1 c1] ∧ post = [kO3 A0 n0 c0 r.Slots, kO3 A1 n1 c1 r.More]) := by
 refine ok_E Tryz.func181 rfl rfl ?_
 simp only [envOf]
 refine run ?_
 refine gD (op_box rfl rfl) ?_
 rintro _ _ ⟨B3, rfl, rfl⟩
 refine gD (op_alloc zero32 rfl) ?_
 rintro _ _ ⟨B4, rfl, rfl⟩
 refine run ?_
 refine gE (ev_build rfl (bld_32_0_1_2_3 _ _ _ _)) ?_
 refine gD (op_alloc zero32 rfl) ?_
 rintro _ _ ⟨B5, rfl, rfl⟩
 refine gO (op_store (us := [iV a0.Kind, iV a0.Shape, iV a0.Flags, iV a0.Age, .slice none 0 0, .slice none 0 0]) (cs' := [iV a0.Kind, iV a0.Shape, iV a0.Flags, iV a0.Age, .slice none 0 0, .slice none 0 0]) 0 rfl rfl rfl rfl size32 rfl rfl rfl) ?_
 rintro _ _ rfl
 refine runS ?_
 refine runE ?_
 refine G_cv (cv_nil rDValue 38 _) ?_
 obtain ⟨q7, h⟩ := req_elim h
 refine gD (op_append 0 4 rfl rfl els_sl rfl rfl Tryz.underlying25 zb38 rfl rfl q7) ?_
 rintro _ _ ⟨A8, n8, c8, rfl, rfl⟩
 refine run ?_
 refine gO (op_store (us := [.slice A8 n8 c8]) (cs' := [iV a0.Kind, iV a0.Shape, iV a0.Flags, iV a0.Age, .slice A8 n8 c8, .slice none 0 0]) 1 rfl rfl rfl rfl size25 rfl rfl rfl) ?_
 rintro _ _ rfl
 refine G_norm ([kO3 A8 n8 c8 (([] : List DValue) ++ a0.Slots), boxC B5 32 [iV a0.Kind, iV a0.Shape, iV a0.Flags, iV a0.Age, .slice A8 n8 c8, .slice none 0 0], boxC B4 32 [iV 0, iV 0, iV 0, iV 0, .slice none 0 0, .slice none 0 0], boxC B3 32 [iV a0.Kind, iV a0.Shape, iV a0.Flags, iV a0.Age, .slice A1 n1 c1, .slice A2 n2 c2], kS0 A1 n1 c1 a0.Slots, kS0 A2 n2 c2 a0.More]) rfl ?_
 refine runS ?_
 refine runE ?_
 refine G_cv (cv_nil rDValue 38 _) ?_
 obtain ⟨q10, h⟩ := req_elim h
 refine gD (op_append 0 6 rfl rfl els_sl rfl rfl Tryz.underlying25 zb38 rfl rfl q10) ?_
 rintro _ _ ⟨A11, n11, c11, rfl, rfl⟩
 refine run ?_
 refine gO (op_store (us := [.slice A11 n11 c11]) (cs' := [iV a0.Kind, iV a0.Shape, iV a0.Flags, iV a0.Age, .slice A8 n8 c8, .slice A11 n11 c11]) 2 rfl rfl rfl rfl size25 rfl rfl rfl) ?_
 rintro _ _ rfl
 refine run ?_
 refine gR (rd_boxS (us := [iV a0.Kind, iV a0.Shape, iV a0.Flags, iV a0.Age, .slice A8 n8 c8, .slice A11 n11 c11]) 2 rfl rfl agg32 rfl) ?_
 refine gO (op_store (us := [iV a0.Kind, iV a0.Shape, iV a0.Flags, iV a0.Age, .slice A8 n8 c8, .slice A11 n11 c11]) (cs' := [iV a0.Kind, iV a0.Shape, iV a0.Flags, iV a0.Age, .slice A8 n8 c8, .slice A11 n11 c11]) 3 rfl rfl rfl rfl size32 rfl rfl rfl) ?_
 rintro _ _ rfl
 refine G_norm ([kO3 A11 n11 c11 (([] : List DValue) ++ a0.More), kO3 A8 n8 c8 (([] : List DValue) ++ a0.Slots), boxC B5 32 [iV a0.Kind, iV a0.Shape, iV a0.Flags, iV a0.Age, .slice A8 n8 c8, .slice A11 n11 c11], boxC B4 32 [iV a0.Kind, iV a0.Shape, iV a0.Flags, iV a0.Age, .slice A8 n8 c8, .slice A11 n11 c11], boxC B3 32 [iV a0.Kind, iV a0.Shape, iV a0.Flags, iV a0.Age, .slice A1 n1 c1, .slice A2 n2 c2], kS0 A1 n1 c1 a0.Slots, kS0 A2 n2 c2 a0.More]) rfl ?_
 refine run ?_
 obtain rfl := Option.some.inj h
 exact endGl (rs := [.cell 2 32]) (vs := [.agg #[iV a0.Kind, iV a0.Shape, iV a0.Flags, iV a0.Age, .slice A8 n8 c8, .slice A11 n11 c11]]) rfl (.cons (rv_boxS 3 rfl rfl agg32) .nil) rfl (cv_sel [1, 0] 7 rfl rfl) ⟨_, _, _, _, _, _, rfl, rfl⟩
theorem r17_Copied_free {r : DCell} : ∀ v post, ((fun (u : Value) (post : List Chunk) => ∃ A0 n0 c0 A1 n1 c1, u = .agg #[iV r.Kind, iV r.Shape, iV r.Flags, iV r.Age, .slice A0 n0 c0, .slice A1 n1 c1] ∧ post = [kO3 A0 n0 c0 r.Slots, kO3 A1 n1 c1 r.More])) v post → ∀ c ∈ post, Free c := by
 rintro _ _ ⟨_, _, _, _, _, _, rfl, rfl⟩; exact mem_cons free_own (mem_cons free_own (mem_nil))
def r17_without_j10 (N : Nat) (y6 : (DCell)) (p11 : (List DValue)) : Option DCell :=
 some (⟨y6.Kind, y6.Shape, y6.Flags, y6.Age, y6.Slots, p11⟩ : DCell)
def r17_without_j17 (N : Nat) (kb12 : Int → (List DValue) → Option DCell) (p13 : Int) (a1 : (List Bool)) (a0 : DCell) (y6 : (DCell)) (p18 : (List DValue)) : Option DCell :=
 req (in64 (p13 + 1)) (kb12 (p13 + 1) p18)
def r17_without_l12 (N : Nat) (a1 : (List Bool)) (a0 : DCell) (y6 : (DCell)) : Nat → Int → (List DValue) → Option DCell
 | 0, _, _ => none
 | m12 + 1, p13, p14 => bif decide (p13 < (a1.length : Int)) then ((getE a1 p13).bind fun x19 => bif x19 then (req (in64 (2 * p13)) ((getE a0.More (2 * p13)).bind fun x22 => req (in64 (2 * p13)) (req (in64 ((2 * p13) + 1)) ((getE a0.More ((2 * p13) + 1)).bind fun x25 => req (fitsL (p14.length + ([x22, x25] : List DValue).length)) (r17_without_j17 N (r17_without_l12 N a1 a0 y6 m12) p13 a1 a0 y6 (p14 ++ ([x22, x25] : List DValue))))))) else (r17_without_j17 N (r17_without_l12 N a1 a0 y6 m12) p13 a1 a0 y6 p14)) else (r17_without_j10 N y6 p14)
theorem r17_without_l12_s {N m12 : Nat} {a1 : (List Bool)} {a0 : DCell} {y6 : (DCell)} {p13 : Int} {p14 : (List DValue)} : r17_without_l12 N a1 a0 y6 (m12 + 1) p13 p14 = bif decide (p13 < (a1.length : Int)) then ((getE a1 p13).bind fun x19 => bif x19 then (req (in64 (2 * p13)) ((getE a0.More (2 * p13)).bind fun x22 => req (in64 (2 * p13)) (req (in64 ((2 * p13) + 1)) ((getE a0.More ((2 * p13) + 1)).bind fun x25 => req (fitsL (p14.length + ([x22, x25] : List DValue).length)) (r17_without_j17 N (r17_without_l12 N a1 a0 y6 m12) p13 a1 a0 y6 (p14 ++ ([x22, x25] : List DValue))))))) else (r17_without_j17 N (r17_without_l12 N a1 a0 y6 m12) p13 a1 a0 y6 p14)) else (r17_without_j10 N y6 p14) := rfl
def r17_without_O (N : Nat) (a0 : DCell) (a1 : (List Bool)) : Option DCell :=
 (r17_Copied_O N a0).bind fun y6 => r17_without_l12 N a1 a0 y6 N 0 []
theorem r17_without_ok {N : Nat} {a0 : DCell} {a1 : (List Bool)} {r : DCell} (h : r17_without_O N a0 a1 = some r) {A1 : Option Addr} {n1 c1 : Nat} {A2 : Option Addr} {n2 c2 : Nat} {A3 : Option Addr} {n3 c3 : Nat} : Okc Tryz.prog 138 [.agg #[iV a0.Kind, iV a0.Shape, iV a0.Flags, iV a0.Age, .slice A1 n1 c1, .slice A2 n2 c2], .slice A3 n3 c3] ([kS0 A1 n1 c1 a0.Slots, kS0 A2 n2 c2 a0.More, slC rBool (.slice A3 n3 c3) a1]) (fun (u : Value) (post : List Chunk) => ∃ A0 n0 c0 A1 n1 c1, u = .agg #[iV r.Kind, iV r.Shape, iV r.Flags, iV r.Age, .slice A0 n0 c0, .slice A1 n1 c1] ∧ post = [kO3 A0 n0 c0 r.Slots, kO3 A1 n1 c1 r.More]) := by
 refine ok_E Tryz.func138 rfl rfl ?_
 simp only [envOf]
 refine run ?_
 refine gD (op_box rfl rfl) ?_
 rintro _ _ ⟨B4, rfl, rfl⟩
 refine gD (op_alloc zero32 rfl) ?_
 rintro _ _ ⟨B5, rfl, rfl⟩
 refine run ?_
 refine gR (rd_boxS (us := [iV a0.Kind, iV a0.Shape, iV a0.Flags, iV a0.Age, .slice A1 n1 c1, .slice A2 n2 c2]) 1 rfl rfl agg32 rfl) ?_
 obtain ⟨y6, hy6, h⟩ := bind_elim h
 refine gD (op_callR (r17_Copied_ok hy6) call181 rfl (mem_cons (lent_ro (i := 2) rfl rfl) (mem_cons (lent_ro (i := 3) rfl rfl) mem_nil)) r17_Copied_free) ?_
 rintro _ _ ⟨_, ⟨A7, n7, c7, A8, n8, c8, rfl, rfl⟩, rfl⟩
 refine gD (op_alloc zero32 rfl) ?_
 rintro _ _ ⟨B9, rfl, rfl⟩
 refine gO (op_store (us := [iV y6.Kind, iV y6.Shape, iV y6.Flags, iV y6.Age, .slice A7 n7 c7, .slice A8 n8 c8]) (cs' := [iV y6.Kind, iV y6.Shape, iV y6.Flags, iV y6.Age, .slice A7 n7 c7, .slice A8 n8 c8]) 0 rfl rfl rfl rfl size32 rfl rfl rfl) ?_
 rintro _ _ rfl
 refine run ?_
 refine gO (op_store (us := [.slice none 0 0]) (cs' := [iV y6.Kind, iV y6.Shape, iV y6.Flags, iV y6.Age, .slice A7 n7 c7, .slice none 0 0]) 0 rfl rfl rfl rfl size25 rfl rfl rfl) ?_
 rintro _ _ rfl
 refine run ?_
 refine G_joinF (fun s L => ∃ (p11 : (List DValue)) (A11 : Option Addr) (n11 c11 : Nat), r17_without_j10 N y6 p11 = some r ∧ s = [(4, pV B5 0), (5, pV B9 0)] ∧ L = [boxC B5 32 [iV 0, iV 0, iV 0, iV 0, .slice none 0 0, .slice none 0 0], kO3 A7 n7 c7 y6.Slots, kO3 A11 n11 c11 p11, boxC B9 32 [iV y6.Kind, iV y6.Shape, iV y6.Flags, iV y6.Age, .slice A7 n7 c7, .slice A11 n11 c11]]) ?_ ?_
 ·refine run ?_
  refine G_loopF (fun m s L => ∃ (p13 : Int) (p14 : (List DValue)) (A14 : Option Addr) (n14 c14 : Nat), r17_without_l12 N a1 a0 y6 m p13 p14 = some r ∧ s = [(1, .slice A3 n3 c3), (2, pV B4 0), (4, pV B5 0), (5, pV B9 0), (6, iV p13)] ∧ L = [slC rBool (.slice A3 n3 c3) a1, kS0 A1 n1 c1 a0.Slots, kS0 A2 n2 c2 a0.More, boxC B4 32 [iV a0.Kind, iV a0.Shape, iV a0.Flags, iV a0.Age, .slice A1 n1 c1, .slice A2 n2 c2], boxC B5 32 [iV 0, iV 0, iV 0, iV 0, .slice none 0 0, .slice none 0 0], kO3 A7 n7 c7 y6.Slots, kO3 A14 n14 c14 p14, boxC B9 32 [iV y6.Kind, iV y6.Shape, iV y6.Flags, iV y6.Age, .slice A7 n7 c7, .slice A14 n14 c14]]) N _ _ ⟨0, [], none, 0, 0, h, rfl, rfl⟩ sA ((cv_nil rDValue 38 _).trans (cv_sel [8, 6, 7, 5, 4, 2, 0, 1] 9 rfl rfl)) ?_
  rintro (_ | m12) _ _ ⟨p13, p14, A14, n14, c14, h, rfl, rfl⟩
  ·exact none_some h
  rw [r17_without_l12_s] at h
  refine G_seq ?_
  refine run ?_
  refine gR (rd_len 0 rfl els_sl rfl Tryz.underlying139) ?_
  refine run ?_
  refine G_cond rfl (fun g16 => ?_) (fun g16 => ?_)
  ·replace h := cond_t g16 h
   refine run ?_
   refine G_joinF (fun s L => ∃ (p18 : (List DValue)) (A18 : Option Addr) (n18 c18 : Nat), r17_without_j17 N (r17_without_l12 N a1 a0 y6 m12) p13 a1 a0 y6 p18 = some r ∧ s = [(1, .slice A3 n3 c3), (2, pV B4 0), (4, pV B5 0), (5, pV B9 0), (6, iV p13)] ∧ L = [slC rBool (.slice A3 n3 c3) a1, kS0 A1 n1 c1 a0.Slots, kS0 A2 n2 c2 a0.More, boxC B4 32 [iV a0.Kind, iV a0.Shape, iV a0.Flags, iV a0.Age, .slice A1 n1 c1, .slice A2 n2 c2], boxC B5 32 [iV 0, iV 0, iV 0, iV 0, .slice none 0 0, .slice none 0 0], kO3 A7 n7 c7 y6.Slots, kO3 A18 n18 c18 p18, boxC B9 32 [iV y6.Kind, iV y6.Shape, iV y6.Flags, iV y6.Age, .slice A7 n7 c7, .slice A18 n18 c18]]) ?_ ?_
   ·refine run ?_
    obtain ⟨x19, hx19, h⟩ := bind_elim h
    obtain ⟨lx19, ux19, hx19⟩ := getE_elim hx19
    refine gR (rd_idx 0 rfl els_sl rfl rfl Tryz.underlying139 size4 lx19 ux19) ?_
    refine gR (rd_elem1 (u := .bool x19) 0 rfl els_sl rfl hx19 one4 (fun _ _ _ h => by rw [show _ = _ from h]; rfl)) ?_
    refine run ?_
    refine G_cond rfl (fun g20 => ?_) (fun g20 => ?_)
    ·replace h := cond_t g20 h
     obtain ⟨q21, h⟩ := req_elim h
     obtain ⟨x22, hx22, h⟩ := bind_elim h
     obtain ⟨lx22, ux22, hx22⟩ := getE_elim hx22
     obtain ⟨q23, h⟩ := req_elim h
     obtain ⟨q24, h⟩ := req_elim h
     obtain ⟨x25, hx25, h⟩ := bind_elim h
     obtain ⟨lx25, ux25, hx25⟩ := getE_elim hx25
     refine G_sub (t := [(1, .slice A3 n3 c3), (2, pV B4 0), (4, pV B5 0), (5, pV B9 0), (6, iV p13)]) ?_ subT (cv_refl _)
     refine G_monoX (by kernel_rfl) 16 [] [1, 15] [20, 21, 22, 23, 24, 25, 26, 27, 28, 29, 30, 31, 32, 33, 34, 35] [[], [0], [], [2], [], [4], [3, 5], [6], [], [8], [], [10], [11], [9, 12], [13], [7, 14]] [aV (pV B9 5),
 aV (.slice A14 n14 c14),
 aV (pV B4 5),
 aV (.slice A2 n2 c2),
 aV (iV p13),
 aV (iV (2 * p13)),
 aV (elemQ (.slice A2 n2 c2) ((2 * p13).toNat) 3 0),
 aV (.agg #[iV x22.Kind, iV x22.N, .string x22.S]),
 aV (pV B4 5),
 aV (.slice A2 n2 c2),
 aV (iV p13),
 aV (iV (2 * p13)),
 aV (iV ((2 * p13) + 1)),
 aV (elemQ (.slice A2 n2 c2) (((2 * p13) + 1).toNat) 3 0),
 aV (.agg #[iV x25.Kind, iV x25.N, .string x25.S]),
 aX3 (fun (A27 : Option Addr) (n27 c27 : Nat) => .slice A27 n27 c27) (fun A27 n27 c27 => [kO3 A27 n27 c27 ([x22, x25] : List DValue)])] [] (cv_refl _) (qB_nil) (by kernel_rfl) rfl rfl ?_ ?_ ?_
     ·exact qs_nil
     ·refine steps_cons rfl ?_ ?_
      ·refine X_op (op_bslice (R := rDValue) (vss := [[iV x22.Kind, iV x22.N, .string x22.S], [iV x25.Kind, iV x25.N, .string x25.S]]) (xs := [x22, x25]) rfl (bsl_25_2 _ _ _ _ _ _) rfl rfl (fun _ _ hr => .cons rfl (.cons rfl All2.nil))) rfl ?_
       rintro _ _ ⟨A26, n26, c26, rfl, rfl⟩
       exact cvp3 A26 n26 c26 (cv_refl _)
      refine steps_cons rfl ?_ ?_
      ·exact X_rd (rd_elemS (us := [iV x25.Kind, iV x25.N, .string x25.S]) 2 rfl els_sl rfl hx25 agg38 (fun _ _ _ h => by rw [show _ = _ from h]; rfl)) rfl (cvpV rfl (cv_refl _))
      refine steps_cons rfl ?_ ?_
      ·exact X_rd (rd_idx 2 rfl els_sl rfl rfl Tryz.underlying25 size38 lx25 ux25) rfl (cvpV rfl (cv_refl _))
      refine steps_cons rfl ?_ ?_
      ·exact X_ev (ev_add rfl rfl q24.1 q24.2) rfl (cvpV rfl (cv_refl _))
      refine steps_cons rfl ?_ ?_
      ·exact X_ev (ev_mul rfl rfl q23.1 q23.2) rfl (cvpV rfl (cv_refl _))
      refine steps_cons rfl ?_ ?_
      ·exact X_ev (ev_move rfl) rfl (cvpV rfl (cv_refl _))
      refine steps_cons rfl ?_ ?_
      ·exact X_rd (rd_box1 3 rfl rfl one25 rfl) rfl (cvpV rfl (cv_refl _))
      refine steps_cons rfl ?_ ?_
      ·exact X_ev (ev_fa rfl fa_32_5) rfl (cvpV rfl (cv_refl _))
      refine steps_cons rfl ?_ ?_
      ·exact X_rd (rd_elemS (us := [iV x22.Kind, iV x22.N, .string x22.S]) 2 rfl els_sl rfl hx22 agg38 (fun _ _ _ h => by rw [show _ = _ from h]; rfl)) rfl (cvpV rfl (cv_refl _))
      refine steps_cons rfl ?_ ?_
      ·exact X_rd (rd_idx 2 rfl els_sl rfl rfl Tryz.underlying25 size38 lx22 ux22) rfl (cvpV rfl (cv_refl _))
      refine steps_cons rfl ?_ ?_
      ·exact X_ev (ev_mul rfl rfl q21.1 q21.2) rfl (cvpV rfl (cv_refl _))
      refine steps_cons rfl ?_ ?_
      ·exact X_ev (ev_move rfl) rfl (cvpV rfl (cv_refl _))
      refine steps_cons rfl ?_ ?_
      ·exact X_rd (rd_box1 3 rfl rfl one25 rfl) rfl (cvpV rfl (cv_refl _))
      refine steps_cons rfl ?_ ?_
      ·exact X_ev (ev_fa rfl fa_32_5) rfl (cvpV rfl (cv_refl _))
      refine steps_cons rfl ?_ ?_
      ·exact X_rd (rd_box1 7 rfl rfl one25 rfl) rfl (cvpV rfl (cv_refl _))
      refine steps_cons rfl ?_ ?_
      ·exact X_ev (ev_fa rfl fa_32_5) rfl (cvpV rfl (cv_refl _))
      exact steps_nil
     ·intro A27 n27 c27
      refine N_sub (t := [(21, .slice A14 n14 c14), (35, .slice A27 n27 c27), (1, .slice A3 n3 c3), (2, pV B4 0), (4, pV B5 0), (5, pV B9 0), (6, iV p13)]) (L' := [kO3 A27 n27 c27 ([x22, x25] : List DValue), slC rBool (.slice A3 n3 c3) a1, kS0 A1 n1 c1 a0.Slots, kS0 A2 n2 c2 a0.More, boxC B4 32 [iV a0.Kind, iV a0.Shape, iV a0.Flags, iV a0.Age, .slice A1 n1 c1, .slice A2 n2 c2], boxC B5 32 [iV 0, iV 0, iV 0, iV 0, .slice none 0 0, .slice none 0 0], kO3 A7 n7 c7 y6.Slots, kO3 A14 n14 c14 p14, boxC B9 32 [iV y6.Kind, iV y6.Shape, iV y6.Flags, iV y6.Age, .slice A7 n7 c7, .slice A14 n14 c14]]) ?_ subT (cv_refl _)
      obtain ⟨q28, h⟩ := req_elim h
      refine N_opd 16 rfl (by kernel_rfl) (op_append 7 0 rfl rfl els_own rfl rfl Tryz.underlying25 zb38 rfl rfl q28) rfl rfl rfl ?_
      rintro _ _ ⟨A29, n29, c29, rfl, rfl⟩
      refine N_norm ([kO3 A27 n27 c27 ([x22, x25] : List DValue), slC rBool (.slice A3 n3 c3) a1, kS0 A1 n1 c1 a0.Slots, kS0 A2 n2 c2 a0.More, boxC B4 32 [iV a0.Kind, iV a0.Shape, iV a0.Flags, iV a0.Age, .slice A1 n1 c1, .slice A2 n2 c2], boxC B5 32 [iV 0, iV 0, iV 0, iV 0, .slice none 0 0, .slice none 0 0], kO3 A7 n7 c7 y6.Slots, kO3 A29 n29 c29 (p14 ++ ([x22, x25] : List DValue)), boxC B9 32 [iV y6.Kind, iV y6.Shape, iV y6.Flags, iV y6.Age, .slice A7 n7 c7, .slice A14 n14 c14]]) rfl ?_
      refine N_ev 17 rfl (by kernel_rfl) (ev_fa rfl fa_32_5) rfl rfl rfl ?_
      refine N_opn 18 rfl (by kernel_rfl) (op_store (us := [.slice A29 n29 c29]) (cs' := [iV y6.Kind, iV y6.Shape, iV y6.Flags, iV y6.Age, .slice A7 n7 c7, .slice A29 n29 c29]) 8 rfl rfl rfl rfl size25 rfl rfl rfl) rfl rfl ?_
      rintro _ _ rfl
      refine N_done (by kernel_rfl) ?_
      refine run ?_
      exact ⟨_, _, ⟨p14 ++ ([x22, x25] : List DValue), A29, n29, c29, h, rfl, rfl⟩, sA, cv_sel [1, 2, 3, 4, 5, 6, 7, 8] 9 rfl rfl⟩
    ·replace h := cond_f g20 h
     refine run ?_
     exact ⟨_, _, ⟨p14, A14, n14, c14, h, rfl, rfl⟩, sA, cv_sel [0, 1, 2, 3, 4, 5, 6, 7] 8 rfl rfl⟩
   ·rintro _ _ ⟨p18, A18, n18, c18, h, rfl, rfl⟩
    refine run ?_
    obtain ⟨q30, h⟩ := req_elim h
    refine gE (ev_add rfl rfl q30.1 q30.2) ?_
    refine run ?_
    exact ⟨m12, _, _, Nat.lt_succ_self _, ⟨p13 + 1, p18, A18, n18, c18, h, rfl, rfl⟩, sA, cv_sel [0, 1, 2, 3, 4, 5, 6, 7] 8 rfl rfl⟩
  ·replace h := cond_f g16 h
   refine run ?_
   exact ⟨_, _, ⟨p14, A14, n14, c14, h, rfl, rfl⟩, sA, cv_sel [4, 5, 6, 7] 8 rfl rfl⟩
 ·rintro _ _ ⟨p11, A11, n11, c11, h, rfl, rfl⟩
  refine run ?_
  refine gR (rd_boxS (us := [iV y6.Kind, iV y6.Shape, iV y6.Flags, iV y6.Age, .slice A7 n7 c7, .slice A11 n11 c11]) 3 rfl rfl agg32 rfl) ?_
  refine gO (op_store (us := [iV y6.Kind, iV y6.Shape, iV y6.Flags, iV y6.Age, .slice A7 n7 c7, .slice A11 n11 c11]) (cs' := [iV y6.Kind, iV y6.Shape, iV y6.Flags, iV y6.Age, .slice A7 n7 c7, .slice A11 n11 c11]) 0 rfl rfl rfl rfl size32 rfl rfl rfl) ?_
  rintro _ _ rfl
  refine run ?_
  obtain rfl := Option.some.inj h
  exact endGl (rs := [.cell 4 32]) (vs := [.agg #[iV y6.Kind, iV y6.Shape, iV y6.Flags, iV y6.Age, .slice A7 n7 c7, .slice A11 n11 c11]]) rfl (.cons (rv_boxS 0 rfl rfl agg32) .nil) rfl (cv_sel [1, 2] 4 rfl rfl) ⟨_, _, _, _, _, _, rfl, rfl⟩
theorem r17_without_free {r : DCell} : ∀ v post, ((fun (u : Value) (post : List Chunk) => ∃ A0 n0 c0 A1 n1 c1, u = .agg #[iV r.Kind, iV r.Shape, iV r.Flags, iV r.Age, .slice A0 n0 c0, .slice A1 n1 c1] ∧ post = [kO3 A0 n0 c0 r.Slots, kO3 A1 n1 c1 r.More])) v post → ∀ c ∈ post, Free c := by
 rintro _ _ ⟨_, _, _, _, _, _, rfl, rfl⟩; exact mem_cons free_own (mem_cons free_own (mem_nil))
def r17_Clean_j10 (N : Nat) (a0 : DCell) (p11 : (List Bool)) : Option DCell :=
 (r17_without_O N a0 p11).bind fun y23 => some y23
def r17_Clean_l12 (N : Nat) (a1 : (List Int)) (a0 : DCell) : Nat → (List Bool) → Int → Option DCell
 | 0, _, _ => none
 | m12 + 1, p13, p14 => bif decide (p14 < (a0.More.length : Int)) then ((getE a0.More p14).bind fun x17 => (r17_In_O N x17.N a1).bind fun y18 => req (fitsL (p13.length + ([y18] : List Bool).length)) (req (in64 (p14 + 2)) ((r17_Clean_l12 N a1 a0 m12) (p13 ++ ([y18] : List Bool)) (p14 + 2)))) else (r17_Clean_j10 N a0 p13)
theorem r17_Clean_l12_s {N m12 : Nat} {a1 : (List Int)} {a0 : DCell} {p13 : (List Bool)} {p14 : Int} : r17_Clean_l12 N a1 a0 (m12 + 1) p13 p14 = bif decide (p14 < (a0.More.length : Int)) then ((getE a0.More p14).bind fun x17 => (r17_In_O N x17.N a1).bind fun y18 => req (fitsL (p13.length + ([y18] : List Bool).length)) (req (in64 (p14 + 2)) ((r17_Clean_l12 N a1 a0 m12) (p13 ++ ([y18] : List Bool)) (p14 + 2)))) else (r17_Clean_j10 N a0 p13) := rfl
def r17_Clean_O (N : Nat) (a0 : DCell) (a1 : (List Int)) : Option DCell :=
 (r17_Is_O N a0).bind fun y6 => bif !y6 then (some (⟨0, 0, 0, 0, [], []⟩ : DCell)) else (r17_Clean_l12 N a1 a0 N [] 0)
theorem r17_Clean_ok {N : Nat} {a0 : DCell} {a1 : (List Int)} {r : DCell} (h : r17_Clean_O N a0 a1 = some r) {A1 : Option Addr} {n1 c1 : Nat} {A2 : Option Addr} {n2 c2 : Nat} {A3 : Option Addr} {n3 c3 : Nat} : Okc Tryz.prog 84 [.agg #[iV a0.Kind, iV a0.Shape, iV a0.Flags, iV a0.Age, .slice A1 n1 c1, .slice A2 n2 c2], .slice A3 n3 c3] ([kS0 A1 n1 c1 a0.Slots, kS0 A2 n2 c2 a0.More, kS5 A3 n3 c3 a1]) (fun (u : Value) (post : List Chunk) => ∃ A0 n0 c0 A1 n1 c1, u = .agg #[iV r.Kind, iV r.Shape, iV r.Flags, iV r.Age, .slice A0 n0 c0, .slice A1 n1 c1] ∧ post = [kO3 A0 n0 c0 r.Slots, kO3 A1 n1 c1 r.More]) := by
 refine ok_E Tryz.func84 rfl rfl ?_
 simp only [envOf]
 refine run ?_
 refine gD (op_box rfl rfl) ?_
 rintro _ _ ⟨B4, rfl, rfl⟩
 refine gD (op_alloc zero32 rfl) ?_
 rintro _ _ ⟨B5, rfl, rfl⟩
 refine run ?_
 refine G_seq ?_
 refine run ?_
 refine gR (rd_boxS (us := [iV a0.Kind, iV a0.Shape, iV a0.Flags, iV a0.Age, .slice A1 n1 c1, .slice A2 n2 c2]) 1 rfl rfl agg32 rfl) ?_
 obtain ⟨y6, hy6, h⟩ := bind_elim h
 refine gD (op_callR (r17_Is_ok hy6) call123 rfl (mem_cons (lent_ro (i := 2) rfl rfl) (mem_cons (lent_ro (i := 3) rfl rfl) mem_nil)) r17_Is_free) ?_
 rintro _ _ ⟨_, ⟨rfl, rfl⟩, rfl⟩
 refine run ?_
 refine G_cond rfl (fun g7 => ?_) (fun g7 => ?_)
 ·replace h := cond_t g7 h
  refine run ?_
  refine gE (ev_build rfl (bld_32_)) ?_
  refine gO (op_store (us := [iV 0, iV 0, iV 0, iV 0, .slice none 0 0, .slice none 0 0]) (cs' := [iV 0, iV 0, iV 0, iV 0, .slice none 0 0, .slice none 0 0]) 0 rfl rfl rfl rfl size32 rfl rfl rfl) ?_
  rintro _ _ rfl
  refine run ?_
  obtain rfl := Option.some.inj h
  exact endGl (rs := [.cell 4 32]) (vs := [.agg #[iV 0, iV 0, iV 0, iV 0, .slice none 0 0, .slice none 0 0]]) rfl (.cons (rv_boxS 0 rfl rfl agg32) .nil) rfl ((cv_nil rDValue 38 _).trans ((cv_nil rDValue 38 _).trans (cv_sel [1, 0] 7 rfl rfl))) ⟨_, _, _, _, _, _, rfl, rfl⟩
 ·replace h := cond_f g7 h
  refine run ?_
  refine G_joinF (fun s L => ∃ (p11 : (List Bool)) (A11 : Option Addr) (n11 c11 : Nat), r17_Clean_j10 N a0 p11 = some r ∧ s = [(2, pV B4 0), (4, pV B5 0), (5, .slice A11 n11 c11)] ∧ L = [ownC rBool 4 (.slice A11 n11 c11) p11, kS0 A1 n1 c1 a0.Slots, kS0 A2 n2 c2 a0.More, boxC B4 32 [iV a0.Kind, iV a0.Shape, iV a0.Flags, iV a0.Age, .slice A1 n1 c1, .slice A2 n2 c2], boxC B5 32 [iV 0, iV 0, iV 0, iV 0, .slice none 0 0, .slice none 0 0]]) ?_ ?_
  ·refine run ?_
   refine G_loopF (fun m s L => ∃ (p13 : (List Bool)) (p14 : Int) (A13 : Option Addr) (n13 c13 : Nat), r17_Clean_l12 N a1 a0 m p13 p14 = some r ∧ s = [(1, .slice A3 n3 c3), (2, pV B4 0), (4, pV B5 0), (5, .slice A13 n13 c13), (6, iV p14)] ∧ L = [kS5 A3 n3 c3 a1, ownC rBool 4 (.slice A13 n13 c13) p13, kS0 A1 n1 c1 a0.Slots, kS0 A2 n2 c2 a0.More, boxC B4 32 [iV a0.Kind, iV a0.Shape, iV a0.Flags, iV a0.Age, .slice A1 n1 c1, .slice A2 n2 c2], boxC B5 32 [iV 0, iV 0, iV 0, iV 0, .slice none 0 0, .slice none 0 0]]) N _ _ ⟨[], 0, none, 0, 0, h, rfl, rfl⟩ sA ((cv_nil rBool 4 _).trans (cv_sel [5, 0, 3, 4, 2, 1] 6 rfl rfl)) ?_
   rintro (_ | m12) _ _ ⟨p13, p14, A13, n13, c13, h, rfl, rfl⟩
   ·exact none_some h
   rw [r17_Clean_l12_s] at h
   refine G_seq ?_
   refine run ?_
   refine gR (rd_len 3 rfl els_sl rfl Tryz.underlying25) ?_
   refine run ?_
   refine G_cond rfl (fun g16 => ?_) (fun g16 => ?_)
   ·replace h := cond_t g16 h
    refine run ?_
    refine G_seq ?_
    refine run ?_
    obtain ⟨x17, hx17, h⟩ := bind_elim h
    obtain ⟨lx17, ux17, hx17⟩ := getE_elim hx17
    refine gR (rd_idx 3 rfl els_sl rfl rfl Tryz.underlying25 size38 lx17 ux17) ?_
    refine gR (rd_fa 3 rfl els_sl rfl (toNat_lt lx17 ux17) fa_38_1) ?_
    refine gR (rd_elem1 (u := iV x17.N) 3 rfl els_sl rfl hx17 one3 (fun _ _ _ h => by rw [show _ = _ from h]; rfl)) ?_
    refine run ?_
    obtain ⟨y18, hy18, h⟩ := bind_elim h
    refine gD (op_callR (r17_In_ok hy18) call42 rfl (mem_cons (lent_ro (i := 0) rfl rfl) mem_nil) r17_In_free) ?_
    rintro _ _ ⟨_, ⟨rfl, rfl⟩, rfl⟩
    refine gD (op_bslice (R := rBool) (vss := [[.bool y18]]) (xs := [y18]) rfl (bsl_139_1 _) rfl rfl (fun _ _ hr => .cons rfl All2.nil)) ?_
    rintro _ _ ⟨A19, n19, c19, rfl, rfl⟩
    obtain ⟨q20, h⟩ := req_elim h
    refine gD (op_append 2 0 rfl rfl els_own rfl rfl Tryz.underlying139 zb4 rfl rfl q20) ?_
    rintro _ _ ⟨A21, n21, c21, rfl, rfl⟩
    refine run ?_
    obtain ⟨q22, h⟩ := req_elim h
    refine gE (ev_add rfl rfl q22.1 q22.2) ?_
    refine run ?_
    exact ⟨m12, _, _, Nat.lt_succ_self _, ⟨p13 ++ ([y18] : List Bool), p14 + 2, A21, n21, c21, h, rfl, rfl⟩, sA, cv_sel [1, 2, 3, 4, 5, 6] 7 rfl rfl⟩
   ·replace h := cond_f g16 h
    refine run ?_
    exact ⟨_, _, ⟨p13, A13, n13, c13, h, rfl, rfl⟩, sA, cv_sel [1, 2, 3, 4, 5] 6 rfl rfl⟩
  ·rintro _ _ ⟨p11, A11, n11, c11, h, rfl, rfl⟩
   refine run ?_
   refine gR (rd_boxS (us := [iV a0.Kind, iV a0.Shape, iV a0.Flags, iV a0.Age, .slice A1 n1 c1, .slice A2 n2 c2]) 3 rfl rfl agg32 rfl) ?_
   refine run ?_
   obtain ⟨y23, hy23, h⟩ := bind_elim h
   refine gD (op_callR (r17_without_ok hy23) call138 rfl (mem_cons (lent_ro (i := 1) rfl rfl) (mem_cons (lent_ro (i := 2) rfl rfl) (mem_cons (lent_own (i := 0) rfl) mem_nil))) r17_without_free) ?_
   rintro _ _ ⟨_, ⟨A24, n24, c24, A25, n25, c25, rfl, rfl⟩, rfl⟩
   refine gO (op_store (us := [iV y23.Kind, iV y23.Shape, iV y23.Flags, iV y23.Age, .slice A24 n24 c24, .slice A25 n25 c25]) (cs' := [iV y23.Kind, iV y23.Shape, iV y23.Flags, iV y23.Age, .slice A24 n24 c24, .slice A25 n25 c25]) 6 rfl rfl rfl rfl size32 rfl rfl rfl) ?_
   rintro _ _ rfl
   refine G_norm ([kO3 A24 n24 c24 y23.Slots, kO3 A25 n25 c25 y23.More, ownC rBool 4 (.slice A11 n11 c11) p11, kS0 A1 n1 c1 a0.Slots, kS0 A2 n2 c2 a0.More, boxC B4 32 [iV a0.Kind, iV a0.Shape, iV a0.Flags, iV a0.Age, .slice A1 n1 c1, .slice A2 n2 c2], boxC B5 32 [iV y23.Kind, iV y23.Shape, iV y23.Flags, iV y23.Age, .slice A24 n24 c24, .slice A25 n25 c25]]) rfl ?_
   refine run ?_
   obtain rfl := Option.some.inj h
   exact endGl (rs := [.cell 4 32]) (vs := [.agg #[iV y23.Kind, iV y23.Shape, iV y23.Flags, iV y23.Age, .slice A24 n24 c24, .slice A25 n25 c25]]) rfl (.cons (rv_boxS 6 rfl rfl agg32) .nil) rfl (cv_sel [0, 1] 7 rfl rfl) ⟨_, _, _, _, _, _, rfl, rfl⟩
theorem r17_Clean_free {r : DCell} : ∀ v post, ((fun (u : Value) (post : List Chunk) => ∃ A0 n0 c0 A1 n1 c1, u = .agg #[iV r.Kind, iV r.Shape, iV r.Flags, iV r.Age, .slice A0 n0 c0, .slice A1 n1 c1] ∧ post = [kO3 A0 n0 c0 r.Slots, kO3 A1 n1 c1 r.More])) v post → ∀ c ∈ post, Free c := by
 rintro _ _ ⟨_, _, _, _, _, _, rfl, rfl⟩; exact mem_cons free_own (mem_cons free_own (mem_nil))
def r19_cleaned_O (N : Nat) (a0 : DCell) (a1 : (List Int)) : Option DCell :=
 (bif decide (a0.Kind = 8) then ((r15_Right_O N a0).bind fun y7 => some y7) else (some false)).bind fun b6 => bif b6 then ((r17_Clean_O N a0 a1).bind fun y9 => some y9) else (some a0)
theorem r19_cleaned_ok {N : Nat} {a0 : DCell} {a1 : (List Int)} {r : DCell} (h : r19_cleaned_O N a0 a1 = some r) {A1 : Option Addr} {n1 c1 : Nat} {A2 : Option Addr} {n2 c2 : Nat} {A3 : Option Addr} {n3 c3 : Nat} : Okc Tryz.prog 75 [.agg #[iV a0.Kind, iV a0.Shape, iV a0.Flags, iV a0.Age, .slice A1 n1 c1, .slice A2 n2 c2], .slice A3 n3 c3] ([kS0 A1 n1 c1 a0.Slots, kS0 A2 n2 c2 a0.More, kS5 A3 n3 c3 a1]) (fun (u : Value) (post : List Chunk) => ∃ A0 n0 c0 A1 n1 c1, u = .agg #[iV r.Kind, iV r.Shape, iV r.Flags, iV r.Age, .slice A0 n0 c0, .slice A1 n1 c1] ∧ post = [kS0 A0 n0 c0 r.Slots, kS0 A1 n1 c1 r.More]) := by
 refine ok_E Tryz.func75 rfl rfl ?_
 simp only [envOf]
 refine run ?_
 refine gD (op_box rfl rfl) ?_
 rintro _ _ ⟨B4, rfl, rfl⟩
 refine gD (op_alloc zero32 rfl) ?_
 rintro _ _ ⟨B5, rfl, rfl⟩
 refine run ?_
 refine G_seq ?_
 refine run ?_
 obtain ⟨b6, hb6, h⟩ := bind_elim h
 refine G_segb 3 11 b6 ?_ ?_
 ·clear h
  refine G_case 8 rfl (fun g6 => ?_) (fun g6 => ?_)
  ·have h := cond_t g6 hb6
   refine G_rd (rd_boxS (us := [iV a0.Kind, iV a0.Shape, iV a0.Flags, iV a0.Age, .slice A1 n1 c1, .slice A2 n2 c2]) 1 rfl rfl agg32 rfl) rfl (g_tt g6 rfl) rfl ?_
   obtain ⟨y7, hy7, h⟩ := bind_elim h
   refine G_opd (op_callR (r15_Right_ok hy7) call92 rfl (mem_cons (lent_ro (i := 2) rfl rfl) (mem_cons (lent_ro (i := 3) rfl rfl) mem_nil)) r15_Right_free) rfl (g_tt g6 rfl) rfl ?_
   rintro _ _ ⟨_, ⟨rfl, rfl⟩, rfl⟩
   refine run ?_
   obtain rfl := Option.some.inj h
   exact G_joined sA (cv_sel [0, 1, 2, 3, 4] 5 rfl rfl)
  ·have h := cond_f g6 hb6
   refine run ?_
   obtain rfl := Option.some.inj h
   exact G_joined sA (cv_sel [0, 1, 2, 3, 4] 5 rfl rfl)
 refine run ?_
 refine G_cond rfl (fun g8 => ?_) (fun g8 => ?_)
 ·replace h := cond_t g8 h
  refine run ?_
  refine gR (rd_boxS (us := [iV a0.Kind, iV a0.Shape, iV a0.Flags, iV a0.Age, .slice A1 n1 c1, .slice A2 n2 c2]) 1 rfl rfl agg32 rfl) ?_
  refine run ?_
  obtain ⟨y9, hy9, h⟩ := bind_elim h
  refine gD (op_callR (r17_Clean_ok hy9) call84 rfl (mem_cons (lent_ro (i := 2) rfl rfl) (mem_cons (lent_ro (i := 3) rfl rfl) (mem_cons (lent_ro (i := 4) rfl rfl) mem_nil))) r17_Clean_free) ?_
  rintro _ _ ⟨_, ⟨A10, n10, c10, A11, n11, c11, rfl, rfl⟩, rfl⟩
  refine gO (op_store (us := [iV y9.Kind, iV y9.Shape, iV y9.Flags, iV y9.Age, .slice A10 n10 c10, .slice A11 n11 c11]) (cs' := [iV y9.Kind, iV y9.Shape, iV y9.Flags, iV y9.Age, .slice A10 n10 c10, .slice A11 n11 c11]) 2 rfl rfl rfl rfl size32 rfl rfl rfl) ?_
  rintro _ _ rfl
  refine run ?_
  obtain rfl := Option.some.inj h
  exact endGl (rs := [.cell 4 32]) (vs := [.agg #[iV y9.Kind, iV y9.Shape, iV y9.Flags, iV y9.Age, .slice A10 n10 c10, .slice A11 n11 c11]]) rfl (.cons (rv_boxS 2 rfl rfl agg32) .nil) rfl ((cv_frz 0 rfl).trans ((cv_frz 1 rfl).trans (cv_sel [0, 1] 7 rfl rfl))) ⟨_, _, _, _, _, _, rfl, rfl⟩
 ·replace h := cond_f g8 h
  refine run ?_
  refine gR (rd_boxS (us := [iV a0.Kind, iV a0.Shape, iV a0.Flags, iV a0.Age, .slice A1 n1 c1, .slice A2 n2 c2]) 1 rfl rfl agg32 rfl) ?_
  refine gO (op_store (us := [iV a0.Kind, iV a0.Shape, iV a0.Flags, iV a0.Age, .slice A1 n1 c1, .slice A2 n2 c2]) (cs' := [iV a0.Kind, iV a0.Shape, iV a0.Flags, iV a0.Age, .slice A1 n1 c1, .slice A2 n2 c2]) 0 rfl rfl rfl rfl size32 rfl rfl rfl) ?_
  rintro _ _ rfl
  refine run ?_
  obtain rfl := Option.some.inj h
  exact endGl (rs := [.cell 4 32]) (vs := [.agg #[iV a0.Kind, iV a0.Shape, iV a0.Flags, iV a0.Age, .slice A1 n1 c1, .slice A2 n2 c2]]) rfl (.cons (rv_boxS 0 rfl rfl agg32) .nil) rfl (cv_sel [2, 3] 5 rfl rfl) ⟨_, _, _, _, _, _, rfl, rfl⟩
def r19_Alike_j22 (N : Nat) : Option Bool :=
 some true
def r19_Alike_l23 (N : Nat) : Nat → Int → (List DCell) → (List DCell) → (List Int) → (List DCell) → (List DCell) → (List Int) → Option Bool
 | 0, _, _, _, _, _, _, _ => none
 | m23 + 1, p24, p25, p26, p27, p28, p29, p30 => bif decide (p24 < (p27.length : Int)) then ((getE p27 p24).bind fun x32 => (r19_At_O N (⟨p25, p26⟩ : DMemory) x32).bind fun y33 => (r19_cleaned_O N y33 p27).bind fun y38 => (getE p30 p24).bind fun x45 => (r19_At_O N (⟨p28, p29⟩ : DMemory) x45).bind fun y46 => (r19_cleaned_O N y46 p30).bind fun y51 => (bif !decide (y38.Kind = y51.Kind) then (some true) else (some (!decide (y38.Shape = y51.Shape)))).bind fun b58 => (bif b58 then (some true) else (some (!decide (y38.Flags = y51.Flags)))).bind fun b59 => (bif b59 then (some true) else ((r19_values_O N (⟨(⟨p25, p26⟩ : DMemory), p27⟩ : DSide) y38.Slots (⟨(⟨p28, p29⟩ : DMemory), p30⟩ : DSide) y51.Slots).bind fun y61 => some (!y61))).bind fun b60 => (bif b60 then (some true) else ((r19_values_O N (⟨(⟨p25, p26⟩ : DMemory), p27⟩ : DSide) y38.More (⟨(⟨p28, p29⟩ : DMemory), p30⟩ : DSide) y51.More).bind fun y63 => some (!y63))).bind fun b62 => bif b62 then (some false) else (req (in64 (p24 + 1)) ((r19_Alike_l23 N m23) (p24 + 1) p25 p26 p27 p28 p29 p30))) else (r19_Alike_j22 N)
theorem r19_Alike_l23_s {N m23 : Nat} {p24 : Int} {p25 : (List DCell)} {p26 : (List DCell)} {p27 : (List Int)} {p28 : (List DCell)} {p29 : (List DCell)} {p30 : (List Int)} : r19_Alike_l23 N (m23 + 1) p24 p25 p26 p27 p28 p29 p30 = bif decide (p24 < (p27.length : Int)) then ((getE p27 p24).bind fun x32 => (r19_At_O N (⟨p25, p26⟩ : DMemory) x32).bind fun y33 => (r19_cleaned_O N y33 p27).bind fun y38 => (getE p30 p24).bind fun x45 => (r19_At_O N (⟨p28, p29⟩ : DMemory) x45).bind fun y46 => (r19_cleaned_O N y46 p30).bind fun y51 => (bif !decide (y38.Kind = y51.Kind) then (some true) else (some (!decide (y38.Shape = y51.Shape)))).bind fun b58 => (bif b58 then (some true) else (some (!decide (y38.Flags = y51.Flags)))).bind fun b59 => (bif b59 then (some true) else ((r19_values_O N (⟨(⟨p25, p26⟩ : DMemory), p27⟩ : DSide) y38.Slots (⟨(⟨p28, p29⟩ : DMemory), p30⟩ : DSide) y51.Slots).bind fun y61 => some (!y61))).bind fun b60 => (bif b60 then (some true) else ((r19_values_O N (⟨(⟨p25, p26⟩ : DMemory), p27⟩ : DSide) y38.More (⟨(⟨p28, p29⟩ : DMemory), p30⟩ : DSide) y51.More).bind fun y63 => some (!y63))).bind fun b62 => bif b62 then (some false) else (req (in64 (p24 + 1)) ((r19_Alike_l23 N m23) (p24 + 1) p25 p26 p27 p28 p29 p30))) else (r19_Alike_j22 N) := rfl
def r19_Alike_O (N : Nat) (a0 : DMemory) (a1 : (List DValue)) (a2 : DMemory) (a3 : (List DValue)) : Option Bool :=
 (r19_side_O N a0 a1).bind fun y9 => (r19_side_O N a2 a3).bind fun y14 => (bif !decide ((y9.Order.length : Int) = (y14.Order.length : Int)) then (some true) else ((r19_values_O N y9 a1 y14 a3).bind fun y20 => some (!y20))).bind fun b19 => bif b19 then (some false) else (r19_Alike_l23 N N 0 y9.M.Young y9.M.Old y9.Order y14.M.Young y14.M.Old y14.Order)
set_option maxHeartbeats 4000000 in
theorem r19_Alike_ok {N : Nat} {a0 : DMemory} {a1 : (List DValue)} {a2 : DMemory} {a3 : (List DValue)} {r : Bool} (h : r19_Alike_O N a0 a1 a2 a3 = some r) {A1 : Option Addr} {n1 c1 : Nat} {A2 : Option Addr} {n2 c2 : Nat} {A3 : Option Addr} {n3 c3 : Nat} {A4 : Option Addr} {n4 c4 : Nat} {A5 : Option Addr} {n5 c5 : Nat} {A6 : Option Addr} {n6 c6 : Nat} : Okc Tryz.prog 29 [.agg #[.slice A1 n1 c1, .slice A2 n2 c2], .slice A3 n3 c3, .agg #[.slice A4 n4 c4, .slice A5 n5 c5], .slice A6 n6 c6] ([kS1 A1 n1 c1 a0.Young, kS1 A2 n2 c2 a0.Old, kS0 A3 n3 c3 a1, kS1 A4 n4 c4 a2.Young, kS1 A5 n5 c5 a2.Old, kS0 A6 n6 c6 a3]) (fun (u : Value) (post : List Chunk) => u = .bool r ∧ post = []) := by
 refine ok_E Tryz.func29 rfl rfl ?_
 simp only [envOf]
 refine run ?_
 refine gD (op_box rfl rfl) ?_
 rintro _ _ ⟨B7, rfl, rfl⟩
 refine gD (op_box rfl rfl) ?_
 rintro _ _ ⟨B8, rfl, rfl⟩
 refine run ?_
 refine gR (rd_boxS (us := [.slice A1 n1 c1, .slice A2 n2 c2]) 1 rfl rfl agg24 rfl) ?_
 refine run ?_
 obtain ⟨y9, hy9, h⟩ := bind_elim h
 refine gD (op_call (r19_side_ok hy9) call73 rfl (cv_take [2, 3, 4] [] [0, 1, 2, 3, 4, 5, 6, 7] 8 rfl)) ?_
 rintro _ _ ⟨_, ⟨A10, n10, c10, A11, n11, c11, A12, n12, c12, rfl, rfl⟩, rfl⟩
 refine gD (op_alloc zero93 rfl) ?_
 rintro _ _ ⟨B13, rfl, rfl⟩
 refine gO (op_store (us := [.slice A10 n10 c10, .slice A11 n11 c11, .slice A12 n12 c12]) (cs' := [.slice A10 n10 c10, .slice A11 n11 c11, .slice A12 n12 c12]) 0 rfl rfl rfl rfl size93 rfl rfl rfl) ?_
 rintro _ _ rfl
 refine run ?_
 refine gR (rd_boxS (us := [.slice A4 n4 c4, .slice A5 n5 c5]) 4 rfl rfl agg24 rfl) ?_
 refine run ?_
 obtain ⟨y14, hy14, h⟩ := bind_elim h
 refine gD (op_call (r19_side_ok hy14) call73 rfl (cv_take [9, 10, 11] [] [0, 1, 2, 3, 4, 5, 6, 7, 8, 9, 10, 11] 12 rfl)) ?_
 rintro _ _ ⟨_, ⟨A15, n15, c15, A16, n16, c16, A17, n17, c17, rfl, rfl⟩, rfl⟩
 refine G_norm ([kO4 A15 n15 c15 y14.M.Young, kO4 A16 n16 c16 y14.M.Old, kO2 A17 n17 c17 y14.Order, boxC B13 93 [.slice A10 n10 c10, .slice A11 n11 c11, .slice A12 n12 c12], kO4 A10 n10 c10 y9.M.Young, kO4 A11 n11 c11 y9.M.Old, kO2 A12 n12 c12 y9.Order, boxC B8 24 [.slice A4 n4 c4, .slice A5 n5 c5], boxC B7 24 [.slice A1 n1 c1, .slice A2 n2 c2], kS1 A1 n1 c1 a0.Young, kS1 A2 n2 c2 a0.Old, kS0 A3 n3 c3 a1, kS1 A4 n4 c4 a2.Young, kS1 A5 n5 c5 a2.Old, kS0 A6 n6 c6 a3]) rfl ?_
 refine gD (op_alloc zero93 rfl) ?_
 rintro _ _ ⟨B18, rfl, rfl⟩
 refine gO (op_store (us := [.slice A15 n15 c15, .slice A16 n16 c16, .slice A17 n17 c17]) (cs' := [.slice A15 n15 c15, .slice A16 n16 c16, .slice A17 n17 c17]) 0 rfl rfl rfl rfl size93 rfl rfl rfl) ?_
 rintro _ _ rfl
 refine run ?_
 refine G_seq ?_
 refine run ?_
 refine gR (rd_len 7 rfl els_own rfl Tryz.underlying35) ?_
 refine run ?_
 refine gR (rd_len 3 rfl els_own rfl Tryz.underlying35) ?_
 refine run ?_
 obtain ⟨b19, hb19, h⟩ := bind_elim h
 refine G_segb 7 34 b19 ?_ ?_
 ·clear h
  refine G_case 27 rfl (fun g19 => ?_) (fun g19 => ?_)
  ·have h := cond_t g19 hb19
   refine run ?_
   obtain rfl := Option.some.inj h
   exact G_joined sA (cv_sel [0, 1, 2, 3, 4, 5, 6, 7, 8, 9, 10, 11, 12, 13, 14, 15] 16 rfl rfl)
  ·have h := cond_f g19 hb19
   refine G_rd (rd_boxS (us := [.slice A10 n10 c10, .slice A11 n11 c11, .slice A12 n12 c12]) 4 rfl rfl agg93 rfl) rfl (g_ff g19 rfl) rfl ?_
   refine run ?_
   refine G_rd (rd_boxS (us := [.slice A15 n15 c15, .slice A16 n16 c16, .slice A17 n17 c17]) 0 rfl rfl agg93 rfl) rfl (g_ff g19 rfl) rfl ?_
   refine run ?_
   obtain ⟨y20, hy20, h⟩ := bind_elim h
   refine G_opd (op_callR (r19_values_ok hy20) call74 rfl (mem_cons (lent_own (i := 5) rfl) (mem_cons (lent_own (i := 6) rfl) (mem_cons (lent_own (i := 7) rfl) (mem_cons (lent_ro (i := 12) rfl rfl) (mem_cons (lent_own (i := 1) rfl) (mem_cons (lent_own (i := 2) rfl) (mem_cons (lent_own (i := 3) rfl) (mem_cons (lent_ro (i := 15) rfl rfl) mem_nil)))))))) r19_values_free) rfl (g_ff g19 rfl) rfl ?_
   rintro _ _ ⟨_, ⟨rfl, rfl⟩, rfl⟩
   refine run ?_
   obtain rfl := Option.some.inj h
   exact G_joined sA (cv_sel [0, 1, 2, 3, 4, 5, 6, 7, 8, 9, 10, 11, 12, 13, 14, 15] 16 rfl rfl)
 refine run ?_
 refine G_cond rfl (fun g21 => ?_) (fun g21 => ?_)
 ·replace h := cond_t g21 h
  refine run ?_
  obtain rfl := Option.some.inj h
  exact endG1 rfl rfl (cv_sel [] 16 rfl rfl) ⟨rfl, rfl⟩
 ·replace h := cond_f g21 h
  refine run ?_
  refine G_joinF (fun s L => r19_Alike_j22 N = some r ∧ s = [(8, .bool false)] ∧ L = []) ?_ ?_
  ·refine run ?_
   refine G_loopF (fun m s L => ∃ (p24 : Int) (p25 : (List DCell)) (p26 : (List DCell)) (p27 : (List Int)) (p28 : (List DCell)) (p29 : (List DCell)) (p30 : (List Int)) (A25 : Option Addr) (n25 c25 : Nat) (A26 : Option Addr) (n26 c26 : Nat) (A27 : Option Addr) (n27 c27 : Nat) (A28 : Option Addr) (n28 c28 : Nat) (A29 : Option Addr) (n29 c29 : Nat) (A30 : Option Addr) (n30 c30 : Nat), r19_Alike_l23 N m p24 p25 p26 p27 p28 p29 p30 = some r ∧ s = [(8, .bool false), (9, pV B13 0), (10, pV B18 0), (11, iV p24)] ∧ L = [kS1 A25 n25 c25 p25, kS1 A26 n26 c26 p26, kS5 A27 n27 c27 p27, boxC B13 93 [.slice A25 n25 c25, .slice A26 n26 c26, .slice A27 n27 c27], kS1 A28 n28 c28 p28, kS1 A29 n29 c29 p29, kS5 A30 n30 c30 p30, boxC B18 93 [.slice A28 n28 c28, .slice A29 n29 c29, .slice A30 n30 c30]]) N _ _ ⟨0, y9.M.Young, y9.M.Old, y9.Order, y14.M.Young, y14.M.Old, y14.Order, A10, n10, c10, A11, n11, c11, A12, n12, c12, A15, n15, c15, A16, n16, c16, A17, n17, c17, h, rfl, rfl⟩ sA ((cv_frz 5 rfl).trans ((cv_frz 6 rfl).trans ((cv_frz 7 rfl).trans ((cv_frz 1 rfl).trans ((cv_frz 2 rfl).trans ((cv_frz 3 rfl).trans (cv_sel [5, 6, 7, 4, 1, 2, 3, 0] 16 rfl rfl))))))) ?_
   rintro (_ | m23) _ _ ⟨p24, p25, p26, p27, p28, p29, p30, A25, n25, c25, A26, n26, c26, A27, n27, c27, A28, n28, c28, A29, n29, c29, A30, n30, c30, h, rfl, rfl⟩
   ·exact none_some h
   rw [r19_Alike_l23_s] at h
   refine G_seq ?_
   refine run ?_
   refine gR (rd_len 2 rfl els_sl rfl Tryz.underlying35) ?_
   refine run ?_
   refine G_cond rfl (fun g31 => ?_) (fun g31 => ?_)
   ·replace h := cond_t g31 h
    refine run ?_
    refine G_seq ?_
    refine G_block ?_
    refine G_seq ?_
    obtain ⟨x32, hx32, h⟩ := bind_elim h
    obtain ⟨lx32, ux32, hx32⟩ := getE_elim hx32
    obtain ⟨y33, hy33, h⟩ := bind_elim h
    obtain ⟨y38, hy38, h⟩ := bind_elim h
    refine G_sub (t := [(8, .bool false), (9, pV B13 0), (10, pV B18 0), (11, iV p24)]) ?_ subT (cv_refl _)
    refine G_monoX (by kernel_rfl) 12 [] [10, 11] [42, 43, 44, 45, 46, 47, 48, 49, 50, 51, 52, 12] [[], [0], [], [2], [], [3, 4], [5], [1, 6], [], [8], [7, 9], []] [aV (pV B13 0),
 aV (.agg #[.slice A25 n25 c25, .slice A26 n26 c26]),
 aV (pV B13 2),
 aV (.slice A27 n27 c27),
 aV (iV p24),
 aV (elemQ (.slice A27 n27 c27) p24.toNat 1 0),
 aV (iV x32),
 aX6 (fun (A36 : Option Addr) (n36 c36 : Nat) (A37 : Option Addr) (n37 c37 : Nat) => .agg #[iV y33.Kind, iV y33.Shape, iV y33.Flags, iV y33.Age, .slice A36 n36 c36, .slice A37 n37 c37]) (fun A36 n36 c36 A37 n37 c37 => [kS0 A36 n36 c36 y33.Slots, kS0 A37 n37 c37 y33.More]),
 aV (pV B13 2),
 aV (.slice A27 n27 c27),
 aX6 (fun (A41 : Option Addr) (n41 c41 : Nat) (A42 : Option Addr) (n42 c42 : Nat) => .agg #[iV y38.Kind, iV y38.Shape, iV y38.Flags, iV y38.Age, .slice A41 n41 c41, .slice A42 n42 c42]) (fun A41 n41 c41 A42 n42 c42 => [kS0 A41 n41 c41 y38.Slots, kS0 A42 n42 c42 y38.More]),
 aX1 (fun (B44 : Nat) => pV B44 0) (fun B44 => [boxC B44 32 [iV 0, iV 0, iV 0, iV 0, .slice none 0 0, .slice none 0 0]])] [] (cv_refl _) (qB_nil) (by kernel_rfl) rfl rfl ?_ ?_ ?_
    ·exact qs_nil
    ·refine steps_cons rfl ?_ ?_
     ·refine X_op (op_alloc zero32 rfl) rfl ?_
      rintro _ _ ⟨B43, rfl, rfl⟩
      exact cvp1 B43 (cv_refl _)
     refine steps_cons rfl ?_ ?_
     ·intro A36 n36 c36 A37 n37 c37
      refine X_op (op_call (r19_cleaned_ok hy38) call75 rfl (cv_take [0, 1, 4] [] [0, 1, 2, 3, 4, 5, 6, 7, 8, 9] 10 rfl)) rfl ?_
      rintro _ _ ⟨_, ⟨A39, n39, c39, A40, n40, c40, rfl, rfl⟩, rfl⟩
      exact cvp6 A39 n39 c39 A40 n40 c40 (cv_refl _)
     refine steps_cons rfl ?_ ?_
     ·exact X_rd (rd_box1 3 rfl rfl one35 rfl) rfl (cvpV rfl (cv_refl _))
     refine steps_cons rfl ?_ ?_
     ·exact X_ev (ev_fa rfl fa_93_1) rfl (cvpV rfl (cv_refl _))
     refine steps_cons rfl ?_ ?_
     ·refine X_op (op_call (r19_At_ok hy33) call17 rfl (cv_take [0, 1] [] [0, 1, 2, 3, 4, 5, 6, 7] 8 rfl)) rfl ?_
      rintro _ _ ⟨_, ⟨A34, n34, c34, A35, n35, c35, rfl, rfl⟩, rfl⟩
      exact cvp6 A34 n34 c34 A35 n35 c35 (cv_refl _)
     refine steps_cons rfl ?_ ?_
     ·exact X_rd (rd_elem1 (u := iV x32) 2 rfl els_sl rfl hx32 one3 (fun _ _ _ h => by rw [show _ = _ from h]; rfl)) rfl (cvpV rfl (cv_refl _))
     refine steps_cons rfl ?_ ?_
     ·exact X_rd (rd_idx 2 rfl els_sl rfl rfl Tryz.underlying35 size3 lx32 ux32) rfl (cvpV rfl (cv_refl _))
     refine steps_cons rfl ?_ ?_
     ·exact X_ev (ev_move rfl) rfl (cvpV rfl (cv_refl _))
     refine steps_cons rfl ?_ ?_
     ·exact X_rd (rd_box1 3 rfl rfl one35 rfl) rfl (cvpV rfl (cv_refl _))
     refine steps_cons rfl ?_ ?_
     ·exact X_ev (ev_fa rfl fa_93_1) rfl (cvpV rfl (cv_refl _))
     refine steps_cons rfl ?_ ?_
     ·exact X_rd (rd_boxS (us := [.slice A25 n25 c25, .slice A26 n26 c26]) 3 rfl rfl agg24 rfl) rfl (cvpV rfl (cv_refl _))
     refine steps_cons rfl ?_ ?_
     ·exact X_ev (ev_fa0 rfl fa_93_0) rfl (cvpV rfl (cv_refl _))
     exact steps_nil
    ·intro A41 n41 c41 A42 n42 c42 B44
     refine N_sub (t := [(52, .agg #[iV y38.Kind, iV y38.Shape, iV y38.Flags, iV y38.Age, .slice A41 n41 c41, .slice A42 n42 c42]), (12, pV B44 0), (8, .bool false), (9, pV B13 0), (10, pV B18 0), (11, iV p24)]) (L' := [kS0 A41 n41 c41 y38.Slots, kS0 A42 n42 c42 y38.More, boxC B44 32 [iV 0, iV 0, iV 0, iV 0, .slice none 0 0, .slice none 0 0], kS1 A25 n25 c25 p25, kS1 A26 n26 c26 p26, kS5 A27 n27 c27 p27, boxC B13 93 [.slice A25 n25 c25, .slice A26 n26 c26, .slice A27 n27 c27], kS1 A28 n28 c28 p28, kS1 A29 n29 c29 p29, kS5 A30 n30 c30 p30, boxC B18 93 [.slice A28 n28 c28, .slice A29 n29 c29, .slice A30 n30 c30]]) ?_ subT (cv_refl _)
     refine N_opn 12 rfl (by kernel_rfl) (op_store (us := [iV y38.Kind, iV y38.Shape, iV y38.Flags, iV y38.Age, .slice A41 n41 c41, .slice A42 n42 c42]) (cs' := [iV y38.Kind, iV y38.Shape, iV y38.Flags, iV y38.Age, .slice A41 n41 c41, .slice A42 n42 c42]) 2 rfl rfl rfl rfl size32 rfl rfl rfl) rfl rfl ?_
     rintro _ _ rfl
     refine N_done (by kernel_rfl) ?_
     refine nx_n ?_
     refine G_seq ?_
     obtain ⟨x45, hx45, h⟩ := bind_elim h
     obtain ⟨lx45, ux45, hx45⟩ := getE_elim hx45
     obtain ⟨y46, hy46, h⟩ := bind_elim h
     obtain ⟨y51, hy51, h⟩ := bind_elim h
     refine G_sub (t := [(8, .bool false), (9, pV B13 0), (10, pV B18 0), (11, iV p24), (12, pV B44 0)]) ?_ subT (cv_refl _)
     refine G_monoX (by kernel_rfl) 12 [] [10, 11] [53, 54, 55, 56, 57, 58, 59, 60, 61, 62, 63, 13] [[], [0], [], [2], [], [3, 4], [5], [1, 6], [], [8], [7, 9], []] [aV (pV B18 0),
 aV (.agg #[.slice A28 n28 c28, .slice A29 n29 c29]),
 aV (pV B18 2),
 aV (.slice A30 n30 c30),
 aV (iV p24),
 aV (elemQ (.slice A30 n30 c30) p24.toNat 1 0),
 aV (iV x45),
 aX6 (fun (A49 : Option Addr) (n49 c49 : Nat) (A50 : Option Addr) (n50 c50 : Nat) => .agg #[iV y46.Kind, iV y46.Shape, iV y46.Flags, iV y46.Age, .slice A49 n49 c49, .slice A50 n50 c50]) (fun A49 n49 c49 A50 n50 c50 => [kS0 A49 n49 c49 y46.Slots, kS0 A50 n50 c50 y46.More]),
 aV (pV B18 2),
 aV (.slice A30 n30 c30),
 aX6 (fun (A54 : Option Addr) (n54 c54 : Nat) (A55 : Option Addr) (n55 c55 : Nat) => .agg #[iV y51.Kind, iV y51.Shape, iV y51.Flags, iV y51.Age, .slice A54 n54 c54, .slice A55 n55 c55]) (fun A54 n54 c54 A55 n55 c55 => [kS0 A54 n54 c54 y51.Slots, kS0 A55 n55 c55 y51.More]),
 aX1 (fun (B57 : Nat) => pV B57 0) (fun B57 => [boxC B57 32 [iV 0, iV 0, iV 0, iV 0, .slice none 0 0, .slice none 0 0]])] [] (cv_refl _) (qB_nil) (by kernel_rfl) rfl rfl ?_ ?_ ?_
     ·exact qs_nil
     ·refine steps_cons rfl ?_ ?_
      ·refine X_op (op_alloc zero32 rfl) rfl ?_
       rintro _ _ ⟨B56, rfl, rfl⟩
       exact cvp1 B56 (cv_refl _)
      refine steps_cons rfl ?_ ?_
      ·intro A49 n49 c49 A50 n50 c50
       refine X_op (op_call (r19_cleaned_ok hy51) call75 rfl (cv_take [0, 1, 11] [] [0, 1, 2, 3, 4, 5, 6, 7, 8, 9, 10, 11, 12] 13 rfl)) rfl ?_
       rintro _ _ ⟨_, ⟨A52, n52, c52, A53, n53, c53, rfl, rfl⟩, rfl⟩
       exact cvp6 A52 n52 c52 A53 n53 c53 (cv_refl _)
      refine steps_cons rfl ?_ ?_
      ·exact X_rd (rd_box1 10 rfl rfl one35 rfl) rfl (cvpV rfl (cv_refl _))
      refine steps_cons rfl ?_ ?_
      ·exact X_ev (ev_fa rfl fa_93_1) rfl (cvpV rfl (cv_refl _))
      refine steps_cons rfl ?_ ?_
      ·refine X_op (op_call (r19_At_ok hy46) call17 rfl (cv_take [7, 8] [] [0, 1, 2, 3, 4, 5, 6, 7, 8, 9, 10] 11 rfl)) rfl ?_
       rintro _ _ ⟨_, ⟨A47, n47, c47, A48, n48, c48, rfl, rfl⟩, rfl⟩
       exact cvp6 A47 n47 c47 A48 n48 c48 (cv_refl _)
      refine steps_cons rfl ?_ ?_
      ·exact X_rd (rd_elem1 (u := iV x45) 9 rfl els_sl rfl hx45 one3 (fun _ _ _ h => by rw [show _ = _ from h]; rfl)) rfl (cvpV rfl (cv_refl _))
      refine steps_cons rfl ?_ ?_
      ·exact X_rd (rd_idx 9 rfl els_sl rfl rfl Tryz.underlying35 size3 lx45 ux45) rfl (cvpV rfl (cv_refl _))
      refine steps_cons rfl ?_ ?_
      ·exact X_ev (ev_move rfl) rfl (cvpV rfl (cv_refl _))
      refine steps_cons rfl ?_ ?_
      ·exact X_rd (rd_box1 10 rfl rfl one35 rfl) rfl (cvpV rfl (cv_refl _))
      refine steps_cons rfl ?_ ?_
      ·exact X_ev (ev_fa rfl fa_93_1) rfl (cvpV rfl (cv_refl _))
      refine steps_cons rfl ?_ ?_
      ·exact X_rd (rd_boxS (us := [.slice A28 n28 c28, .slice A29 n29 c29]) 10 rfl rfl agg24 rfl) rfl (cvpV rfl (cv_refl _))
      refine steps_cons rfl ?_ ?_
      ·exact X_ev (ev_fa0 rfl fa_93_0) rfl (cvpV rfl (cv_refl _))
      exact steps_nil
     ·intro A54 n54 c54 A55 n55 c55 B57
      refine N_sub (t := [(63, .agg #[iV y51.Kind, iV y51.Shape, iV y51.Flags, iV y51.Age, .slice A54 n54 c54, .slice A55 n55 c55]), (13, pV B57 0), (8, .bool false), (9, pV B13 0), (10, pV B18 0), (11, iV p24), (12, pV B44 0)]) (L' := [kS0 A54 n54 c54 y51.Slots, kS0 A55 n55 c55 y51.More, boxC B57 32 [iV 0, iV 0, iV 0, iV 0, .slice none 0 0, .slice none 0 0], kS0 A41 n41 c41 y38.Slots, kS0 A42 n42 c42 y38.More, boxC B44 32 [iV y38.Kind, iV y38.Shape, iV y38.Flags, iV y38.Age, .slice A41 n41 c41, .slice A42 n42 c42], kS1 A25 n25 c25 p25, kS1 A26 n26 c26 p26, kS5 A27 n27 c27 p27, boxC B13 93 [.slice A25 n25 c25, .slice A26 n26 c26, .slice A27 n27 c27], kS1 A28 n28 c28 p28, kS1 A29 n29 c29 p29, kS5 A30 n30 c30 p30, boxC B18 93 [.slice A28 n28 c28, .slice A29 n29 c29, .slice A30 n30 c30]]) ?_ subT (cv_refl _)
      refine N_opn 12 rfl (by kernel_rfl) (op_store (us := [iV y51.Kind, iV y51.Shape, iV y51.Flags, iV y51.Age, .slice A54 n54 c54, .slice A55 n55 c55]) (cs' := [iV y51.Kind, iV y51.Shape, iV y51.Flags, iV y51.Age, .slice A54 n54 c54, .slice A55 n55 c55]) 2 rfl rfl rfl rfl size32 rfl rfl rfl) rfl rfl ?_
      rintro _ _ rfl
      refine N_norm ([kS0 A54 n54 c54 y51.Slots, kS0 A55 n55 c55 y51.More, boxC B57 32 [iV y51.Kind, iV y51.Shape, iV y51.Flags, iV y51.Age, .slice A54 n54 c54, .slice A55 n55 c55], kS0 A41 n41 c41 y38.Slots, kS0 A42 n42 c42 y38.More, boxC B44 32 [iV y38.Kind, iV y38.Shape, iV y38.Flags, iV y38.Age, .slice A41 n41 c41, .slice A42 n42 c42], kS1 A25 n25 c25 p25, kS1 A26 n26 c26 p26, kS5 A27 n27 c27 p27, boxC B13 93 [.slice A25 n25 c25, .slice A26 n26 c26, .slice A27 n27 c27], kS1 A28 n28 c28 p28, kS1 A29 n29 c29 p29, kS5 A30 n30 c30 p30, boxC B18 93 [.slice A28 n28 c28, .slice A29 n29 c29, .slice A30 n30 c30]]) rfl ?_
      refine N_done (by kernel_rfl) ?_
      refine run ?_
      obtain ⟨b58, hb58, h⟩ := bind_elim h
      refine G_segb 6 75 b58 ?_ ?_
      ·clear h
       refine G_case 69 rfl (fun g58 => ?_) (fun g58 => ?_)
       ·have h := cond_t g58 hb58
        refine run ?_
        obtain rfl := Option.some.inj h
        exact G_joined sA (cv_sel [0, 1, 2, 3, 4, 5, 6, 7, 8, 9, 10, 11, 12, 13] 14 rfl rfl)
       ·have h := cond_f g58 hb58
        refine run ?_
        obtain rfl := Option.some.inj h
        exact G_joined sA (cv_sel [0, 1, 2, 3, 4, 5, 6, 7, 8, 9, 10, 11, 12, 13] 14 rfl rfl)
      refine run ?_
      obtain ⟨b59, hb59, h⟩ := bind_elim h
      refine G_segb 6 82 b59 ?_ ?_
      ·clear h
       refine G_case 76 rfl (fun g59 => ?_) (fun g59 => ?_)
       ·have h := cond_t g59 hb59
        refine run ?_
        obtain rfl := Option.some.inj h
        exact G_joined sA (cv_sel [0, 1, 2, 3, 4, 5, 6, 7, 8, 9, 10, 11, 12, 13] 14 rfl rfl)
       ·have h := cond_f g59 hb59
        refine run ?_
        obtain rfl := Option.some.inj h
        exact G_joined sA (cv_sel [0, 1, 2, 3, 4, 5, 6, 7, 8, 9, 10, 11, 12, 13] 14 rfl rfl)
      refine run ?_
      obtain ⟨b60, hb60, h⟩ := bind_elim h
      refine G_segb 9 92 b60 ?_ ?_
      ·clear h
       refine G_case 83 rfl (fun g60 => ?_) (fun g60 => ?_)
       ·have h := cond_t g60 hb60
        refine run ?_
        obtain rfl := Option.some.inj h
        exact G_joined sA (cv_sel [0, 1, 2, 3, 4, 5, 6, 7, 8, 9, 10, 11, 12, 13] 14 rfl rfl)
       ·have h := cond_f g60 hb60
        refine G_rd (rd_boxS (us := [.slice A25 n25 c25, .slice A26 n26 c26, .slice A27 n27 c27]) 9 rfl rfl agg93 rfl) rfl (g_ff g60 rfl) rfl ?_
        refine run ?_
        refine G_rd (rd_boxS (us := [.slice A28 n28 c28, .slice A29 n29 c29, .slice A30 n30 c30]) 13 rfl rfl agg93 rfl) rfl (g_ff g60 rfl) rfl ?_
        refine run ?_
        obtain ⟨y61, hy61, h⟩ := bind_elim h
        refine G_opd (op_callR (r19_values_ok hy61) call74 rfl (mem_cons (lent_ro (i := 6) rfl rfl) (mem_cons (lent_ro (i := 7) rfl rfl) (mem_cons (lent_ro (i := 8) rfl rfl) (mem_cons (lent_ro (i := 3) rfl rfl) (mem_cons (lent_ro (i := 10) rfl rfl) (mem_cons (lent_ro (i := 11) rfl rfl) (mem_cons (lent_ro (i := 12) rfl rfl) (mem_cons (lent_ro (i := 0) rfl rfl) mem_nil)))))))) r19_values_free) rfl (g_ff g60 rfl) rfl ?_
        rintro _ _ ⟨_, ⟨rfl, rfl⟩, rfl⟩
        refine run ?_
        obtain rfl := Option.some.inj h
        exact G_joined sA (cv_sel [0, 1, 2, 3, 4, 5, 6, 7, 8, 9, 10, 11, 12, 13] 14 rfl rfl)
      refine run ?_
      obtain ⟨b62, hb62, h⟩ := bind_elim h
      refine G_segb 9 102 b62 ?_ ?_
      ·clear h
       refine G_case 93 rfl (fun g62 => ?_) (fun g62 => ?_)
       ·have h := cond_t g62 hb62
        refine run ?_
        obtain rfl := Option.some.inj h
        exact G_joined sA (cv_sel [0, 1, 2, 3, 4, 5, 6, 7, 8, 9, 10, 11, 12, 13] 14 rfl rfl)
       ·have h := cond_f g62 hb62
        refine G_rd (rd_boxS (us := [.slice A25 n25 c25, .slice A26 n26 c26, .slice A27 n27 c27]) 9 rfl rfl agg93 rfl) rfl (g_ff g62 rfl) rfl ?_
        refine run ?_
        refine G_rd (rd_boxS (us := [.slice A28 n28 c28, .slice A29 n29 c29, .slice A30 n30 c30]) 13 rfl rfl agg93 rfl) rfl (g_ff g62 rfl) rfl ?_
        refine run ?_
        obtain ⟨y63, hy63, h⟩ := bind_elim h
        refine G_opd (op_callR (r19_values_ok hy63) call74 rfl (mem_cons (lent_ro (i := 6) rfl rfl) (mem_cons (lent_ro (i := 7) rfl rfl) (mem_cons (lent_ro (i := 8) rfl rfl) (mem_cons (lent_ro (i := 4) rfl rfl) (mem_cons (lent_ro (i := 10) rfl rfl) (mem_cons (lent_ro (i := 11) rfl rfl) (mem_cons (lent_ro (i := 12) rfl rfl) (mem_cons (lent_ro (i := 1) rfl rfl) mem_nil)))))))) r19_values_free) rfl (g_ff g62 rfl) rfl ?_
        rintro _ _ ⟨_, ⟨rfl, rfl⟩, rfl⟩
        refine run ?_
        obtain rfl := Option.some.inj h
        exact G_joined sA (cv_sel [0, 1, 2, 3, 4, 5, 6, 7, 8, 9, 10, 11, 12, 13] 14 rfl rfl)
      refine run ?_
      refine G_cond rfl (fun g64 => ?_) (fun g64 => ?_)
      ·replace h := cond_t g64 h
       refine run ?_
       obtain rfl := Option.some.inj h
       exact endG1 rfl rfl (cv_sel [] 14 rfl rfl) ⟨rfl, rfl⟩
      ·replace h := cond_f g64 h
       refine run ?_
       obtain ⟨q65, h⟩ := req_elim h
       refine gE (ev_add rfl rfl q65.1 q65.2) ?_
       refine run ?_
       exact ⟨m23, _, _, Nat.lt_succ_self _, ⟨p24 + 1, p25, p26, p27, p28, p29, p30, A25, n25, c25, A26, n26, c26, A27, n27, c27, A28, n28, c28, A29, n29, c29, A30, n30, c30, h, rfl, rfl⟩, sA, cv_sel [6, 7, 8, 9, 10, 11, 12, 13] 14 rfl rfl⟩
   ·replace h := cond_f g31 h
    refine run ?_
    exact ⟨_, _, ⟨h, rfl, rfl⟩, sA, cv_sel [] 8 rfl rfl⟩
  ·rintro _ _ ⟨h, rfl, rfl⟩
   refine run ?_
   obtain rfl := Option.some.inj h
   exact endG1 rfl rfl (cv_sel [] 0 rfl rfl) ⟨rfl, rfl⟩
theorem r19_Alike_free {r : Bool} : ∀ v post, ((fun (u : Value) (post : List Chunk) => u = .bool r ∧ post = [])) v post → ∀ c ∈ post, Free c := by
 rintro _ _ ⟨rfl, rfl⟩; exact mem_nil
def w22_goes_c1_O (N : Nat) (a0 : (List DValue)) : Option DCell :=
 some (⟨11, 0, 0, 0, [], a0⟩ : DCell)
theorem w22_goes_c1_ok {N : Nat} {a0 : (List DValue)} {r : DCell} (h : w22_goes_c1_O N a0 = some r) {A1 : Option Addr} {n1 c1 : Nat} : Okc Tryz.prog 76 [.slice A1 n1 c1] ([kS0 A1 n1 c1 a0]) (fun (u : Value) (post : List Chunk) => ∃ A0 n0 c0 A1 n1 c1, u = .agg #[iV r.Kind, iV r.Shape, iV r.Flags, iV r.Age, .slice A0 n0 c0, .slice A1 n1 c1] ∧ post = [kS0 A0 n0 c0 r.Slots, kS0 A1 n1 c1 r.More]) := by
 refine ok_E Tryz.func76 rfl rfl ?_
 simp only [envOf]
 refine run ?_
 refine gD (op_alloc zero32 rfl) ?_
 rintro _ _ ⟨B2, rfl, rfl⟩
 refine run ?_
 refine gE (ev_build rfl (bld_32_0_5 _ _ _ _)) ?_
 refine gO (op_store (us := [iV 11, iV 0, iV 0, iV 0, .slice none 0 0, .slice A1 n1 c1]) (cs' := [iV 11, iV 0, iV 0, iV 0, .slice none 0 0, .slice A1 n1 c1]) 0 rfl rfl rfl rfl size32 rfl rfl rfl) ?_
 rintro _ _ rfl
 refine run ?_
 obtain rfl := Option.some.inj h
 exact endGl (rs := [.cell 2 32]) (vs := [.agg #[iV 11, iV 0, iV 0, iV 0, .slice none 0 0, .slice A1 n1 c1]]) rfl (.cons (rv_boxS 0 rfl rfl agg32) .nil) rfl ((cv_nilS rDValue _).trans (cv_sel [0, 2] 3 rfl rfl)) ⟨_, _, _, _, _, _, rfl, rfl⟩
def w22_object_O (N : Nat) (a0 : Int) : Option DValue :=
 some (⟨7, a0, ⟨#[]⟩⟩ : DValue)
theorem w22_object_ok {N : Nat} {a0 : Int} {r : DValue} (h : w22_object_O N a0 = some r) : Okc Tryz.prog 77 [iV a0] ([]) (fun (u : Value) (post : List Chunk) => u = .agg #[iV r.Kind, iV r.N, .string r.S] ∧ post = []) := by
 refine ok_E Tryz.func77 rfl rfl ?_
 simp only [envOf]
 refine run ?_
 refine gD (op_alloc zero38 rfl) ?_
 rintro _ _ ⟨B1, rfl, rfl⟩
 refine run ?_
 refine gE (ev_build rfl (bld_38_0_1 _ _)) ?_
 refine gO (op_store (us := [iV 7, iV a0, .string (⟨#[]⟩)]) (cs' := [iV 7, iV a0, .string (⟨#[]⟩)]) 0 rfl rfl rfl rfl size38 rfl rfl rfl) ?_
 rintro _ _ rfl
 refine run ?_
 obtain rfl := Option.some.inj h
 exact endGl (rs := [.cell 2 38]) (vs := [.agg #[iV 7, iV a0, .string (⟨#[]⟩)]]) rfl (.cons (rv_boxS 0 rfl rfl agg38) .nil) rfl (cv_sel [] 1 rfl rfl) ⟨rfl, rfl⟩
theorem w22_object_free {r : DValue} : ∀ v post, ((fun (u : Value) (post : List Chunk) => u = .agg #[iV r.Kind, iV r.N, .string r.S] ∧ post = [])) v post → ∀ c ∈ post, Free c := by
 rintro _ _ ⟨rfl, rfl⟩; exact mem_nil
def major_order_c1_j9 (N : Nat) {σ : Type} (kb4 : Int → Int → σ → Option σ) (fy : (Int × Int) → σ → Option (Bool × σ)) (p6 : Int) (a1 : (List Int)) (p10 : Int) (p11 : σ) : Option σ :=
 req (in64 (p6 + 1)) (kb4 p10 (p6 + 1) p11)
def major_order_c1_j18 (N : Nat) {σ : Type} (kb4 : Int → Int → σ → Option σ) (kb13 : Int → Int → σ → Option σ) (fy : (Int × Int) → σ → Option (Bool × σ)) (x12 : Int) (p6 : Int) (a1 : (List Int)) (p15 : Int) (p19 : Int) (p20 : σ) : Option σ :=
 req (in64 (p15 + 1)) (kb13 p19 (p15 + 1) p20)
def major_order_c1_l13 (N : Nat) {σ : Type} (kb4 : Int → Int → σ → Option σ) (fy : (Int × Int) → σ → Option (Bool × σ)) (x12 : Int) (p6 : Int) (a1 : (List Int)) : Nat → Int → Int → σ → Option σ
 | 0, _, _, _ => none
 | m13 + 1, p14, p15, p16 => bif decide (p15 < (a1.length : Int)) then ((getE a1 p15).bind fun x21 => bif !decide (x21.tmod 2 = x12) then (major_order_c1_j18 N kb4 (major_order_c1_l13 N kb4 fy x12 p6 a1 m13) fy x12 p6 a1 p15 p14 p16) else ((fy (p14, x21) p16).bind fun y23 => bif !y23.1 then (some y23.2) else (req (in64 (p14 + 1)) (major_order_c1_j18 N kb4 (major_order_c1_l13 N kb4 fy x12 p6 a1 m13) fy x12 p6 a1 p15 (p14 + 1) y23.2)))) else (major_order_c1_j9 N kb4 fy p6 a1 p14 p16)
theorem major_order_c1_l13_s {N m13 : Nat} {σ : Type} {kb4 : Int → Int → σ → Option σ} {fy : (Int × Int) → σ → Option (Bool × σ)} {x12 : Int} {p6 : Int} {a1 : (List Int)} {p14 : Int} {p15 : Int} {p16 : σ} : major_order_c1_l13 N kb4 fy x12 p6 a1 (m13 + 1) p14 p15 p16 = bif decide (p15 < (a1.length : Int)) then ((getE a1 p15).bind fun x21 => bif !decide (x21.tmod 2 = x12) then (major_order_c1_j18 N kb4 (major_order_c1_l13 N kb4 fy x12 p6 a1 m13) fy x12 p6 a1 p15 p14 p16) else ((fy (p14, x21) p16).bind fun y23 => bif !y23.1 then (some y23.2) else (req (in64 (p14 + 1)) (major_order_c1_j18 N kb4 (major_order_c1_l13 N kb4 fy x12 p6 a1 m13) fy x12 p6 a1 p15 (p14 + 1) y23.2)))) else (major_order_c1_j9 N kb4 fy p6 a1 p14 p16) := rfl
def major_order_c1_l4 (N : Nat) {σ : Type} (fy : (Int × Int) → σ → Option (Bool × σ)) (a1 : (List Int)) : Nat → Int → Int → σ → Option σ
 | 0, _, _, _ => none
 | m4 + 1, p5, p6, p7 => bif decide (p6 < (([0, 1] : List Int).length : Int)) then ((getE ([0, 1] : List Int) p6).bind fun x12 => major_order_c1_l13 N (major_order_c1_l4 N fy a1 m4) fy x12 p6 a1 N p5 0 p7) else (some p7)
theorem major_order_c1_l4_s {N m4 : Nat} {σ : Type} {fy : (Int × Int) → σ → Option (Bool × σ)} {a1 : (List Int)} {p5 : Int} {p6 : Int} {p7 : σ} : major_order_c1_l4 N fy a1 (m4 + 1) p5 p6 p7 = bif decide (p6 < (([0, 1] : List Int).length : Int)) then ((getE ([0, 1] : List Int) p6).bind fun x12 => major_order_c1_l13 N (major_order_c1_l4 N fy a1 m4) fy x12 p6 a1 N p5 0 p7) else (some p7) := rfl
def major_order_c1_O (N : Nat) {σ : Type} (a1 : (List Int)) (fy : (Int × Int) → σ → Option (Bool × σ)) (s0 : σ) : Option σ :=
 major_order_c1_l4 N fy a1 N 0 0 s0
theorem major_order_c1_ok {N : Nat} {σ : Type} {a1 : (List Int)} {fy : (Int × Int) → σ → Option (Bool × σ)} {s0 : σ} {r : σ} (h : major_order_c1_O N a1 fy s0 = some r) {B1 : Nat} {A2 : Option Addr} {n2 c2 : Nat} {l : Nat} {G : σ → List Chunk} (hY : YieldOk Tryz.prog l G (fun x => [iV x.1, iV x.2]) fy) : Okc Tryz.prog 131 [.func (.yield l) #[] #[], pV B1 0] (rboxC B1 35 [.slice A2 n2 c2] :: kS5 A2 n2 c2 a1 :: (G s0)) (fun (u : Value) (post : List Chunk) => u = .tuple #[] ∧ post = G r) := by
 refine ok_E Tryz.func131 rfl rfl ?_
 simp only [envOf]
 refine run ?_
 refine gD (op_bslice (R := (rInt .i64)) (vss := [[iV 0], [iV 1]]) (xs := [0, 1]) rfl (bsl_35_2 _ _) rfl rfl (fun _ _ hr => .cons rfl (.cons rfl All2.nil))) ?_
 rintro _ _ ⟨A3, n3, c3, rfl, rfl⟩
 refine gR (rd_len 0 rfl els_own rfl Tryz.underlying35) ?_
 refine run ?_
 refine G_loopF (fun m s L => ∃ (p5 : Int) (p6 : Int) (p7 : σ), major_order_c1_l4 N fy a1 m p5 p6 p7 = some r ∧ s = [(0, .func (.yield l) #[] #[]), (1, pV B1 0), (3, iV p5), (8, .slice A3 n3 c3), (9, iV (([0, 1] : List Int).length : Int)), (10, iV p6)] ∧ L = kO2 A3 n3 c3 ([0, 1] : List Int) :: kS5 A2 n2 c2 a1 :: rboxC B1 35 [.slice A2 n2 c2] :: (G p7)) N _ _ ⟨0, 0, s0, h, rfl, rfl⟩ sA (cv_sel [0, 2, 1] 3 rfl rfl) ?_
 rintro (_ | m4) _ _ ⟨p5, p6, p7, h, rfl, rfl⟩
 ·exact none_some h
 rw [major_order_c1_l4_s] at h
 refine run ?_
 refine G_seq ?_
 refine G_cond rfl (fun g8 => ?_) (fun g8 => ?_)
 ·replace h := cond_t g8 h
  refine run ?_
  refine G_joinF (fun s L => ∃ (p10 : Int) (p11 : σ), major_order_c1_j9 N (major_order_c1_l4 N fy a1 m4) fy p6 a1 p10 p11 = some r ∧ s = [(0, .func (.yield l) #[] #[]), (1, pV B1 0), (3, iV p10), (8, .slice A3 n3 c3), (9, iV (([0, 1] : List Int).length : Int)), (10, iV p6)] ∧ L = kO2 A3 n3 c3 ([0, 1] : List Int) :: kS5 A2 n2 c2 a1 :: rboxC B1 35 [.slice A2 n2 c2] :: (G p11)) ?_ ?_
  ·refine run ?_
   obtain ⟨x12, hx12, h⟩ := bind_elim h
   obtain ⟨lx12, ux12, hx12⟩ := getE_elim hx12
   refine gR (rd_idx 0 rfl els_own rfl rfl Tryz.underlying35 size3 lx12 ux12) ?_
   refine gR (rd_elem1 (u := iV x12) 0 rfl els_own rfl hx12 one3 (fun _ _ _ h => by rw [show _ = _ from h]; rfl)) ?_
   refine run ?_
   refine gR (rd_rbox1 2 rfl rfl one35 rfl) ?_
   refine gR (rd_len 1 rfl els_sl rfl Tryz.underlying35) ?_
   refine run ?_
   refine G_loopF (fun m s L => ∃ (p14 : Int) (p15 : Int) (p16 : σ), major_order_c1_l13 N (major_order_c1_l4 N fy a1 m4) fy x12 p6 a1 m p14 p15 p16 = some r ∧ s = [(0, .func (.yield l) #[] #[]), (1, pV B1 0), (3, iV p14), (5, iV x12), (8, .slice A3 n3 c3), (9, iV (([0, 1] : List Int).length : Int)), (10, iV p6), (14, .slice A2 n2 c2), (15, iV (a1.length : Int)), (16, iV p15)] ∧ L = kO2 A3 n3 c3 ([0, 1] : List Int) :: kS5 A2 n2 c2 a1 :: rboxC B1 35 [.slice A2 n2 c2] :: (G p16)) N _ _ ⟨p5, 0, p7, h, rfl, rfl⟩ sA (cv_sel [0, 1, 2] 3 rfl rfl) ?_
   rintro (_ | m13) _ _ ⟨p14, p15, p16, h, rfl, rfl⟩
   ·exact none_some h
   rw [major_order_c1_l13_s] at h
   refine run ?_
   refine G_seq ?_
   refine G_cond rfl (fun g17 => ?_) (fun g17 => ?_)
   ·replace h := cond_t g17 h
    refine run ?_
    refine G_joinF (fun s L => ∃ (p19 : Int) (p20 : σ), major_order_c1_j18 N (major_order_c1_l4 N fy a1 m4) (major_order_c1_l13 N (major_order_c1_l4 N fy a1 m4) fy x12 p6 a1 m13) fy x12 p6 a1 p15 p19 p20 = some r ∧ s = [(0, .func (.yield l) #[] #[]), (1, pV B1 0), (3, iV p19), (5, iV x12), (8, .slice A3 n3 c3), (9, iV (([0, 1] : List Int).length : Int)), (10, iV p6), (14, .slice A2 n2 c2), (15, iV (a1.length : Int)), (16, iV p15)] ∧ L = kO2 A3 n3 c3 ([0, 1] : List Int) :: kS5 A2 n2 c2 a1 :: rboxC B1 35 [.slice A2 n2 c2] :: (G p20)) ?_ ?_
    ·refine run ?_
     obtain ⟨x21, hx21, h⟩ := bind_elim h
     obtain ⟨lx21, ux21, hx21⟩ := getE_elim hx21
     refine gR (rd_idx 1 rfl els_sl rfl rfl Tryz.underlying35 size3 lx21 ux21) ?_
     refine gR (rd_elem1 (u := iV x21) 1 rfl els_sl rfl hx21 one3 (fun _ _ _ h => by rw [show _ = _ from h]; rfl)) ?_
     refine run ?_
     refine G_seq ?_
     refine run ?_
     refine gE (ev_rem rfl rfl (by decide)) ?_
     refine run ?_
     refine G_cond rfl (fun g22 => ?_) (fun g22 => ?_)
     ·replace h := cond_t g22 h
      refine run ?_
      exact ⟨_, _, ⟨p14, p16, h, rfl, rfl⟩, sA, cv_sel [0, 1, 2] 3 rfl rfl⟩
     ·replace h := cond_f g22 h
      refine run ?_
      refine G_seq ?_
      refine run ?_
      obtain ⟨y23, hy23, h⟩ := bind_elim h
      refine gD (op_yieldE (a := (p14, x21)) [kO2 A3 n3 c3 ([0, 1] : List Int), kS5 A2 n2 c2 a1, rboxC B1 35 [.slice A2 n2 c2]] hY hy23 rfl rfl) ?_
      rintro _ _ ⟨rfl, rfl⟩
      refine run ?_
      refine G_cond rfl (fun g24 => ?_) (fun g24 => ?_)
      ·replace h := cond_t g24 h
       refine run ?_
       obtain rfl := Option.some.inj h
       exact endG0 rfl (cv_sel [] 3 rfl rfl) ⟨rfl, rfl⟩
      ·replace h := cond_f g24 h
       refine run ?_
       obtain ⟨q25, h⟩ := req_elim h
       refine gE (ev_add rfl rfl q25.1 q25.2) ?_
       refine run ?_
       exact ⟨_, _, ⟨p14 + 1, y23.2, h, rfl, rfl⟩, sA, cv_sel [0, 1, 2] 3 rfl rfl⟩
    ·rintro _ _ ⟨p19, p20, h, rfl, rfl⟩
     refine G_region ?_
     obtain ⟨q26, h⟩ := req_elim h
     refine gE (ev_add rfl rfl q26.1 q26.2) ?_
     refine run ?_
     exact ⟨m13, _, _, Nat.lt_succ_self _, ⟨p19, p15 + 1, p20, h, rfl, rfl⟩, sA, cv_sel [0, 1, 2] 3 rfl rfl⟩
   ·replace h := cond_f g17 h
    refine run ?_
    exact ⟨_, _, ⟨p14, p16, h, rfl, rfl⟩, sA, cv_sel [0, 1, 2] 3 rfl rfl⟩
  ·rintro _ _ ⟨p10, p11, h, rfl, rfl⟩
   refine G_region ?_
   obtain ⟨q27, h⟩ := req_elim h
   refine gE (ev_add rfl rfl q27.1 q27.2) ?_
   refine run ?_
   exact ⟨m4, _, _, Nat.lt_succ_self _, ⟨p10, p6 + 1, p11, h, rfl, rfl⟩, sA, cv_sel [0, 1, 2] 3 rfl rfl⟩
 ·replace h := cond_f g8 h
  refine run ?_
  obtain rfl := Option.some.inj h
  exact endG0n rfl (cv_sel [] 3 rfl rfl) ⟨rfl, rfl⟩
def major_order_O (N : Nat) (a0 : (List Int)) : Option Unit :=
 some ()
theorem major_order_ok {N : Nat} {a0 : (List Int)} {r : Unit} (h : major_order_O N a0 = some r) {A1 : Option Addr} {n1 c1 : Nat} : Okc Tryz.prog 79 [.slice A1 n1 c1] ([kS5 A1 n1 c1 a0]) (fun (u : Value) (post : List Chunk) => ∃ B900, u = .func (.func 131) #[] #[pV B900 0] ∧ post = [boxC B900 35 [.slice A1 n1 c1]]) := by
 refine ok_E Tryz.func79 rfl rfl ?_
 simp only [envOf]
 refine run ?_
 refine gD (op_box rfl rfl) ?_
 rintro _ _ ⟨B2, rfl, rfl⟩
 refine run ?_
 refine gE (ev_makeFunc rfl) ?_
 refine run ?_
 obtain rfl := Option.some.inj h
 exact endG1 rfl rfl (cv_sel [0] 2 rfl rfl) ⟨_, rfl, rfl⟩
theorem major_order_free {A1 : Option Addr} {n1 : Nat} {c1 : Nat} : ∀ v post, ((fun (u : Value) (post : List Chunk) => ∃ B900, u = .func (.func 131) #[] #[pV B900 0] ∧ post = [boxC B900 35 [.slice A1 n1 c1]])) v post → ∀ c ∈ post, Free c := by
 rintro _ _ ⟨_, rfl, rfl⟩; exact mem_cons free_box (mem_nil)
def major_Places_b11 (N : Nat) (x11 : Int × Int) : ((List Int) × (List Int)) → Option (Option Exit × ((List Int) × (List Int)))
 |(p12, p13) => req (fitsL (p12.length + ([x11.2] : List Int).length)) (req (in64 (2 * x11.1)) (req (in64 ((2 * x11.1) + 2)) (req (fitsL (p13.length + ([(2 * x11.1) + 2] : List Int).length)) (some (none, (p12 ++ ([x11.2] : List Int), p13 ++ ([(2 * x11.1) + 2] : List Int)))))))
def major_Places_O (N : Nat) (a0 : DMemory) (a1 : (List DValue)) : Option ((List Int) × (List Int)) :=
 (reach_Live_O N a0 a1).bind fun y7 => (major_order_O N y7).bind fun y9 => (major_order_c1_O N y7 (liftR (fun x st => major_Places_b11 N x st)) (none, ([], []))).bind fun y14 => caseX y14.1 (some (y14.2.1, y14.2.2)) none (fun _ => none)
theorem major_Places_ok {N : Nat} {a0 : DMemory} {a1 : (List DValue)} {r : ((List Int) × (List Int))} (h : major_Places_O N a0 a1 = some r) {A1 : Option Addr} {n1 c1 : Nat} {A2 : Option Addr} {n2 c2 : Nat} {A3 : Option Addr} {n3 c3 : Nat} : Okc Tryz.prog 33 [.agg #[.slice A1 n1 c1, .slice A2 n2 c2], .slice A3 n3 c3] ([kS1 A1 n1 c1 a0.Young, kS1 A2 n2 c2 a0.Old, kS0 A3 n3 c3 a1]) (fun (u : Value) (post : List Chunk) => ∃ A0 n0 c0 A1 n1 c1, u = .tuple #[.slice A0 n0 c0, .slice A1 n1 c1] ∧ post = [kO2 A0 n0 c0 r.1, kO2 A1 n1 c1 r.2]) := by
 refine ok_E Tryz.func33 rfl rfl ?_
 simp only [envOf]
 refine run ?_
 refine gD (op_box rfl rfl) ?_
 rintro _ _ ⟨B4, rfl, rfl⟩
 refine gD (op_alloc zero35 rfl) ?_
 rintro _ _ ⟨B5, rfl, rfl⟩
 refine gD (op_alloc zero35 rfl) ?_
 rintro _ _ ⟨B6, rfl, rfl⟩
 refine run ?_
 refine G_seq ?_
 refine run ?_
 refine gR (rd_boxS (us := [.slice A1 n1 c1, .slice A2 n2 c2]) 2 rfl rfl agg24 rfl) ?_
 refine run ?_
 obtain ⟨y7, hy7, h⟩ := bind_elim h
 refine gD (op_callR (reach_Live_ok hy7) call23 rfl (mem_cons (lent_ro (i := 3) rfl rfl) (mem_cons (lent_ro (i := 4) rfl rfl) (mem_cons (lent_ro (i := 5) rfl rfl) mem_nil))) reach_Live_free) ?_
 rintro _ _ ⟨_, ⟨A8, n8, c8, rfl, rfl⟩, rfl⟩
 obtain ⟨y9, hy9, h⟩ := bind_elim h
 refine gD (op_callR (major_order_ok hy9) call79 rfl (mem_cons (lent_own (i := 0) rfl) mem_nil) major_order_free) ?_
 rintro _ _ ⟨_, ⟨B10, rfl, rfl⟩, rfl⟩
 refine G_nil ?_
 refine nx_n ?_
 refine G_sub ?_ sub_refl (cv_frzbox 0 rfl)
 refine G_sub ?_ sub_refl (cv_frz 1 rfl)
 obtain ⟨y14, hy14, h⟩ := bind_elim h
 refine G_rangeX (en := (fun x => [iV x.1, iV x.2])) (fun x st => major_Places_b11 N x st) (fun (st : (List Int) × (List Int)) (mz : ((Option Addr × Nat × Nat) × (Option Addr × Nat × Nat))) => [ownC (rInt .i64) 3 (.slice mz.1.1 mz.1.2.1 mz.1.2.2) st.1, boxC B5 35 [.slice mz.1.1 mz.1.2.1 mz.1.2.2], ownC (rInt .i64) 3 (.slice mz.2.1 mz.2.2.1 mz.2.2.2) st.2, boxC B6 35 [.slice mz.2.1 mz.2.2.1 mz.2.2.2]]) [rboxC B10 35 [.slice A8 n8 c8], kS5 A8 n8 c8 y7] (([], [])) (((none, 0, 0), (none, 0, 0))) rfl rfl call131 rfl (fun _ => rfl) (fun l G hY => (major_order_c1_ok hy14 hY).mono fun _ _ hh => hh.2) ((cv_nil (rInt .i64) 3 _).trans ((cv_nil (rInt .i64) 3 _).trans (cv_take [2, 3] [] [1, 5, 0, 4] 10 rfl))) h ?_ ?_ ?_ ?_
 ·rintro l x11 ⟨p12, p13⟩ je sr11 ⟨⟨A12, n12, c12⟩, ⟨A13, n13, c13⟩⟩ h
  replace h : major_Places_b11 N x11 (p12, p13) = some (je, sr11) := h
  simp only [envR, List.zip_cons_cons, List.zip_nil_left, List.zip_nil_right, List.reverse_cons, List.reverse_nil, List.nil_append, List.cons_append]
  refine run ?_
  obtain ⟨q19, h⟩ := req_elim h
  obtain ⟨q22, h⟩ := req_elim h
  obtain ⟨q23, h⟩ := req_elim h
  refine G_sub (t := [(4, pV B5 0), (5, pV B6 0), (6, iV x11.1), (7, iV x11.2)]) ?_ subT (cv_refl _)
  refine G_monoX (L := [boxC B5 35 [.slice A12 n12 c12], kO2 A13 n13 c13 p13, boxC B6 35 [.slice A13 n13 c13]]) (by kernel_rfl) 9 [] [3, 4, 8] [14, 15, 16, 17, 18, 19, 20, 21, 22] [[], [], [1], [0, 2], [], [], [5], [6], [7]] [aV (.slice A12 n12 c12),
 aV (iV x11.2),
 aX3 (fun (A18 : Option Addr) (n18 c18 : Nat) => .slice A18 n18 c18) (fun A18 n18 c18 => [kO2 A18 n18 c18 ([x11.2] : List Int)]),
 aX3 (fun (A21 : Option Addr) (n21 c21 : Nat) => .slice A21 n21 c21) (fun A21 n21 c21 => [kO2 A21 n21 c21 (p12 ++ ([x11.2] : List Int))]),
 aV (.slice A13 n13 c13),
 aV (iV x11.1),
 aV (iV (2 * x11.1)),
 aV (iV ((2 * x11.1) + 2)),
 aX3 (fun (A25 : Option Addr) (n25 c25 : Nat) => .slice A25 n25 c25) (fun A25 n25 c25 => [kO2 A25 n25 c25 ([(2 * x11.1) + 2] : List Int)])] [[], [], [], [kO2 A12 n12 c12 p12]] (cv_sel [0, 1, 2, 3] 4 rfl rfl) (qB_nil) (by kernel_rfl) rfl rfl ?_ ?_ ?_
  ·exact qs_nil
  ·refine steps_cons rfl ?_ ?_
   ·refine X_op (op_bslice (R := (rInt .i64)) (vss := [[iV ((2 * x11.1) + 2)]]) (xs := [(2 * x11.1) + 2]) rfl (bsl_35_1 _) rfl rfl (fun _ _ hr => .cons rfl All2.nil)) rfl ?_
    rintro _ _ ⟨A24, n24, c24, rfl, rfl⟩
    exact cvp3 A24 n24 c24 (cv_refl _)
   refine steps_cons rfl ?_ ?_
   ·exact X_ev (ev_add rfl rfl q23.1 q23.2) rfl (cvpV rfl (cv_refl _))
   refine steps_cons rfl ?_ ?_
   ·exact X_ev (ev_mul rfl rfl q22.1 q22.2) rfl (cvpV rfl (cv_refl _))
   refine steps_cons rfl ?_ ?_
   ·exact X_ev (ev_move rfl) rfl (cvpV rfl (cv_refl _))
   refine steps_cons rfl ?_ ?_
   ·exact X_rd (rd_box1 2 rfl rfl one35 rfl) rfl (cvpV rfl (cv_refl _))
   refine steps_cons rfl ?_ ?_
   ·intro A18 n18 c18
    refine X_op (op_append 1 0 rfl rfl els_own rfl rfl Tryz.underlying35 zb3 rfl rfl q19) rfl ?_
    rintro _ _ ⟨A20, n20, c20, rfl, rfl⟩
    exact cvp3 A20 n20 c20 (cv_sel [1, 0, 2, 3, 4] 5 rfl rfl)
   refine steps_cons rfl ?_ ?_
   ·refine X_op (op_bslice (R := (rInt .i64)) (vss := [[iV x11.2]]) (xs := [x11.2]) rfl (bsl_35_1 _) rfl rfl (fun _ _ hr => .cons rfl All2.nil)) rfl ?_
    rintro _ _ ⟨A17, n17, c17, rfl, rfl⟩
    exact cvp3 A17 n17 c17 (cv_refl _)
   refine steps_cons rfl ?_ ?_
   ·exact X_ev (ev_move rfl) rfl (cvpV rfl (cv_refl _))
   refine steps_cons rfl ?_ ?_
   ·exact X_rd (rd_box1 0 rfl rfl one35 rfl) rfl (cvpV rfl (cv_refl _))
   exact steps_nil
  ·intro A21 n21 c21 A25 n25 c25
   refine N_sub (t := [(17, .slice A21 n21 c21), (18, .slice A13 n13 c13), (22, .slice A25 n25 c25), (4, pV B5 0), (5, pV B6 0), (6, iV x11.1), (7, iV x11.2)]) (L' := [kO2 A21 n21 c21 (p12 ++ ([x11.2] : List Int)), kO2 A25 n25 c25 ([(2 * x11.1) + 2] : List Int), boxC B5 35 [.slice A12 n12 c12], kO2 A13 n13 c13 p13, boxC B6 35 [.slice A13 n13 c13]]) ?_ subT (cv_refl _)
   obtain ⟨q26, h⟩ := req_elim h
   refine N_opd 9 rfl (by kernel_rfl) (op_append 3 1 rfl rfl els_own rfl rfl Tryz.underlying35 zb3 rfl rfl q26) rfl rfl rfl ?_
   rintro _ _ ⟨A27, n27, c27, rfl, rfl⟩
   refine N_norm ([kO2 A21 n21 c21 (p12 ++ ([x11.2] : List Int)), kO2 A25 n25 c25 ([(2 * x11.1) + 2] : List Int), boxC B5 35 [.slice A12 n12 c12], kO2 A27 n27 c27 (p13 ++ ([(2 * x11.1) + 2] : List Int)), boxC B6 35 [.slice A13 n13 c13]]) rfl ?_
   refine N_opn 10 rfl (by kernel_rfl) (op_store (us := [.slice A21 n21 c21]) (cs' := [.slice A21 n21 c21]) 2 rfl rfl rfl rfl size35 rfl rfl rfl) rfl rfl ?_
   rintro _ _ rfl
   refine N_opn 11 rfl (by kernel_rfl) (op_store (us := [.slice A27 n27 c27]) (cs' := [.slice A27 n27 c27]) 4 rfl rfl rfl rfl size35 rfl rfl rfl) rfl rfl ?_
   rintro _ _ rfl
   refine N_done (by kernel_rfl) ?_
   refine bk_n ?_
   obtain ⟨rfl, rfl⟩ := Prod.mk.inj (Option.some.inj h)
   exact RK_n ((cv_sel [0, 2, 3, 4] 5 rfl rfl).trans (cv_pack1 ((A21, n21, c21), (A27, n27, c27)) rfl))
 ·rintro ⟨⟨A12, n12, c12⟩, ⟨A13, n13, c13⟩⟩ h
  refine K3_norm ([kO2 A12 n12 c12 y14.2.1, boxC B5 35 [.slice A12 n12 c12], kO2 A13 n13 c13 y14.2.2, boxC B6 35 [.slice A13 n13 c13]]) rfl ?_
  refine run ?_
  refine G_seq ?_
  refine G_drawn (by kernel_rfl) _ (cv_refl _) ?_
  refine T3_rd 0 rfl (by kernel_rfl) (rd_box1 1 rfl rfl one35 rfl) rfl rfl ?_
  refine T3_rd 1 rfl (by kernel_rfl) (rd_box1 3 rfl rfl one35 rfl) rfl rfl ?_
  refine T3_opn 2 rfl (by kernel_rfl) (op_store (us := [.slice A12 n12 c12]) (cs' := [.slice A12 n12 c12]) 1 rfl rfl rfl rfl size35 rfl rfl rfl) rfl rfl ?_
  rintro _ _ rfl
  refine ⟨_, cv_refl _, cv_refl _, ?_⟩
  refine T3_norm ([kO2 A12 n12 c12 y14.2.1, boxC B5 35 [.slice A12 n12 c12], kO2 A13 n13 c13 y14.2.2, boxC B6 35 [.slice A13 n13 c13]]) rfl ?_
  refine T3_opn 3 rfl (by kernel_rfl) (op_store (us := [.slice A13 n13 c13]) (cs' := [.slice A13 n13 c13]) 3 rfl rfl rfl rfl size35 rfl rfl rfl) rfl rfl ?_
  rintro _ _ rfl
  refine ⟨_, cv_refl _, cv_refl _, ?_⟩
  refine T3_norm ([kO2 A12 n12 c12 y14.2.1, boxC B5 35 [.slice A12 n12 c12], kO2 A13 n13 c13 y14.2.2, boxC B6 35 [.slice A13 n13 c13]]) rfl ?_
  refine T3_done (by kernel_rfl) ?_
  refine run ?_
  obtain rfl := Option.some.inj h
  exact endGl (rs := [.cell 4 35, .cell 5 35]) (vs := [.slice A12 n12 c12, .slice A13 n13 c13]) rfl (.cons (rv_box1 1 rfl rfl one35) (.cons (rv_box1 3 rfl rfl one35) .nil)) rfl (cv_sel [0, 2] 4 rfl rfl) ⟨_, _, _, _, _, _, rfl, rfl⟩
 ·rintro ⟨⟨A12, n12, c12⟩, ⟨A13, n13, c13⟩⟩ h
  exact none_some h
 ·rintro i ⟨⟨A12, n12, c12⟩, ⟨A13, n13, c13⟩⟩ h
  exact none_some h
theorem major_Places_free {r : ((List Int) × (List Int))} : ∀ v post, ((fun (u : Value) (post : List Chunk) => ∃ A0 n0 c0 A1 n1 c1, u = .tuple #[.slice A0 n0 c0, .slice A1 n1 c1] ∧ post = [kO2 A0 n0 c0 r.1, kO2 A1 n1 c1 r.2])) v post → ∀ c ∈ post, Free c := by
 rintro _ _ ⟨_, _, _, _, _, _, rfl, rfl⟩; exact mem_cons free_own (mem_cons free_own (mem_nil))
def major_check_c1_O (N : Nat) (a0 : Int) (a1 : DMemory) : Option Bool :=
 (reach_Has_O N a1 a0).bind fun y4 => some (!y4)
theorem major_check_c1_ok {N : Nat} {a0 : Int} {a1 : DMemory} {r : Bool} (h : major_check_c1_O N a0 a1 = some r) {B1 : Nat} {A2 : Option Addr} {n2 c2 : Nat} {A3 : Option Addr} {n3 c3 : Nat} : Okc Tryz.prog 130 [iV a0, pV B1 0] ([rboxC B1 24 [.slice A2 n2 c2, .slice A3 n3 c3], kS1 A2 n2 c2 a1.Young, kS1 A3 n3 c3 a1.Old]) (fun (u : Value) (post : List Chunk) => u = .bool r ∧ post = []) := by
 refine ok_E Tryz.func130 rfl rfl ?_
 simp only [envOf]
 refine run ?_
 refine gR (rd_rboxS (us := [.slice A2 n2 c2, .slice A3 n3 c3]) 0 rfl rfl agg24 rfl) ?_
 refine run ?_
 obtain ⟨y4, hy4, h⟩ := bind_elim h
 refine gD (op_callR (reach_Has_ok hy4) call13 rfl (mem_cons (lent_ro (i := 1) rfl rfl) (mem_cons (lent_ro (i := 2) rfl rfl) mem_nil)) reach_Has_free) ?_
 rintro _ _ ⟨_, ⟨rfl, rfl⟩, rfl⟩
 refine run ?_
 obtain rfl := Option.some.inj h
 exact endG1 rfl rfl (cv_sel [] 3 rfl rfl) ⟨rfl, rfl⟩
end Go.Proofs.YtmbaennilhdieaaGreat
/- Pure functions and contracts of Go functions (printed by all3.py). -/
namespace Go.Proofs.YtmbaennilhdieaaGreat
open Go.RowKit Asn
set_option maxRecDepth 20000
def major_check_j38 (N : Nat) (a0 : DMemory) (p39 : (List Int)) : Option Int :=
 (slices_ContainsFunc_O N p39 (fun x => major_check_c1_O N x a0)).bind fun y54 => bif y54 then (some 50) else (some 0)
def major_check_j44 (N : Nat) (kb40 : (List Int) → Int → Option Int) (a1 : (List DValue)) (p42 : Int) (a0 : DMemory) (p45 : (List Int)) : Option Int :=
 req (in64 (p42 + 1)) (kb40 p45 (p42 + 1))
def major_check_l40 (N : Nat) (a1 : (List DValue)) (a0 : DMemory) : Nat → (List Int) → Int → Option Int
 | 0, _, _ => none
 | m40 + 1, p41, p42 => bif decide (p42 < (a1.length : Int)) then ((getE a1 p42).bind fun x46 => (bif decide (x46.Kind = 7) then (some true) else (some (decide (x46.Kind = 9)))).bind fun b48 => bif b48 then (req (fitsL (p41.length + ([x46.N] : List Int).length)) (major_check_j44 N (major_check_l40 N a1 a0 m40) a1 p42 a0 (p41 ++ ([x46.N] : List Int)))) else (major_check_j44 N (major_check_l40 N a1 a0 m40) a1 p42 a0 p41)) else (major_check_j38 N a0 p41)
theorem major_check_l40_s {N m40 : Nat} {a1 : (List DValue)} {a0 : DMemory} {p41 : (List Int)} {p42 : Int} : major_check_l40 N a1 a0 (m40 + 1) p41 p42 = bif decide (p42 < (a1.length : Int)) then ((getE a1 p42).bind fun x46 => (bif decide (x46.Kind = 7) then (some true) else (some (decide (x46.Kind = 9)))).bind fun b48 => bif b48 then (req (fitsL (p41.length + ([x46.N] : List Int).length)) (major_check_j44 N (major_check_l40 N a1 a0 m40) a1 p42 a0 (p41 ++ ([x46.N] : List Int)))) else (major_check_j44 N (major_check_l40 N a1 a0 m40) a1 p42 a0 p41)) else (major_check_j38 N a0 p41) := rfl
def major_check_j5 (N : Nat) (a1 : (List DValue)) (a0 : DMemory) (p6 : (List Int)) : Option Int :=
 major_check_l40 N a1 a0 N p6 0
def major_check_j13 (N : Nat) (kb8 : (List Int) → Int → Option Int) (a0 : DMemory) (p10 : Int) (a1 : (List DValue)) (p14 : (List Int)) : Option Int :=
 req (in64 (p10 + 1)) (kb8 p14 (p10 + 1))
def major_check_l17 (N : Nat) (kb8 : (List Int) → Int → Option Int) (a0 : DMemory) (p10 : Int) (x15 : (List DCell)) (a1 : (List DValue)) : Nat → (List Int) → Int → Option Int
 | 0, _, _ => none
 | m17 + 1, p18, p19 => bif decide (p19 < (x15.length : Int)) then ((getE x15 p19).bind fun x21 => (cell_Right_O N x21).bind fun y26 => bif !y26 then (some 51) else ((cell_Leads_O N x21).bind fun y28 => req (fitsL (p18.length + y28.length)) ((cell_Weakly_O N x21).bind fun y32 => req (fitsL ((p18 ++ y28).length + y32.length)) (req (in64 (p19 + 1)) ((major_check_l17 N kb8 a0 p10 x15 a1 m17) ((p18 ++ y28) ++ y32) (p19 + 1)))))) else (major_check_j13 N kb8 a0 p10 a1 p18)
theorem major_check_l17_s {N m17 : Nat} {kb8 : (List Int) → Int → Option Int} {a0 : DMemory} {p10 : Int} {x15 : (List DCell)} {a1 : (List DValue)} {p18 : (List Int)} {p19 : Int} : major_check_l17 N kb8 a0 p10 x15 a1 (m17 + 1) p18 p19 = bif decide (p19 < (x15.length : Int)) then ((getE x15 p19).bind fun x21 => (cell_Right_O N x21).bind fun y26 => bif !y26 then (some 51) else ((cell_Leads_O N x21).bind fun y28 => req (fitsL (p18.length + y28.length)) ((cell_Weakly_O N x21).bind fun y32 => req (fitsL ((p18 ++ y28).length + y32.length)) (req (in64 (p19 + 1)) ((major_check_l17 N kb8 a0 p10 x15 a1 m17) ((p18 ++ y28) ++ y32) (p19 + 1)))))) else (major_check_j13 N kb8 a0 p10 a1 p18) := rfl
def major_check_l8 (N : Nat) (a0 : DMemory) (a1 : (List DValue)) : Nat → (List Int) → Int → Option Int
 | 0, _, _ => none
 | m8 + 1, p9, p10 => bif decide (p10 < (([a0.Young, a0.Old] : List (List DCell)).length : Int)) then ((getE ([a0.Young, a0.Old] : List (List DCell)) p10).bind fun x15 => major_check_l17 N (major_check_l8 N a0 a1 m8) a0 p10 x15 a1 N p9 0) else (major_check_j5 N a1 a0 p9)
theorem major_check_l8_s {N m8 : Nat} {a0 : DMemory} {a1 : (List DValue)} {p9 : (List Int)} {p10 : Int} : major_check_l8 N a0 a1 (m8 + 1) p9 p10 = bif decide (p10 < (([a0.Young, a0.Old] : List (List DCell)).length : Int)) then ((getE ([a0.Young, a0.Old] : List (List DCell)) p10).bind fun x15 => major_check_l17 N (major_check_l8 N a0 a1 m8) a0 p10 x15 a1 N p9 0) else (major_check_j5 N a1 a0 p9) := rfl
def major_check_O (N : Nat) (a0 : DMemory) (a1 : (List DValue)) : Option Int :=
 major_check_l8 N a0 a1 N [] 0
theorem major_check_ok {N : Nat} {a0 : DMemory} {a1 : (List DValue)} {r : Int} (h : major_check_O N a0 a1 = some r) {A1 : Option Addr} {n1 c1 : Nat} {A2 : Option Addr} {n2 c2 : Nat} {A3 : Option Addr} {n3 c3 : Nat} : Okc Tryz.prog 78 [.agg #[.slice A1 n1 c1, .slice A2 n2 c2], .slice A3 n3 c3] ([kS1 A1 n1 c1 a0.Young, kS1 A2 n2 c2 a0.Old, kS0 A3 n3 c3 a1]) (fun (u : Value) (post : List Chunk) => u = iV r ∧ post = []) := by
 refine ok_E Tryz.func78 rfl rfl ?_
 simp only [envOf]
 refine run ?_
 refine gD (op_box rfl rfl) ?_
 rintro _ _ ⟨B4, rfl, rfl⟩
 refine run ?_
 refine G_joinF (fun s L => ∃ (p6 : (List Int)) (A6 : Option Addr) (n6 c6 : Nat), major_check_j5 N a1 a0 p6 = some r ∧ s = [(1, .slice A3 n3 c3), (2, pV B4 0), (4, iV 0), (5, .slice A6 n6 c6)] ∧ L = [kS0 A3 n3 c3 a1, kO2 A6 n6 c6 p6, kS1 A1 n1 c1 a0.Young, kS1 A2 n2 c2 a0.Old, boxC B4 24 [.slice A1 n1 c1, .slice A2 n2 c2]]) ?_ ?_
 ·refine run ?_
  refine gD (op_bslice (R := (Rep.sl rDCell)) (vss := [[.slice A1 n1 c1], [.slice A2 n2 c2]]) (xs := [a0.Young, a0.Old]) rfl (bsl_66_2 _ _ _ _ _ _) rfl rfl (fun _ _ hr => .cons (⟨_, rfl, hr 1 _ rfl rfl⟩) (.cons (⟨_, rfl, hr 2 _ rfl rfl⟩) All2.nil))) ?_
  rintro _ _ ⟨A7, n7, c7, rfl, rfl⟩
  refine gR (rd_len 0 rfl els_own rfl Tryz.underlying66) ?_
  refine run ?_
  refine G_loopF (fun m s L => ∃ (p9 : (List Int)) (p10 : Int) (A9 : Option Addr) (n9 c9 : Nat), major_check_l8 N a0 a1 m p9 p10 = some r ∧ s = [(1, .slice A3 n3 c3), (2, pV B4 0), (4, iV 0), (5, .slice A9 n9 c9), (16, .slice A7 n7 c7), (17, iV (([a0.Young, a0.Old] : List (List DCell)).length : Int)), (18, iV p10)] ∧ L = [kS0 A3 n3 c3 a1, kO2 A9 n9 c9 p9, ownC (Rep.sl rDCell) 22 (.slice A7 n7 c7) ([a0.Young, a0.Old] : List (List DCell)), kS1 A1 n1 c1 a0.Young, kS1 A2 n2 c2 a0.Old, boxC B4 24 [.slice A1 n1 c1, .slice A2 n2 c2]]) N _ _ ⟨[], 0, none, 0, 0, h, rfl, rfl⟩ sA ((cv_nil (rInt .i64) 3 _).trans (cv_sel [5, 0, 1, 3, 4, 2] 6 rfl rfl)) ?_
  rintro (_ | m8) _ _ ⟨p9, p10, A9, n9, c9, h, rfl, rfl⟩
  ·exact none_some h
  rw [major_check_l8_s] at h
  refine run ?_
  refine G_seq ?_
  refine G_cond rfl (fun g12 => ?_) (fun g12 => ?_)
  ·replace h := cond_t g12 h
   refine run ?_
   refine G_joinF (fun s L => ∃ (p14 : (List Int)) (A14 : Option Addr) (n14 c14 : Nat), major_check_j13 N (major_check_l8 N a0 a1 m8) a0 p10 a1 p14 = some r ∧ s = [(1, .slice A3 n3 c3), (2, pV B4 0), (4, iV 0), (5, .slice A14 n14 c14), (16, .slice A7 n7 c7), (17, iV (([a0.Young, a0.Old] : List (List DCell)).length : Int)), (18, iV p10)] ∧ L = [kS0 A3 n3 c3 a1, kO2 A14 n14 c14 p14, ownC (Rep.sl rDCell) 22 (.slice A7 n7 c7) ([a0.Young, a0.Old] : List (List DCell)), kS1 A1 n1 c1 a0.Young, kS1 A2 n2 c2 a0.Old, boxC B4 24 [.slice A1 n1 c1, .slice A2 n2 c2]]) ?_ ?_
   ·refine run ?_
    obtain ⟨x15, hx15, h⟩ := bind_elim h
    obtain ⟨lx15, ux15, hx15⟩ := getE_elim hx15
    refine gR (rd_idx 2 rfl els_own rfl rfl Tryz.underlying66 size22 lx15 ux15) ?_
    refine gD (op_elemL (R' := rDCell) (ys := x15) 2 rfl els_own rfl hx15 one22 (fun _ _ _ h => by obtain ⟨u, e, k⟩ := h; exact ⟨u, by rw [e]; rfl, k⟩)) ?_
    rintro _ _ ⟨A16, n16, c16, rfl, rfl⟩
    refine run ?_
    refine gR (rd_len 0 rfl els_sl rfl Tryz.underlying22) ?_
    refine run ?_
    refine G_loopF (fun m s L => ∃ (p18 : (List Int)) (p19 : Int) (A18 : Option Addr) (n18 c18 : Nat), major_check_l17 N (major_check_l8 N a0 a1 m8) a0 p10 x15 a1 m p18 p19 = some r ∧ s = [(1, .slice A3 n3 c3), (2, pV B4 0), (4, iV 0), (5, .slice A18 n18 c18), (16, .slice A7 n7 c7), (17, iV (([a0.Young, a0.Old] : List (List DCell)).length : Int)), (18, iV p10), (22, .slice A16 n16 c16), (23, iV (x15.length : Int)), (24, iV p19)] ∧ L = [kS0 A3 n3 c3 a1, kO2 A18 n18 c18 p18, ownC (Rep.sl rDCell) 22 (.slice A7 n7 c7) ([a0.Young, a0.Old] : List (List DCell)), kS1 A16 n16 c16 x15, kS1 A1 n1 c1 a0.Young, kS1 A2 n2 c2 a0.Old, boxC B4 24 [.slice A1 n1 c1, .slice A2 n2 c2]]) N _ _ ⟨p9, 0, A9, n9, c9, h, rfl, rfl⟩ sA (cv_sel [1, 2, 3, 0, 4, 5, 6] 7 rfl rfl) ?_
    rintro (_ | m17) _ _ ⟨p18, p19, A18, n18, c18, h, rfl, rfl⟩
    ·exact none_some h
    rw [major_check_l17_s] at h
    refine run ?_
    refine G_seq ?_
    refine G_cond rfl (fun g20 => ?_) (fun g20 => ?_)
    ·replace h := cond_t g20 h
     refine run ?_
     refine G_seq ?_
     refine run ?_
     obtain ⟨x21, hx21, h⟩ := bind_elim h
     obtain ⟨lx21, ux21, hx21⟩ := getE_elim hx21
     refine gR (rd_idx 3 rfl els_sl rfl rfl Tryz.underlying22 size32 lx21 ux21) ?_
     refine G_row 3 rfl hx21 (open_DCell x21) ?_
     rintro _ _ ⟨A22, n22, c22, A23, n23, c23, rfl, rfl⟩
     refine gR (rd_rowS (us := [iV x21.Kind, iV x21.Shape, iV x21.Flags, iV x21.Age, .slice A22 n22 c22, .slice A23 n23 c23]) 0 rfl rfl agg32 rfl) ?_
     refine gD (op_alloc zero32 rfl) ?_
     rintro _ _ ⟨B25, rfl, rfl⟩
     refine gO (op_store (us := [iV x21.Kind, iV x21.Shape, iV x21.Flags, iV x21.Age, .slice A22 n22 c22, .slice A23 n23 c23]) (cs' := [iV x21.Kind, iV x21.Shape, iV x21.Flags, iV x21.Age, .slice A22 n22 c22, .slice A23 n23 c23]) 0 rfl rfl rfl rfl size32 rfl rfl rfl) ?_
     rintro _ _ rfl
     refine run ?_
     refine G_seq ?_
     refine run ?_
     refine gR (rd_boxS (us := [iV x21.Kind, iV x21.Shape, iV x21.Flags, iV x21.Age, .slice A22 n22 c22, .slice A23 n23 c23]) 0 rfl rfl agg32 rfl) ?_
     obtain ⟨y26, hy26, h⟩ := bind_elim h
     refine gD (op_callR (cell_Right_ok hy26) call53 rfl (mem_cons (lent_ro (i := 2) rfl rfl) (mem_cons (lent_ro (i := 3) rfl rfl) mem_nil)) cell_Right_free) ?_
     rintro _ _ ⟨_, ⟨rfl, rfl⟩, rfl⟩
     refine run ?_
     refine G_cond rfl (fun g27 => ?_) (fun g27 => ?_)
     ·replace h := cond_t g27 h
      refine run ?_
      obtain rfl := Option.some.inj h
      exact endG1 rfl rfl (cv_sel [] 11 rfl rfl) ⟨rfl, rfl⟩
     ·replace h := cond_f g27 h
      refine run ?_
      refine G_drawn (by kernel_rfl) ([boxC B25 32 [iV x21.Kind, iV x21.Shape, iV x21.Flags, iV x21.Age, .slice A22 n22 c22, .slice A23 n23 c23], rowC (elemQ (.slice A16 n16 c16) p19.toNat 6 0) [iV x21.Kind, iV x21.Shape, iV x21.Flags, iV x21.Age, .slice A22 n22 c22, .slice A23 n23 c23], kS0 A22 n22 c22 x21.Slots, kS0 A23 n23 c23 x21.More, kS0 A3 n3 c3 a1, ownC (Rep.sl rDCell) 22 (.slice A7 n7 c7) ([a0.Young, a0.Old] : List (List DCell)), kS1 A16 n16 c16 x15, kS1 A1 n1 c1 a0.Young, kS1 A2 n2 c2 a0.Old, boxC B4 24 [.slice A1 n1 c1, .slice A2 n2 c2]]) (cv_sel [0, 1, 2, 3, 4, 6, 7, 8, 9, 10] 11 rfl rfl) ?_
      refine T3_ev 0 rfl (by kernel_rfl) (ev_move rfl) rfl rfl ?_
      refine T3_rd 1 rfl (by kernel_rfl) (rd_boxS (us := [iV x21.Kind, iV x21.Shape, iV x21.Flags, iV x21.Age, .slice A22 n22 c22, .slice A23 n23 c23]) 0 rfl rfl agg32 rfl) rfl rfl ?_
      refine T3_rd 4 rfl (by kernel_rfl) (rd_boxS (us := [iV x21.Kind, iV x21.Shape, iV x21.Flags, iV x21.Age, .slice A22 n22 c22, .slice A23 n23 c23]) 0 rfl rfl agg32 rfl) rfl rfl ?_
      obtain ⟨y28, hy28, h⟩ := bind_elim h
      refine T3_opd 2 rfl (by kernel_rfl) (op_callR (cell_Leads_ok hy28) call55 rfl (mem_cons (lent_ro (i := 2) rfl rfl) (mem_cons (lent_ro (i := 3) rfl rfl) mem_nil)) cell_Leads_free) rfl rfl rfl ?_
      rintro _ _ ⟨_, ⟨A29, n29, c29, rfl, rfl⟩, rfl⟩
      refine ⟨[boxC B25 32 [iV x21.Kind, iV x21.Shape, iV x21.Flags, iV x21.Age, .slice A22 n22 c22, .slice A23 n23 c23], rowC (elemQ (.slice A16 n16 c16) p19.toNat 6 0) [iV x21.Kind, iV x21.Shape, iV x21.Flags, iV x21.Age, .slice A22 n22 c22, .slice A23 n23 c23], kS0 A22 n22 c22 x21.Slots, kS0 A23 n23 c23 x21.More, kS0 A3 n3 c3 a1, ownC (Rep.sl rDCell) 22 (.slice A7 n7 c7) ([a0.Young, a0.Old] : List (List DCell)), kS1 A16 n16 c16 x15, kS1 A1 n1 c1 a0.Young, kS1 A2 n2 c2 a0.Old, boxC B4 24 [.slice A1 n1 c1, .slice A2 n2 c2]], cv_sel [1, 2, 3, 4, 5, 7, 8, 9, 10, 11] 12 rfl rfl, cv_refl _, ?_⟩
      obtain ⟨q30, h⟩ := req_elim h
      refine T3_opd 3 rfl (by kernel_rfl) (op_append 6 0 rfl rfl els_own rfl rfl Tryz.underlying35 zb3 rfl rfl q30) rfl rfl rfl ?_
      rintro _ _ ⟨A31, n31, c31, rfl, rfl⟩
      refine ⟨[boxC B25 32 [iV x21.Kind, iV x21.Shape, iV x21.Flags, iV x21.Age, .slice A22 n22 c22, .slice A23 n23 c23], rowC (elemQ (.slice A16 n16 c16) p19.toNat 6 0) [iV x21.Kind, iV x21.Shape, iV x21.Flags, iV x21.Age, .slice A22 n22 c22, .slice A23 n23 c23], kS0 A22 n22 c22 x21.Slots, kS0 A23 n23 c23 x21.More, kS0 A3 n3 c3 a1, ownC (Rep.sl rDCell) 22 (.slice A7 n7 c7) ([a0.Young, a0.Old] : List (List DCell)), kS1 A16 n16 c16 x15, kS1 A1 n1 c1 a0.Young, kS1 A2 n2 c2 a0.Old, boxC B4 24 [.slice A1 n1 c1, .slice A2 n2 c2]], cv_sel [1, 2, 3, 4, 5, 7, 8, 9, 10, 11] 12 rfl rfl, cv_refl _, ?_⟩
      refine T3_norm ([kO2 A29 n29 c29 y28, boxC B25 32 [iV x21.Kind, iV x21.Shape, iV x21.Flags, iV x21.Age, .slice A22 n22 c22, .slice A23 n23 c23], rowC (elemQ (.slice A16 n16 c16) p19.toNat 6 0) [iV x21.Kind, iV x21.Shape, iV x21.Flags, iV x21.Age, .slice A22 n22 c22, .slice A23 n23 c23], kS0 A22 n22 c22 x21.Slots, kS0 A23 n23 c23 x21.More, kS0 A3 n3 c3 a1, kO2 A31 n31 c31 (p18 ++ y28), ownC (Rep.sl rDCell) 22 (.slice A7 n7 c7) ([a0.Young, a0.Old] : List (List DCell)), kS1 A16 n16 c16 x15, kS1 A1 n1 c1 a0.Young, kS1 A2 n2 c2 a0.Old, boxC B4 24 [.slice A1 n1 c1, .slice A2 n2 c2]]) rfl ?_
      obtain ⟨y32, hy32, h⟩ := bind_elim h
      refine T3_opd 5 rfl (by kernel_rfl) (op_callR (cell_Weakly_ok hy32) call56 rfl (mem_cons (lent_ro (i := 3) rfl rfl) (mem_cons (lent_ro (i := 4) rfl rfl) mem_nil)) cell_Weakly_free) rfl rfl rfl ?_
      rintro _ _ ⟨_, ⟨A33, n33, c33, rfl, rfl⟩, rfl⟩
      refine ⟨[boxC B25 32 [iV x21.Kind, iV x21.Shape, iV x21.Flags, iV x21.Age, .slice A22 n22 c22, .slice A23 n23 c23], rowC (elemQ (.slice A16 n16 c16) p19.toNat 6 0) [iV x21.Kind, iV x21.Shape, iV x21.Flags, iV x21.Age, .slice A22 n22 c22, .slice A23 n23 c23], kS0 A22 n22 c22 x21.Slots, kS0 A23 n23 c23 x21.More, kS0 A3 n3 c3 a1, ownC (Rep.sl rDCell) 22 (.slice A7 n7 c7) ([a0.Young, a0.Old] : List (List DCell)), kS1 A16 n16 c16 x15, kS1 A1 n1 c1 a0.Young, kS1 A2 n2 c2 a0.Old, boxC B4 24 [.slice A1 n1 c1, .slice A2 n2 c2]], cv_sel [2, 3, 4, 5, 6, 8, 9, 10, 11, 12] 13 rfl rfl, cv_refl _, ?_⟩
      obtain ⟨q34, h⟩ := req_elim h
      refine T3_opd 6 rfl (by kernel_rfl) (op_append 7 0 rfl rfl els_own rfl rfl Tryz.underlying35 zb3 rfl rfl q34) rfl rfl rfl ?_
      rintro _ _ ⟨A35, n35, c35, rfl, rfl⟩
      refine ⟨[boxC B25 32 [iV x21.Kind, iV x21.Shape, iV x21.Flags, iV x21.Age, .slice A22 n22 c22, .slice A23 n23 c23], rowC (elemQ (.slice A16 n16 c16) p19.toNat 6 0) [iV x21.Kind, iV x21.Shape, iV x21.Flags, iV x21.Age, .slice A22 n22 c22, .slice A23 n23 c23], kS0 A22 n22 c22 x21.Slots, kS0 A23 n23 c23 x21.More, kS0 A3 n3 c3 a1, ownC (Rep.sl rDCell) 22 (.slice A7 n7 c7) ([a0.Young, a0.Old] : List (List DCell)), kS1 A16 n16 c16 x15, kS1 A1 n1 c1 a0.Young, kS1 A2 n2 c2 a0.Old, boxC B4 24 [.slice A1 n1 c1, .slice A2 n2 c2]], cv_sel [2, 3, 4, 5, 6, 8, 9, 10, 11, 12] 13 rfl rfl, cv_refl _, ?_⟩
      refine T3_norm ([kO2 A33 n33 c33 y32, kO2 A29 n29 c29 y28, boxC B25 32 [iV x21.Kind, iV x21.Shape, iV x21.Flags, iV x21.Age, .slice A22 n22 c22, .slice A23 n23 c23], rowC (elemQ (.slice A16 n16 c16) p19.toNat 6 0) [iV x21.Kind, iV x21.Shape, iV x21.Flags, iV x21.Age, .slice A22 n22 c22, .slice A23 n23 c23], kS0 A22 n22 c22 x21.Slots, kS0 A23 n23 c23 x21.More, kS0 A3 n3 c3 a1, kO2 A35 n35 c35 ((p18 ++ y28) ++ y32), ownC (Rep.sl rDCell) 22 (.slice A7 n7 c7) ([a0.Young, a0.Old] : List (List DCell)), kS1 A16 n16 c16 x15, kS1 A1 n1 c1 a0.Young, kS1 A2 n2 c2 a0.Old, boxC B4 24 [.slice A1 n1 c1, .slice A2 n2 c2]]) rfl ?_
      refine T3_ev 7 rfl (by kernel_rfl) (ev_assign rfl) rfl rfl ?_
      refine T3_done (by kernel_rfl) ?_
      refine run ?_
      obtain ⟨q36, h⟩ := req_elim h
      refine gE (ev_add rfl rfl q36.1 q36.2) ?_
      refine run ?_
      exact ⟨m17, _, _, Nat.lt_succ_self _, ⟨(p18 ++ y28) ++ y32, p19 + 1, A35, n35, c35, h, rfl, rfl⟩, sA, cv_sel [6, 7, 8, 9, 10, 11, 12] 13 rfl rfl⟩
    ·replace h := cond_f g20 h
     refine run ?_
     exact ⟨_, _, ⟨p18, A18, n18, c18, h, rfl, rfl⟩, sA, cv_sel [0, 1, 2, 4, 5, 6] 7 rfl rfl⟩
   ·rintro _ _ ⟨p14, A14, n14, c14, h, rfl, rfl⟩
    refine G_region ?_
    obtain ⟨q37, h⟩ := req_elim h
    refine gE (ev_add rfl rfl q37.1 q37.2) ?_
    refine run ?_
    exact ⟨m8, _, _, Nat.lt_succ_self _, ⟨p14, p10 + 1, A14, n14, c14, h, rfl, rfl⟩, sA, cv_sel [0, 1, 2, 3, 4, 5] 6 rfl rfl⟩
  ·replace h := cond_f g12 h
   refine run ?_
   exact ⟨_, _, ⟨p9, A9, n9, c9, h, rfl, rfl⟩, sA, cv_sel [0, 1, 3, 4, 5] 6 rfl rfl⟩
 ·rintro _ _ ⟨p6, A6, n6, c6, h, rfl, rfl⟩
  refine G_joinF (fun s L => ∃ (p39 : (List Int)) (A39 : Option Addr) (n39 c39 : Nat), major_check_j38 N a0 p39 = some r ∧ s = [(2, pV B4 0), (4, iV 0), (5, .slice A39 n39 c39)] ∧ L = [kO2 A39 n39 c39 p39, kS1 A1 n1 c1 a0.Young, kS1 A2 n2 c2 a0.Old, boxC B4 24 [.slice A1 n1 c1, .slice A2 n2 c2]]) ?_ ?_
  ·refine run ?_
   refine gR (rd_len 0 rfl els_sl rfl Tryz.underlying25) ?_
   refine run ?_
   refine G_loopF (fun m s L => ∃ (p41 : (List Int)) (p42 : Int) (A41 : Option Addr) (n41 c41 : Nat), major_check_l40 N a1 a0 m p41 p42 = some r ∧ s = [(2, pV B4 0), (4, iV 0), (5, .slice A41 n41 c41), (40, .slice A3 n3 c3), (41, iV (a1.length : Int)), (42, iV p42)] ∧ L = [kO2 A41 n41 c41 p41, kS0 A3 n3 c3 a1, kS1 A1 n1 c1 a0.Young, kS1 A2 n2 c2 a0.Old, boxC B4 24 [.slice A1 n1 c1, .slice A2 n2 c2]]) N _ _ ⟨p6, 0, A6, n6, c6, h, rfl, rfl⟩ sA (cv_sel [1, 0, 2, 3, 4] 5 rfl rfl) ?_
   rintro (_ | m40) _ _ ⟨p41, p42, A41, n41, c41, h, rfl, rfl⟩
   ·exact none_some h
   rw [major_check_l40_s] at h
   refine run ?_
   refine G_seq ?_
   refine G_cond rfl (fun g43 => ?_) (fun g43 => ?_)
   ·replace h := cond_t g43 h
    refine run ?_
    refine G_joinF (fun s L => ∃ (p45 : (List Int)) (A45 : Option Addr) (n45 c45 : Nat), major_check_j44 N (major_check_l40 N a1 a0 m40) a1 p42 a0 p45 = some r ∧ s = [(2, pV B4 0), (4, iV 0), (5, .slice A45 n45 c45), (40, .slice A3 n3 c3), (41, iV (a1.length : Int)), (42, iV p42)] ∧ L = [kO2 A45 n45 c45 p45, kS0 A3 n3 c3 a1, kS1 A1 n1 c1 a0.Young, kS1 A2 n2 c2 a0.Old, boxC B4 24 [.slice A1 n1 c1, .slice A2 n2 c2]]) ?_ ?_
    ·refine run ?_
     obtain ⟨x46, hx46, h⟩ := bind_elim h
     obtain ⟨lx46, ux46, hx46⟩ := getE_elim hx46
     refine gR (rd_idx 1 rfl els_sl rfl rfl Tryz.underlying25 size38 lx46 ux46) ?_
     refine gR (rd_elemS (us := [iV x46.Kind, iV x46.N, .string x46.S]) 1 rfl els_sl rfl hx46 agg38 (fun _ _ _ h => by rw [show _ = _ from h]; rfl)) ?_
     refine gD (op_alloc zero38 rfl) ?_
     rintro _ _ ⟨B47, rfl, rfl⟩
     refine gO (op_store (us := [iV x46.Kind, iV x46.N, .string x46.S]) (cs' := [iV x46.Kind, iV x46.N, .string x46.S]) 0 rfl rfl rfl rfl size38 rfl rfl rfl) ?_
     rintro _ _ rfl
     refine run ?_
     obtain ⟨b48, hb48, h⟩ := bind_elim h
     refine G_segb 4 53 b48 ?_ ?_
     ·clear h
      refine G_case 49 rfl (fun g48 => ?_) (fun g48 => ?_)
      ·have h := cond_t g48 hb48
       refine run ?_
       obtain rfl := Option.some.inj h
       exact G_joined sA (cv_sel [0, 1, 2, 3, 4, 5] 6 rfl rfl)
      ·have h := cond_f g48 hb48
       refine run ?_
       obtain rfl := Option.some.inj h
       exact G_joined sA (cv_sel [0, 1, 2, 3, 4, 5] 6 rfl rfl)
     refine run ?_
     refine G_cond rfl (fun g49 => ?_) (fun g49 => ?_)
     ·replace h := cond_t g49 h
      refine run ?_
      refine gD (op_bslice (R := (rInt .i64)) (vss := [[iV x46.N]]) (xs := [x46.N]) rfl (bsl_35_1 _) rfl rfl (fun _ _ hr => .cons rfl All2.nil)) ?_
      rintro _ _ ⟨A50, n50, c50, rfl, rfl⟩
      obtain ⟨q51, h⟩ := req_elim h
      refine gD (op_append 2 0 rfl rfl els_own rfl rfl Tryz.underlying35 zb3 rfl rfl q51) ?_
      rintro _ _ ⟨A52, n52, c52, rfl, rfl⟩
      refine G_norm ([kO2 A50 n50 c50 ([x46.N] : List Int), boxC B47 38 [iV x46.Kind, iV x46.N, .string x46.S], kO2 A52 n52 c52 (p41 ++ ([x46.N] : List Int)), kS0 A3 n3 c3 a1, kS1 A1 n1 c1 a0.Young, kS1 A2 n2 c2 a0.Old, boxC B4 24 [.slice A1 n1 c1, .slice A2 n2 c2]]) rfl ?_
      refine run ?_
      exact ⟨_, _, ⟨p41 ++ ([x46.N] : List Int), A52, n52, c52, h, rfl, rfl⟩, sA, cv_sel [2, 3, 4, 5, 6] 7 rfl rfl⟩
     ·replace h := cond_f g49 h
      refine run ?_
      exact ⟨_, _, ⟨p41, A41, n41, c41, h, rfl, rfl⟩, sA, cv_sel [1, 2, 3, 4, 5] 6 rfl rfl⟩
    ·rintro _ _ ⟨p45, A45, n45, c45, h, rfl, rfl⟩
     refine G_region ?_
     obtain ⟨q53, h⟩ := req_elim h
     refine gE (ev_add rfl rfl q53.1 q53.2) ?_
     refine run ?_
     exact ⟨m40, _, _, Nat.lt_succ_self _, ⟨p45, p42 + 1, A45, n45, c45, h, rfl, rfl⟩, sA, cv_sel [0, 1, 2, 3, 4] 5 rfl rfl⟩
   ·replace h := cond_f g43 h
    refine run ?_
    exact ⟨_, _, ⟨p41, A41, n41, c41, h, rfl, rfl⟩, sA, cv_sel [0, 2, 3, 4] 5 rfl rfl⟩
  ·rintro _ _ ⟨p39, A39, n39, c39, h, rfl, rfl⟩
   refine G_seq ?_
   refine run ?_
   refine gE (ev_makeFunc rfl) ?_
   obtain ⟨y54, hy54, h⟩ := bind_elim h
   refine gD (op_callR (slices_ContainsFunc_ok hy54 ⟨mem_cons rfl (mem_cons rfl (mem_cons rfl mem_nil)), 130, #[], #[pV B4 0], rfl, call130, fun _ _ hh => major_check_c1_ok hh⟩) call54 rfl (mem_cons (lent_own (i := 0) rfl) (mem_cons (lent_box (i := 3) rfl) (mem_cons (lent_ro (i := 1) rfl rfl) (mem_cons (lent_ro (i := 2) rfl rfl) mem_nil)))) slices_ContainsFunc_free) ?_
   rintro _ _ ⟨_, ⟨rfl, rfl⟩, rfl⟩
   refine run ?_
   refine G_cond rfl (fun g55 => ?_) (fun g55 => ?_)
   ·replace h := cond_t g55 h
    refine run ?_
    obtain rfl := Option.some.inj h
    exact endG1 rfl rfl (cv_sel [] 4 rfl rfl) ⟨rfl, rfl⟩
   ·replace h := cond_f g55 h
    refine run ?_
    obtain rfl := Option.some.inj h
    exact endG1 rfl rfl (cv_sel [] 4 rfl rfl) ⟨rfl, rfl⟩
theorem major_check_free {r : Int} : ∀ v post, ((fun (u : Value) (post : List Chunk) => u = iV r ∧ post = [])) v post → ∀ c ∈ post, Free c := by
 rintro _ _ ⟨rfl, rfl⟩; exact mem_nil
def finreg_is_O (N : Nat) (a0 : DCell) : Option Bool :=
 (bif decide (a0.Kind = 10) then ((cell_Right_O N a0).bind fun y5 => some y5) else (some false)).bind fun b4 => some b4
theorem finreg_is_ok {N : Nat} {a0 : DCell} {r : Bool} (h : finreg_is_O N a0 = some r) {A1 : Option Addr} {n1 c1 : Nat} {A2 : Option Addr} {n2 c2 : Nat} : Okc Tryz.prog 135 [.agg #[iV a0.Kind, iV a0.Shape, iV a0.Flags, iV a0.Age, .slice A1 n1 c1, .slice A2 n2 c2]] ([kS0 A1 n1 c1 a0.Slots, kS0 A2 n2 c2 a0.More]) (fun (u : Value) (post : List Chunk) => u = .bool r ∧ post = []) := by
 refine ok_E Tryz.func135 rfl rfl ?_
 simp only [envOf]
 refine run ?_
 refine gD (op_box rfl rfl) ?_
 rintro _ _ ⟨B3, rfl, rfl⟩
 refine run ?_
 obtain ⟨b4, hb4, h⟩ := bind_elim h
 refine G_segb 3 9 b4 ?_ ?_
 ·clear h
  refine G_case 6 rfl (fun g4 => ?_) (fun g4 => ?_)
  ·have h := cond_t g4 hb4
   refine G_rd (rd_boxS (us := [iV a0.Kind, iV a0.Shape, iV a0.Flags, iV a0.Age, .slice A1 n1 c1, .slice A2 n2 c2]) 0 rfl rfl agg32 rfl) rfl (g_tt g4 rfl) rfl ?_
   obtain ⟨y5, hy5, h⟩ := bind_elim h
   refine G_opd (op_callR (cell_Right_ok hy5) call53 rfl (mem_cons (lent_ro (i := 1) rfl rfl) (mem_cons (lent_ro (i := 2) rfl rfl) mem_nil)) cell_Right_free) rfl (g_tt g4 rfl) rfl ?_
   rintro _ _ ⟨_, ⟨rfl, rfl⟩, rfl⟩
   refine run ?_
   obtain rfl := Option.some.inj h
   exact G_joined sA (cv_sel [0, 1, 2] 3 rfl rfl)
  ·have h := cond_f g4 hb4
   refine run ?_
   obtain rfl := Option.some.inj h
   exact G_joined sA (cv_sel [0, 1, 2] 3 rfl rfl)
 refine run ?_
 obtain rfl := Option.some.inj h
 exact endG1 rfl rfl (cv_sel [] 3 rfl rfl) ⟨rfl, rfl⟩
theorem finreg_is_free {r : Bool} : ∀ v post, ((fun (u : Value) (post : List Chunk) => u = .bool r ∧ post = [])) v post → ∀ c ∈ post, Free c := by
 rintro _ _ ⟨rfl, rfl⟩; exact mem_nil
def finreg_bare_O (N : Nat) (a0 : DCell) : Option DCell :=
 (slices_Clone_O N a0.Slots).bind fun y5 => (getE a0.More 0).bind fun x7 => some (⟨a0.Kind, a0.Shape, a0.Flags, a0.Age, y5, ([x7] : List DValue)⟩ : DCell)
theorem finreg_bare_ok {N : Nat} {a0 : DCell} {r : DCell} (h : finreg_bare_O N a0 = some r) {A1 : Option Addr} {n1 c1 : Nat} {A2 : Option Addr} {n2 c2 : Nat} : Okc Tryz.prog 136 [.agg #[iV a0.Kind, iV a0.Shape, iV a0.Flags, iV a0.Age, .slice A1 n1 c1, .slice A2 n2 c2]] ([kS0 A1 n1 c1 a0.Slots, kS0 A2 n2 c2 a0.More]) (fun (u : Value) (post : List Chunk) => ∃ A0 n0 c0 A1 n1 c1, u = .agg #[iV r.Kind, iV r.Shape, iV r.Flags, iV r.Age, .slice A0 n0 c0, .slice A1 n1 c1] ∧ post = [kO3 A0 n0 c0 r.Slots, kO3 A1 n1 c1 r.More]) := by
 refine ok_E Tryz.func136 rfl rfl ?_
 simp only [envOf]
 refine run ?_
 refine gD (op_box rfl rfl) ?_
 rintro _ _ ⟨B3, rfl, rfl⟩
 refine gD (op_alloc zero32 rfl) ?_
 rintro _ _ ⟨B4, rfl, rfl⟩
 refine run ?_
 obtain ⟨y5, hy5, h⟩ := bind_elim h
 refine gD (op_callR (slices_Clone_ok hy5) call108 rfl (mem_cons (lent_ro (i := 2) rfl rfl) mem_nil) slices_Clone_free) ?_
 rintro _ _ ⟨_, ⟨A6, n6, c6, rfl, rfl⟩, rfl⟩
 refine run ?_
 refine gO (op_store (us := [.slice A6 n6 c6]) (cs' := [iV a0.Kind, iV a0.Shape, iV a0.Flags, iV a0.Age, .slice A6 n6 c6, .slice A2 n2 c2]) 2 rfl rfl rfl rfl size25 rfl rfl rfl) ?_
 rintro _ _ rfl
 refine run ?_
 obtain ⟨x7, hx7, h⟩ := bind_elim h
 obtain ⟨lx7, ux7, hx7⟩ := getE_elim hx7
 refine gR (rd_idx 4 rfl els_sl rfl rfl Tryz.underlying25 size38 lx7 ux7) ?_
 refine gR (rd_elemS (us := [iV x7.Kind, iV x7.N, .string x7.S]) 4 rfl els_sl rfl hx7 agg38 (fun _ _ _ h => by rw [show _ = _ from h]; rfl)) ?_
 refine gD (op_bslice (R := rDValue) (vss := [[iV x7.Kind, iV x7.N, .string x7.S]]) (xs := [x7]) rfl (bsl_25_1 _ _ _) rfl rfl (fun _ _ hr => .cons rfl All2.nil)) ?_
 rintro _ _ ⟨A8, n8, c8, rfl, rfl⟩
 refine run ?_
 refine gO (op_store (us := [.slice A8 n8 c8]) (cs' := [iV a0.Kind, iV a0.Shape, iV a0.Flags, iV a0.Age, .slice A6 n6 c6, .slice A8 n8 c8]) 3 rfl rfl rfl rfl size25 rfl rfl rfl) ?_
 rintro _ _ rfl
 refine run ?_
 refine gR (rd_boxS (us := [iV a0.Kind, iV a0.Shape, iV a0.Flags, iV a0.Age, .slice A6 n6 c6, .slice A8 n8 c8]) 3 rfl rfl agg32 rfl) ?_
 refine gO (op_store (us := [iV a0.Kind, iV a0.Shape, iV a0.Flags, iV a0.Age, .slice A6 n6 c6, .slice A8 n8 c8]) (cs' := [iV a0.Kind, iV a0.Shape, iV a0.Flags, iV a0.Age, .slice A6 n6 c6, .slice A8 n8 c8]) 2 rfl rfl rfl rfl size32 rfl rfl rfl) ?_
 rintro _ _ rfl
 refine G_norm ([kO3 A8 n8 c8 ([x7] : List DValue), kO3 A6 n6 c6 y5, boxC B4 32 [iV a0.Kind, iV a0.Shape, iV a0.Flags, iV a0.Age, .slice A6 n6 c6, .slice A8 n8 c8], boxC B3 32 [iV a0.Kind, iV a0.Shape, iV a0.Flags, iV a0.Age, .slice A6 n6 c6, .slice A8 n8 c8], kS0 A1 n1 c1 a0.Slots, kS0 A2 n2 c2 a0.More]) rfl ?_
 refine run ?_
 obtain rfl := Option.some.inj h
 exact endGl (rs := [.cell 2 32]) (vs := [.agg #[iV a0.Kind, iV a0.Shape, iV a0.Flags, iV a0.Age, .slice A6 n6 c6, .slice A8 n8 c8]]) rfl (.cons (rv_boxS 2 rfl rfl agg32) .nil) rfl (cv_sel [1, 0] 6 rfl rfl) ⟨_, _, _, _, _, _, rfl, rfl⟩
theorem finreg_bare_free {r : DCell} : ∀ v post, ((fun (u : Value) (post : List Chunk) => ∃ A0 n0 c0 A1 n1 c1, u = .agg #[iV r.Kind, iV r.Shape, iV r.Flags, iV r.Age, .slice A0 n0 c0, .slice A1 n1 c1] ∧ post = [kO3 A0 n0 c0 r.Slots, kO3 A1 n1 c1 r.More])) v post → ∀ c ∈ post, Free c := by
 rintro _ _ ⟨_, _, _, _, _, _, rfl, rfl⟩; exact mem_cons free_own (mem_cons free_own (mem_nil))
def finreg_entries_c1_l4 (N : Nat) {σ : Type} (fy : (Int × (List DValue)) → σ → Option (Bool × σ)) (a1 : DCell) : Nat → Int → σ → Option σ
 | 0, _, _ => none
 | m4 + 1, p5, p6 => req (in64 (p5 + 4)) (bif decide (p5 + 4 ≤ (a1.More.length : Int)) then (req (in64 (p5 + 4)) (req (in64 (p5 + 4)) (req ((0 : Int) ≤ p5 ∧ (0 : Int) ≤ p5 + 4 ∧ p5.toNat ≤ (p5 + 4).toNat ∧ (p5 + 4).toNat ≤ a1.More.length) ((fy (p5, (a1.More.drop p5.toNat).take ((p5 + 4).toNat - p5.toNat)) p6).bind fun y13 => bif !y13.1 then (some y13.2) else (req (in64 (p5 + 4)) ((finreg_entries_c1_l4 N fy a1 m4) (p5 + 4) y13.2)))))) else (some p6))
theorem finreg_entries_c1_l4_s {N m4 : Nat} {σ : Type} {fy : (Int × (List DValue)) → σ → Option (Bool × σ)} {a1 : DCell} {p5 : Int} {p6 : σ} : finreg_entries_c1_l4 N fy a1 (m4 + 1) p5 p6 = req (in64 (p5 + 4)) (bif decide (p5 + 4 ≤ (a1.More.length : Int)) then (req (in64 (p5 + 4)) (req (in64 (p5 + 4)) (req ((0 : Int) ≤ p5 ∧ (0 : Int) ≤ p5 + 4 ∧ p5.toNat ≤ (p5 + 4).toNat ∧ (p5 + 4).toNat ≤ a1.More.length) ((fy (p5, (a1.More.drop p5.toNat).take ((p5 + 4).toNat - p5.toNat)) p6).bind fun y13 => bif !y13.1 then (some y13.2) else (req (in64 (p5 + 4)) ((finreg_entries_c1_l4 N fy a1 m4) (p5 + 4) y13.2)))))) else (some p6)) := rfl
def finreg_entries_c1_O (N : Nat) {σ : Type} (a1 : DCell) (fy : (Int × (List DValue)) → σ → Option (Bool × σ)) (s0 : σ) : Option σ :=
 finreg_entries_c1_l4 N fy a1 N 1 s0
theorem finreg_entries_c1_ok {N : Nat} {σ : Type} {a1 : DCell} {fy : (Int × (List DValue)) → σ → Option (Bool × σ)} {s0 : σ} {r : σ} (h : finreg_entries_c1_O N a1 fy s0 = some r) {B1 : Nat} {A2 : Option Addr} {n2 c2 : Nat} {A3 : Option Addr} {n3 c3 : Nat} {l : Nat} {G : σ → List Chunk} (hY : YieldOkR Tryz.prog l G (fun (x : Int × (List DValue)) vs cs => ∃ A1 n1 c1, vs = [iV x.1, .slice A1 n1 c1] ∧ cs = [kS0 A1 n1 c1 x.2]) fy) : Okc Tryz.prog 180 [.func (.yield l) #[] #[], pV B1 0] (rboxC B1 32 [iV a1.Kind, iV a1.Shape, iV a1.Flags, iV a1.Age, .slice A2 n2 c2, .slice A3 n3 c3] :: kS0 A2 n2 c2 a1.Slots :: kS0 A3 n3 c3 a1.More :: (G s0)) (fun (u : Value) (post : List Chunk) => u = .tuple #[] ∧ post = G r) := by
 refine ok_E Tryz.func180 rfl rfl ?_
 simp only [envOf]
 refine run ?_
 refine G_loopF (fun m s L => ∃ (p5 : Int) (p6 : σ), finreg_entries_c1_l4 N fy a1 m p5 p6 = some r ∧ s = [(0, .func (.yield l) #[] #[]), (1, pV B1 0), (3, iV p5)] ∧ L = kS0 A2 n2 c2 a1.Slots :: kS0 A3 n3 c3 a1.More :: rboxC B1 32 [iV a1.Kind, iV a1.Shape, iV a1.Flags, iV a1.Age, .slice A2 n2 c2, .slice A3 n3 c3] :: (G p6)) N _ _ ⟨1, s0, h, rfl, rfl⟩ sA (cv_sel [1, 2, 0] 3 rfl rfl) ?_
 rintro (_ | m4) _ _ ⟨p5, p6, h, rfl, rfl⟩
 ·exact none_some h
 rw [finreg_entries_c1_l4_s] at h
 refine G_seq ?_
 refine run ?_
 obtain ⟨q7, h⟩ := req_elim h
 refine gE (ev_add rfl rfl q7.1 q7.2) ?_
 refine run ?_
 refine gR (rd_rbox1 2 rfl rfl one25 rfl) ?_
 refine gR (rd_len 1 rfl els_sl rfl Tryz.underlying25) ?_
 refine run ?_
 refine G_cond rfl (fun g8 => ?_) (fun g8 => ?_)
 ·replace h := cond_t g8 h
  refine run ?_
  refine G_seq ?_
  refine run ?_
  refine gR (rd_rbox1 2 rfl rfl one25 rfl) ?_
  refine run ?_
  obtain ⟨q9, h⟩ := req_elim h
  refine gE (ev_add rfl rfl q9.1 q9.2) ?_
  refine run ?_
  obtain ⟨q10, h⟩ := req_elim h
  refine gE (ev_add rfl rfl q10.1 q10.2) ?_
  obtain ⟨q11, h⟩ := req_elim h
  refine G_cut3 1 rfl (l := p5.toNat) (h := (p5 + 4).toNat) q11.2.2.1 q11.2.2.2 ?_
  rintro A12 n12 c12 e12
  refine gR (rd_cut3 2 rfl e12 rfl Tryz.underlying25 size38 rfl (by rw [Int.toNat_of_nonneg q11.1]; rfl) (by rw [Int.toNat_of_nonneg q11.2.1]; rfl) (by rw [Int.toNat_of_nonneg q11.2.1]; rfl) q11.2.2.1 q11.2.2.2) ?_
  obtain ⟨y13, hy13, h⟩ := bind_elim h
  refine gD (op_yieldR (a := (p5, (a1.More.drop p5.toNat).take ((p5 + 4).toNat - p5.toNat))) [kS0 A12 n12 c12 ((a1.More.drop p5.toNat).take ((p5 + 4).toNat - p5.toNat)), kS0 A2 n2 c2 a1.Slots, kS0 A3 n3 c3 a1.More, rboxC B1 32 [iV a1.Kind, iV a1.Shape, iV a1.Flags, iV a1.Age, .slice A2 n2 c2, .slice A3 n3 c3]] hY hy13 rfl rfl ⟨_, _, _, rfl, rfl⟩ (cv_dup 0 rfl rfl)) ?_
  rintro _ _ ⟨rfl, rfl⟩
  refine run ?_
  refine G_cond rfl (fun g14 => ?_) (fun g14 => ?_)
  ·replace h := cond_t g14 h
   refine run ?_
   obtain rfl := Option.some.inj h
   exact endG0 rfl (cv_sel [] 4 rfl rfl) ⟨rfl, rfl⟩
  ·replace h := cond_f g14 h
   refine run ?_
   obtain ⟨q15, h⟩ := req_elim h
   refine gE (ev_add rfl rfl q15.1 q15.2) ?_
   refine run ?_
   exact ⟨m4, _, _, Nat.lt_succ_self _, ⟨p5 + 4, y13.2, h, rfl, rfl⟩, sA, cv_sel [1, 2, 3] 4 rfl rfl⟩
 ·replace h := cond_f g8 h
  refine run ?_
  obtain rfl := Option.some.inj h
  exact endG0n rfl (cv_sel [] 3 rfl rfl) ⟨rfl, rfl⟩
def finreg_entries_O (N : Nat) (a0 : DCell) : Option Unit :=
 some ()
theorem finreg_entries_ok {N : Nat} {a0 : DCell} {r : Unit} (h : finreg_entries_O N a0 = some r) {A1 : Option Addr} {n1 c1 : Nat} {A2 : Option Addr} {n2 c2 : Nat} : Okc Tryz.prog 137 [.agg #[iV a0.Kind, iV a0.Shape, iV a0.Flags, iV a0.Age, .slice A1 n1 c1, .slice A2 n2 c2]] ([kS0 A1 n1 c1 a0.Slots, kS0 A2 n2 c2 a0.More]) (fun (u : Value) (post : List Chunk) => ∃ B900, u = .func (.func 180) #[] #[pV B900 0] ∧ post = [boxC B900 32 [iV a0.Kind, iV a0.Shape, iV a0.Flags, iV a0.Age, .slice A1 n1 c1, .slice A2 n2 c2]]) := by
 refine ok_E Tryz.func137 rfl rfl ?_
 simp only [envOf]
 refine run ?_
 refine gD (op_box rfl rfl) ?_
 rintro _ _ ⟨B3, rfl, rfl⟩
 refine run ?_
 refine gE (ev_makeFunc rfl) ?_
 refine run ?_
 obtain rfl := Option.some.inj h
 exact endG1 rfl rfl (cv_sel [0] 3 rfl rfl) ⟨_, rfl, rfl⟩
theorem finreg_entries_free {a0 : DCell} {A1 : Option Addr} {n1 : Nat} {c1 : Nat} {A2 : Option Addr} {n2 : Nat} {c2 : Nat} : ∀ v post, ((fun (u : Value) (post : List Chunk) => ∃ B900, u = .func (.func 180) #[] #[pV B900 0] ∧ post = [boxC B900 32 [iV a0.Kind, iV a0.Shape, iV a0.Flags, iV a0.Age, .slice A1 n1 c1, .slice A2 n2 c2]])) v post → ∀ c ∈ post, Free c := by
 rintro _ _ ⟨_, rfl, rfl⟩; exact mem_cons free_box (mem_nil)
def finreg_Clean_j45 (N : Nat) (x28 : (Int × (List DValue))) (a0 : DCell) (p14 : (List (Int × Bool))) (y21 : (DCell)) (p30 : (List DValue)) (p31 : (List DValue)) (p46 : Int) (p47 : Int) (p48 : ByteArray) : Option (Option Exit × (List DValue) × (List DValue)) :=
 (getE x28.2 0).bind fun x51 => (getE x28.2 1).bind fun x52 => (getE x28.2 3).bind fun x53 => req (fitsL (p30.length + ([x51, x52, (⟨p46, p47, p48⟩ : DValue), x53] : List DValue).length)) (some (none, (p30 ++ ([x51, x52, (⟨p46, p47, p48⟩ : DValue), x53] : List DValue), p31)))
def finreg_Clean_b28 (N : Nat) (a0 : DCell) (p14 : (List (Int × Bool))) (y21 : (DCell)) (x28 : Int × (List DValue)) : ((List DValue) × (List DValue)) → Option (Option Exit × ((List DValue) × (List DValue)))
 |(p30, p31) => (getE x28.2 0).bind fun x34 => bif !((lk p14 x34.N).getD false) then ((getE a0.More 0).bind fun x36 => (getE x28.2 1).bind fun x37 => (getE x28.2 3).bind fun x38 => req (fitsL (p31.length + ([x36, x37, x38] : List DValue).length)) (some (none, (p30, p31 ++ ([x36, x37, x38] : List DValue))))) else ((getE x28.2 2).bind fun x43 => (bif decide (x43.Kind = 7) then (some (!((lk p14 x43.N).getD false))) else (some false)).bind fun b49 => bif b49 then (finreg_Clean_j45 N x28 a0 p14 y21 p30 p31 0 0 (⟨#[]⟩)) else (finreg_Clean_j45 N x28 a0 p14 y21 p30 p31 x43.Kind x43.N x43.S))
def finreg_Clean_j13 (N : Nat) (a0 : DCell) (p14 : (List (Int × Bool))) : Option (DCell × (List DValue)) :=
 (finreg_bare_O N a0).bind fun y21 => (finreg_entries_O N a0).bind fun y26 => (finreg_entries_c1_O N a0 (liftR (fun x st => finreg_Clean_b28 N a0 p14 y21 x st)) (none, (y21.More, []))).bind fun y32 => caseX y32.1 (some ((⟨y21.Kind, y21.Shape, y21.Flags, y21.Age, y21.Slots, y32.2.1⟩ : DCell), y32.2.2)) none (fun _ => none)
def finreg_Clean_l15 (N : Nat) (a1 : (List Int)) (a0 : DCell) : Nat → Int → (List (Int × Bool)) → Option (DCell × (List DValue))
 | 0, _, _ => none
 | m15 + 1, p16, p17 => bif decide (p16 < (a1.length : Int)) then ((getE a1 p16).bind fun x19 => req (in64 (p16 + 1)) ((finreg_Clean_l15 N a1 a0 m15) (p16 + 1) (upL p17 x19 true))) else (finreg_Clean_j13 N a0 p17)
theorem finreg_Clean_l15_s {N m15 : Nat} {a1 : (List Int)} {a0 : DCell} {p16 : Int} {p17 : (List (Int × Bool))} : finreg_Clean_l15 N a1 a0 (m15 + 1) p16 p17 = bif decide (p16 < (a1.length : Int)) then ((getE a1 p16).bind fun x19 => req (in64 (p16 + 1)) ((finreg_Clean_l15 N a1 a0 m15) (p16 + 1) (upL p17 x19 true))) else (finreg_Clean_j13 N a0 p17) := rfl
def finreg_Clean_O (N : Nat) (a0 : DCell) (a1 : (List Int)) : Option (DCell × (List DValue)) :=
 (finreg_is_O N a0).bind fun y6 => bif !y6 then (some ((⟨0, 0, 0, 0, [], []⟩ : DCell), [])) else (finreg_Clean_l15 N a1 a0 N 0 ([] : (List (Int × Bool))))
set_option maxHeartbeats 4000000 in
theorem finreg_Clean_ok {N : Nat} {a0 : DCell} {a1 : (List Int)} {r : (DCell × (List DValue))} (h : finreg_Clean_O N a0 a1 = some r) {A1 : Option Addr} {n1 c1 : Nat} {A2 : Option Addr} {n2 c2 : Nat} {A3 : Option Addr} {n3 c3 : Nat} : Okc Tryz.prog 81 [.agg #[iV a0.Kind, iV a0.Shape, iV a0.Flags, iV a0.Age, .slice A1 n1 c1, .slice A2 n2 c2], .slice A3 n3 c3] ([kS0 A1 n1 c1 a0.Slots, kS0 A2 n2 c2 a0.More, kS5 A3 n3 c3 a1]) (fun (u : Value) (post : List Chunk) => ∃ A0 n0 c0 A1 n1 c1 A2 n2 c2, u = .tuple #[.agg #[iV r.1.Kind, iV r.1.Shape, iV r.1.Flags, iV r.1.Age, .slice A0 n0 c0, .slice A1 n1 c1], .slice A2 n2 c2] ∧ post = [kO3 A0 n0 c0 r.1.Slots, kO3 A1 n1 c1 r.1.More, kO3 A2 n2 c2 r.2]) := by
 refine ok_E Tryz.func81 rfl rfl ?_
 simp only [envOf]
 refine run ?_
 refine gD (op_box rfl rfl) ?_
 rintro _ _ ⟨B4, rfl, rfl⟩
 refine gD (op_alloc zero32 rfl) ?_
 rintro _ _ ⟨B5, rfl, rfl⟩
 refine run ?_
 refine G_seq ?_
 refine run ?_
 refine gR (rd_boxS (us := [iV a0.Kind, iV a0.Shape, iV a0.Flags, iV a0.Age, .slice A1 n1 c1, .slice A2 n2 c2]) 1 rfl rfl agg32 rfl) ?_
 obtain ⟨y6, hy6, h⟩ := bind_elim h
 refine gD (op_callR (finreg_is_ok hy6) call135 rfl (mem_cons (lent_ro (i := 2) rfl rfl) (mem_cons (lent_ro (i := 3) rfl rfl) mem_nil)) finreg_is_free) ?_
 rintro _ _ ⟨_, ⟨rfl, rfl⟩, rfl⟩
 refine run ?_
 refine G_cond rfl (fun g7 => ?_) (fun g7 => ?_)
 ·replace h := cond_t g7 h
  refine run ?_
  refine gE (ev_build rfl (bld_32_)) ?_
  refine gO (op_store (us := [iV 0, iV 0, iV 0, iV 0, .slice none 0 0, .slice none 0 0]) (cs' := [iV 0, iV 0, iV 0, iV 0, .slice none 0 0, .slice none 0 0]) 0 rfl rfl rfl rfl size32 rfl rfl rfl) ?_
  rintro _ _ rfl
  refine run ?_
  obtain rfl := Option.some.inj h
  exact endGl (rs := [.cell 4 32, .tmp 5]) (vs := [.agg #[iV 0, iV 0, iV 0, iV 0, .slice none 0 0, .slice none 0 0], .slice none 0 0]) rfl (.cons (rv_boxS 0 rfl rfl agg32) (.cons (rv_tmp rfl) .nil)) rfl ((cv_nil rDValue 38 _).trans ((cv_nil rDValue 38 _).trans ((cv_nil rDValue 38 _).trans (cv_sel [2, 1, 0] 8 rfl rfl)))) ⟨_, _, _, _, _, _, _, _, _, rfl, rfl⟩
 ·replace h := cond_f g7 h
  refine run ?_
  refine gR (rd_len 4 rfl els_sl rfl Tryz.underlying35) ?_
  refine gD (op_makeMapN (ek := ekI) (ev := evB) rfl Tryz.underlying107) ?_
  rintro _ _ ⟨M11, rfl, rfl⟩
  refine gD (op_alloc zero107 rfl) ?_
  rintro _ _ ⟨B12, rfl, rfl⟩
  refine gO (op_store (us := [.map (some M11)]) (cs' := [.map (some M11)]) 0 rfl rfl rfl rfl size107 rfl rfl rfl) ?_
  rintro _ _ rfl
  refine run ?_
  refine G_joinF (fun s L => ∃ (p14 : (List (Int × Bool))), finreg_Clean_j13 N a0 p14 = some r ∧ s = [(2, pV B4 0), (4, pV B5 0), (5, .slice none 0 0), (6, pV B12 0)] ∧ L = [kS0 A1 n1 c1 a0.Slots, kS0 A2 n2 c2 a0.More, boxC B4 32 [iV a0.Kind, iV a0.Shape, iV a0.Flags, iV a0.Age, .slice A1 n1 c1, .slice A2 n2 c2], boxC B5 32 [iV 0, iV 0, iV 0, iV 0, .slice none 0 0, .slice none 0 0], mapC ekI evB M11 p14, boxC B12 107 [.map (some M11)]]) ?_ ?_
  ·refine run ?_
   refine gR (rd_len 6 rfl els_sl rfl Tryz.underlying35) ?_
   refine run ?_
   refine G_loopF (fun m s L => ∃ (p16 : Int) (p17 : (List (Int × Bool))), finreg_Clean_l15 N a1 a0 m p16 p17 = some r ∧ s = [(2, pV B4 0), (4, pV B5 0), (5, .slice none 0 0), (6, pV B12 0), (21, .slice A3 n3 c3), (22, iV (a1.length : Int)), (23, iV p16)] ∧ L = [kS5 A3 n3 c3 a1, kS0 A1 n1 c1 a0.Slots, kS0 A2 n2 c2 a0.More, boxC B4 32 [iV a0.Kind, iV a0.Shape, iV a0.Flags, iV a0.Age, .slice A1 n1 c1, .slice A2 n2 c2], boxC B5 32 [iV 0, iV 0, iV 0, iV 0, .slice none 0 0, .slice none 0 0], mapC ekI evB M11 p17, boxC B12 107 [.map (some M11)]]) N _ _ ⟨0, ([] : (List (Int × Bool))), h, rfl, rfl⟩ sA (cv_sel [6, 4, 5, 3, 2, 1, 0] 7 rfl rfl) ?_
   rintro (_ | m15) _ _ ⟨p16, p17, h, rfl, rfl⟩
   ·exact none_some h
   rw [finreg_Clean_l15_s] at h
   refine run ?_
   refine G_seq ?_
   refine G_cond rfl (fun g18 => ?_) (fun g18 => ?_)
   ·replace h := cond_t g18 h
    refine run ?_
    refine G_seq ?_
    refine run ?_
    obtain ⟨x19, hx19, h⟩ := bind_elim h
    obtain ⟨lx19, ux19, hx19⟩ := getE_elim hx19
    refine gR (rd_idx 0 rfl els_sl rfl rfl Tryz.underlying35 size3 lx19 ux19) ?_
    refine gR (rd_elem1 (u := iV x19) 0 rfl els_sl rfl hx19 one3 (fun _ _ _ h => by rw [show _ = _ from h]; rfl)) ?_
    refine run ?_
    refine gO (op_mapUpdate (a := x19) (b := true) 5 rfl rfl rfl rfl Tryz.underlying107 (keyOk_int Tryz.underlying3)) ?_
    rintro _ _ rfl
    refine G_norm ([kS5 A3 n3 c3 a1, kS0 A1 n1 c1 a0.Slots, kS0 A2 n2 c2 a0.More, boxC B4 32 [iV a0.Kind, iV a0.Shape, iV a0.Flags, iV a0.Age, .slice A1 n1 c1, .slice A2 n2 c2], boxC B5 32 [iV 0, iV 0, iV 0, iV 0, .slice none 0 0, .slice none 0 0], mapC ekI evB M11 (upL p17 x19 true), boxC B12 107 [.map (some M11)]]) rfl ?_
    refine run ?_
    obtain ⟨q20, h⟩ := req_elim h
    refine gE (ev_add rfl rfl q20.1 q20.2) ?_
    refine run ?_
    exact ⟨m15, _, _, Nat.lt_succ_self _, ⟨p16 + 1, upL p17 x19 true, h, rfl, rfl⟩, sA, cv_sel [0, 1, 2, 3, 4, 5, 6] 7 rfl rfl⟩
   ·replace h := cond_f g18 h
    refine run ?_
    exact ⟨_, _, ⟨p17, h, rfl, rfl⟩, sA, cv_sel [1, 2, 3, 4, 5, 6] 7 rfl rfl⟩
  ·rintro _ _ ⟨p14, h, rfl, rfl⟩
   refine run ?_
   refine gR (rd_boxS (us := [iV a0.Kind, iV a0.Shape, iV a0.Flags, iV a0.Age, .slice A1 n1 c1, .slice A2 n2 c2]) 2 rfl rfl agg32 rfl) ?_
   obtain ⟨y21, hy21, h⟩ := bind_elim h
   refine gD (op_callR (finreg_bare_ok hy21) call136 rfl (mem_cons (lent_ro (i := 0) rfl rfl) (mem_cons (lent_ro (i := 1) rfl rfl) mem_nil)) finreg_bare_free) ?_
   rintro _ _ ⟨_, ⟨A22, n22, c22, A23, n23, c23, rfl, rfl⟩, rfl⟩
   refine gD (op_alloc zero32 rfl) ?_
   rintro _ _ ⟨B24, rfl, rfl⟩
   refine gO (op_store (us := [iV y21.Kind, iV y21.Shape, iV y21.Flags, iV y21.Age, .slice A22 n22 c22, .slice A23 n23 c23]) (cs' := [iV y21.Kind, iV y21.Shape, iV y21.Flags, iV y21.Age, .slice A22 n22 c22, .slice A23 n23 c23]) 0 rfl rfl rfl rfl size32 rfl rfl rfl) ?_
   rintro _ _ rfl
   refine run ?_
   refine gD (op_alloc zero25 rfl) ?_
   rintro _ _ ⟨B25, rfl, rfl⟩
   refine run ?_
   refine G_seq ?_
   refine run ?_
   refine gR (rd_boxS (us := [iV a0.Kind, iV a0.Shape, iV a0.Flags, iV a0.Age, .slice A1 n1 c1, .slice A2 n2 c2]) 6 rfl rfl agg32 rfl) ?_
   obtain ⟨y26, hy26, h⟩ := bind_elim h
   refine gD (op_callR (finreg_entries_ok hy26) call137 rfl (mem_cons (lent_ro (i := 4) rfl rfl) (mem_cons (lent_ro (i := 5) rfl rfl) mem_nil)) finreg_entries_free) ?_
   rintro _ _ ⟨_, ⟨B27, rfl, rfl⟩, rfl⟩
   refine G_nil ?_
   refine nx_n ?_
   refine G_sub ?_ sub_refl (cv_frzbox 0 rfl)
   obtain ⟨y32, hy32, h⟩ := bind_elim h
   refine G_rangeXR (R := (fun (x : Int × (List DValue)) vs cs => ∃ A1 n1 c1, vs = [iV x.1, .slice A1 n1 c1] ∧ cs = [kS0 A1 n1 c1 x.2])) (fun x st => finreg_Clean_b28 N a0 p14 y21 x st) (fun (st : (List DValue) × (List DValue)) (mz : ((Option Addr × Nat × Nat) × (Option Addr × Nat × Nat))) => [kS0 A1 n1 c1 a0.Slots, kS0 A2 n2 c2 a0.More, boxC B4 32 [iV a0.Kind, iV a0.Shape, iV a0.Flags, iV a0.Age, .slice A1 n1 c1, .slice A2 n2 c2], boxC B5 32 [iV 0, iV 0, iV 0, iV 0, .slice none 0 0, .slice none 0 0], mapC ekI evB M11 p14, boxC B12 107 [.map (some M11)], kO3 A22 n22 c22 y21.Slots, ownC rDValue 38 (.slice mz.1.1 mz.1.2.1 mz.1.2.2) st.1, boxC B24 32 [iV y21.Kind, iV y21.Shape, iV y21.Flags, iV y21.Age, .slice A22 n22 c22, .slice mz.1.1 mz.1.2.1 mz.1.2.2], ownC rDValue 38 (.slice mz.2.1 mz.2.2.1 mz.2.2.2) st.2, boxC B25 25 [.slice mz.2.1 mz.2.2.1 mz.2.2.2]]) [rboxC B27 32 [iV a0.Kind, iV a0.Shape, iV a0.Flags, iV a0.Age, .slice A1 n1 c1, .slice A2 n2 c2], kS0 A1 n1 c1 a0.Slots, kS0 A2 n2 c2 a0.More] ((y21.More, [])) (((A23, n23, c23), (none, 0, 0))) rfl rfl call180 rfl (by rintro _ _ _ ⟨_, _, _, rfl, rfl⟩; rfl) (fun l G hY => (finreg_entries_c1_ok hy32 hY).mono fun _ _ hh => hh.2) ((cv_nil rDValue 38 _).trans (cv_take [1, 6, 7] [] [6, 7, 8, 9, 10, 11, 4, 5, 3, 0, 2] 12 rfl)) h ?_ ?_ ?_ ?_
   ·rintro l x28 ⟨p30, p31⟩ je sr28 ⟨⟨A30, n30, c30⟩, ⟨A31, n31, c31⟩⟩ h _ _ ⟨A29, n29, c29, rfl, rfl⟩
    replace h : finreg_Clean_b28 N a0 p14 y21 x28 (p30, p31) = some (je, sr28) := h
    simp only [envR, List.zip_cons_cons, List.zip_nil_left, List.zip_nil_right, List.reverse_cons, List.reverse_nil, List.nil_append, List.cons_append]
    refine run ?_
    refine G_seq ?_
    refine G_seq ?_
    refine G_drawn (by kernel_rfl) _ (cv_refl _) ?_
    refine T3_rd 0 rfl (by kernel_rfl) (rd_box1 6 rfl rfl one107 rfl) rfl rfl ?_
    refine T3_ev 1 rfl (by kernel_rfl) (ev_move rfl) rfl rfl ?_
    obtain ⟨x34, hx34, h⟩ := bind_elim h
    obtain ⟨lx34, ux34, hx34⟩ := getE_elim hx34
    refine T3_rd 2 rfl (by kernel_rfl) (rd_idx 0 rfl els_sl rfl rfl Tryz.underlying25 size38 lx34 ux34) rfl rfl ?_
    refine T3_rd 3 rfl (by kernel_rfl) (rd_fa 0 rfl els_sl rfl (toNat_lt lx34 ux34) fa_38_1) rfl rfl ?_
    refine T3_rd 4 rfl (by kernel_rfl) (rd_elem1 (u := iV x34.N) 0 rfl els_sl rfl hx34 one3 (fun _ _ _ h => by rw [show _ = _ from h]; rfl)) rfl rfl ?_
    refine T3_rd 5 rfl (by kernel_rfl) (rd_look1 (a := x34.N) (z := false) 5 rfl map_rw rfl rfl Tryz.underlying107 (keyOk_int Tryz.underlying3) zero4) rfl rfl ?_
    refine T3_ev 6 rfl (by kernel_rfl) (ev_not rfl) rfl rfl ?_
    refine T3_done (by kernel_rfl) ?_
    refine nx_n ?_
    refine G_cond rfl (fun g35 => ?_) (fun g35 => ?_)
    ·replace h := cond_t g35 h
     refine G_seq ?_
     obtain ⟨x36, hx36, h⟩ := bind_elim h
     obtain ⟨lx36, ux36, hx36⟩ := getE_elim hx36
     obtain ⟨x37, hx37, h⟩ := bind_elim h
     obtain ⟨lx37, ux37, hx37⟩ := getE_elim hx37
     obtain ⟨x38, hx38, h⟩ := bind_elim h
     obtain ⟨lx38, ux38, hx38⟩ := getE_elim hx38
     refine G_sub (t := [(2, pV B4 0), (4, pV B5 0), (5, .slice none 0 0), (6, pV B12 0), (9, pV B24 0), (10, pV B25 0), (12, .slice A29 n29 c29)]) ?_ subT (cv_refl _)
     refine G_monoX (by kernel_rfl) 12 [] [0, 11] [43, 44, 45, 46, 47, 48, 49, 50, 51, 52, 53, 54] [[], [], [1], [2], [3], [], [5], [6], [], [8], [9], [4, 7, 10]] [aV (.slice A31 n31 c31),
 aV (pV B4 5),
 aV (.slice A2 n2 c2),
 aV (elemQ (.slice A2 n2 c2) ((0 : Int).toNat) 3 0),
 aV (.agg #[iV x36.Kind, iV x36.N, .string x36.S]),
 aV (.slice A29 n29 c29),
 aV (elemQ (.slice A29 n29 c29) ((1 : Int).toNat) 3 0),
 aV (.agg #[iV x37.Kind, iV x37.N, .string x37.S]),
 aV (.slice A29 n29 c29),
 aV (elemQ (.slice A29 n29 c29) ((3 : Int).toNat) 3 0),
 aV (.agg #[iV x38.Kind, iV x38.N, .string x38.S]),
 aX3 (fun (A40 : Option Addr) (n40 c40 : Nat) => .slice A40 n40 c40) (fun A40 n40 c40 => [kO3 A40 n40 c40 ([x36, x37, x38] : List DValue)])] [] (cv_refl _) (qB_nil) (by kernel_rfl) rfl rfl ?_ ?_ ?_
     ·exact qs_nil
     ·refine steps_cons rfl ?_ ?_
      ·refine X_op (op_bslice (R := rDValue) (vss := [[iV x36.Kind, iV x36.N, .string x36.S], [iV x37.Kind, iV x37.N, .string x37.S], [iV x38.Kind, iV x38.N, .string x38.S]]) (xs := [x36, x37, x38]) rfl (bsl_25_3 _ _ _ _ _ _ _ _ _) rfl rfl (fun _ _ hr => .cons rfl (.cons rfl (.cons rfl All2.nil)))) rfl ?_
       rintro _ _ ⟨A39, n39, c39, rfl, rfl⟩
       exact cvp3 A39 n39 c39 (cv_refl _)
      refine steps_cons rfl ?_ ?_
      ·exact X_rd (rd_elemS (us := [iV x38.Kind, iV x38.N, .string x38.S]) 0 rfl els_sl rfl hx38 agg38 (fun _ _ _ h => by rw [show _ = _ from h]; rfl)) rfl (cvpV rfl (cv_refl _))
      refine steps_cons rfl ?_ ?_
      ·exact X_rd (rd_idx 0 rfl els_sl rfl rfl Tryz.underlying25 size38 lx38 ux38) rfl (cvpV rfl (cv_refl _))
      refine steps_cons rfl ?_ ?_
      ·exact X_ev (ev_move rfl) rfl (cvpV rfl (cv_refl _))
      refine steps_cons rfl ?_ ?_
      ·exact X_rd (rd_elemS (us := [iV x37.Kind, iV x37.N, .string x37.S]) 0 rfl els_sl rfl hx37 agg38 (fun _ _ _ h => by rw [show _ = _ from h]; rfl)) rfl (cvpV rfl (cv_refl _))
      refine steps_cons rfl ?_ ?_
      ·exact X_rd (rd_idx 0 rfl els_sl rfl rfl Tryz.underlying25 size38 lx37 ux37) rfl (cvpV rfl (cv_refl _))
      refine steps_cons rfl ?_ ?_
      ·exact X_ev (ev_move rfl) rfl (cvpV rfl (cv_refl _))
      refine steps_cons rfl ?_ ?_
      ·exact X_rd (rd_elemS (us := [iV x36.Kind, iV x36.N, .string x36.S]) 2 rfl els_sl rfl hx36 agg38 (fun _ _ _ h => by rw [show _ = _ from h]; rfl)) rfl (cvpV rfl (cv_refl _))
      refine steps_cons rfl ?_ ?_
      ·exact X_rd (rd_idx 2 rfl els_sl rfl rfl Tryz.underlying25 size38 lx36 ux36) rfl (cvpV rfl (cv_refl _))
      refine steps_cons rfl ?_ ?_
      ·exact X_rd (rd_box1 3 rfl rfl one25 rfl) rfl (cvpV rfl (cv_refl _))
      refine steps_cons rfl ?_ ?_
      ·exact X_ev (ev_fa rfl fa_32_5) rfl (cvpV rfl (cv_refl _))
      refine steps_cons rfl ?_ ?_
      ·exact X_rd (rd_box1 11 rfl rfl one25 rfl) rfl (cvpV rfl (cv_refl _))
      exact steps_nil
     ·intro A40 n40 c40
      refine N_sub (t := [(43, .slice A31 n31 c31), (54, .slice A40 n40 c40), (2, pV B4 0), (4, pV B5 0), (5, .slice none 0 0), (6, pV B12 0), (9, pV B24 0), (10, pV B25 0), (12, .slice A29 n29 c29)]) (L' := [kO3 A40 n40 c40 ([x36, x37, x38] : List DValue), kS0 A29 n29 c29 x28.2, kS0 A1 n1 c1 a0.Slots, kS0 A2 n2 c2 a0.More, boxC B4 32 [iV a0.Kind, iV a0.Shape, iV a0.Flags, iV a0.Age, .slice A1 n1 c1, .slice A2 n2 c2], boxC B5 32 [iV 0, iV 0, iV 0, iV 0, .slice none 0 0, .slice none 0 0], mapC ekI evB M11 p14, boxC B12 107 [.map (some M11)], kO3 A22 n22 c22 y21.Slots, kO3 A30 n30 c30 p30, boxC B24 32 [iV y21.Kind, iV y21.Shape, iV y21.Flags, iV y21.Age, .slice A22 n22 c22, .slice A30 n30 c30], kO3 A31 n31 c31 p31, boxC B25 25 [.slice A31 n31 c31]]) ?_ subT (cv_refl _)
      obtain ⟨q41, h⟩ := req_elim h
      refine N_opd 12 rfl (by kernel_rfl) (op_append 11 0 rfl rfl els_own rfl rfl Tryz.underlying25 zb38 rfl rfl q41) rfl rfl rfl ?_
      rintro _ _ ⟨A42, n42, c42, rfl, rfl⟩
      refine N_norm ([kO3 A40 n40 c40 ([x36, x37, x38] : List DValue), kS0 A29 n29 c29 x28.2, kS0 A1 n1 c1 a0.Slots, kS0 A2 n2 c2 a0.More, boxC B4 32 [iV a0.Kind, iV a0.Shape, iV a0.Flags, iV a0.Age, .slice A1 n1 c1, .slice A2 n2 c2], boxC B5 32 [iV 0, iV 0, iV 0, iV 0, .slice none 0 0, .slice none 0 0], mapC ekI evB M11 p14, boxC B12 107 [.map (some M11)], kO3 A22 n22 c22 y21.Slots, kO3 A30 n30 c30 p30, boxC B24 32 [iV y21.Kind, iV y21.Shape, iV y21.Flags, iV y21.Age, .slice A22 n22 c22, .slice A30 n30 c30], kO3 A42 n42 c42 (p31 ++ ([x36, x37, x38] : List DValue)), boxC B25 25 [.slice A31 n31 c31]]) rfl ?_
      refine N_opn 13 rfl (by kernel_rfl) (op_store (us := [.slice A42 n42 c42]) (cs' := [.slice A42 n42 c42]) 12 rfl rfl rfl rfl size25 rfl rfl rfl) rfl rfl ?_
      rintro _ _ rfl
      refine N_done (by kernel_rfl) ?_
      refine run ?_
      obtain ⟨rfl, rfl⟩ := Prod.mk.inj (Option.some.inj h)
      exact RK_n ((cv_sel [2, 3, 4, 5, 6, 7, 8, 9, 10, 11, 12] 13 rfl rfl).trans (cv_pack1 ((A30, n30, c30), (A42, n42, c42)) rfl))
    ·replace h := cond_f g35 h
     refine run ?_
     obtain ⟨x43, hx43, h⟩ := bind_elim h
     obtain ⟨lx43, ux43, hx43⟩ := getE_elim hx43
     refine gR (rd_idx 0 rfl els_sl rfl rfl Tryz.underlying25 size38 lx43 ux43) ?_
     refine gR (rd_elemS (us := [iV x43.Kind, iV x43.N, .string x43.S]) 0 rfl els_sl rfl hx43 agg38 (fun _ _ _ h => by rw [show _ = _ from h]; rfl)) ?_
     refine gD (op_alloc zero38 rfl) ?_
     rintro _ _ ⟨B44, rfl, rfl⟩
     refine gO (op_store (us := [iV x43.Kind, iV x43.N, .string x43.S]) (cs' := [iV x43.Kind, iV x43.N, .string x43.S]) 0 rfl rfl rfl rfl size38 rfl rfl rfl) ?_
     rintro _ _ rfl
     refine run ?_
     refine G_joinF (fun s L => ∃ (p46 : Int) (p47 : Int) (p48 : ByteArray), finreg_Clean_j45 N x28 a0 p14 y21 p30 p31 p46 p47 p48 = some (je, sr28) ∧ s = [(2, pV B4 0), (4, pV B5 0), (5, .slice none 0 0), (6, pV B12 0), (9, pV B24 0), (10, pV B25 0), (12, .slice A29 n29 c29), (13, pV B44 0)] ∧ L = [kS0 A29 n29 c29 x28.2, kS0 A1 n1 c1 a0.Slots, kS0 A2 n2 c2 a0.More, boxC B4 32 [iV a0.Kind, iV a0.Shape, iV a0.Flags, iV a0.Age, .slice A1 n1 c1, .slice A2 n2 c2], boxC B5 32 [iV 0, iV 0, iV 0, iV 0, .slice none 0 0, .slice none 0 0], mapC ekI evB M11 p14, boxC B12 107 [.map (some M11)], kO3 A22 n22 c22 y21.Slots, kO3 A30 n30 c30 p30, boxC B24 32 [iV y21.Kind, iV y21.Shape, iV y21.Flags, iV y21.Age, .slice A22 n22 c22, .slice A30 n30 c30], kO3 A31 n31 c31 p31, boxC B25 25 [.slice A31 n31 c31], boxC B44 38 [iV p46, iV p47, .string p48]]) ?_ ?_
     ·refine run ?_
      obtain ⟨b49, hb49, h⟩ := bind_elim h
      refine G_segb 6 68 b49 ?_ ?_
      ·clear h
       refine G_case 62 rfl (fun g49 => ?_) (fun g49 => ?_)
       ·have h := cond_t g49 hb49
        refine run ?_
        refine G_rd (rd_look1 (a := x43.N) (z := false) 6 rfl map_rw rfl rfl Tryz.underlying107 (keyOk_int Tryz.underlying3) zero4) rfl (g_tt g49 rfl) rfl ?_
        refine run ?_
        obtain rfl := Option.some.inj h
        exact G_joined sA (cv_sel [0, 1, 2, 3, 4, 5, 6, 7, 8, 9, 10, 11, 12] 13 rfl rfl)
       ·have h := cond_f g49 hb49
        refine run ?_
        obtain rfl := Option.some.inj h
        exact G_joined sA (cv_sel [0, 1, 2, 3, 4, 5, 6, 7, 8, 9, 10, 11, 12] 13 rfl rfl)
      refine run ?_
      refine G_cond rfl (fun g50 => ?_) (fun g50 => ?_)
      ·replace h := cond_t g50 h
       refine G_region ?_
       refine gE (ev_build rfl (bld_38_)) ?_
       refine gO (op_store (us := [iV 0, iV 0, .string (⟨#[]⟩)]) (cs' := [iV 0, iV 0, .string (⟨#[]⟩)]) 0 rfl rfl rfl rfl size38 rfl rfl rfl) ?_
       rintro _ _ rfl
       refine G_norm ([boxC B44 38 [iV 0, iV 0, .string (⟨#[]⟩)], kS0 A29 n29 c29 x28.2, kS0 A1 n1 c1 a0.Slots, kS0 A2 n2 c2 a0.More, boxC B4 32 [iV a0.Kind, iV a0.Shape, iV a0.Flags, iV a0.Age, .slice A1 n1 c1, .slice A2 n2 c2], boxC B5 32 [iV 0, iV 0, iV 0, iV 0, .slice none 0 0, .slice none 0 0], mapC ekI evB M11 p14, boxC B12 107 [.map (some M11)], kO3 A22 n22 c22 y21.Slots, kO3 A30 n30 c30 p30, boxC B24 32 [iV y21.Kind, iV y21.Shape, iV y21.Flags, iV y21.Age, .slice A22 n22 c22, .slice A30 n30 c30], kO3 A31 n31 c31 p31, boxC B25 25 [.slice A31 n31 c31]]) rfl ?_
       refine run ?_
       exact ⟨_, _, ⟨0, 0, ⟨#[]⟩, h, rfl, rfl⟩, sA, cv_sel [1, 2, 3, 4, 5, 6, 7, 8, 9, 10, 11, 12, 0] 13 rfl rfl⟩
      ·replace h := cond_f g50 h
       refine run ?_
       exact ⟨_, _, ⟨x43.Kind, x43.N, x43.S, h, rfl, rfl⟩, sA, cv_sel [1, 2, 3, 4, 5, 6, 7, 8, 9, 10, 11, 12, 0] 13 rfl rfl⟩
     ·rintro _ _ ⟨p46, p47, p48, h, rfl, rfl⟩
      obtain ⟨x51, hx51, h⟩ := bind_elim h
      obtain ⟨lx51, ux51, hx51⟩ := getE_elim hx51
      obtain ⟨x52, hx52, h⟩ := bind_elim h
      obtain ⟨lx52, ux52, hx52⟩ := getE_elim hx52
      obtain ⟨x53, hx53, h⟩ := bind_elim h
      obtain ⟨lx53, ux53, hx53⟩ := getE_elim hx53
      refine G_sub (t := [(2, pV B4 0), (4, pV B5 0), (5, .slice none 0 0), (6, pV B12 0), (9, pV B24 0), (10, pV B25 0), (12, .slice A29 n29 c29), (13, pV B44 0)]) ?_ subT (cv_refl _)
      refine G_monoX (by kernel_rfl) 13 [] [1, 12] [70, 71, 72, 73, 74, 75, 76, 77, 78, 79, 80, 81, 82] [[], [0], [], [2], [3], [], [5], [6], [], [], [9], [10], [4, 7, 8, 11]] [aV (pV B24 5),
 aV (.slice A30 n30 c30),
 aV (.slice A29 n29 c29),
 aV (elemQ (.slice A29 n29 c29) ((0 : Int).toNat) 3 0),
 aV (.agg #[iV x51.Kind, iV x51.N, .string x51.S]),
 aV (.slice A29 n29 c29),
 aV (elemQ (.slice A29 n29 c29) ((1 : Int).toNat) 3 0),
 aV (.agg #[iV x52.Kind, iV x52.N, .string x52.S]),
 aV (.agg #[iV p46, iV p47, .string p48]),
 aV (.slice A29 n29 c29),
 aV (elemQ (.slice A29 n29 c29) ((3 : Int).toNat) 3 0),
 aV (.agg #[iV x53.Kind, iV x53.N, .string x53.S]),
 aX3 (fun (A55 : Option Addr) (n55 c55 : Nat) => .slice A55 n55 c55) (fun A55 n55 c55 => [kO3 A55 n55 c55 ([x51, x52, (⟨p46, p47, p48⟩ : DValue), x53] : List DValue)])] [] (cv_refl _) (qB_nil) (by kernel_rfl) rfl rfl ?_ ?_ ?_
      ·exact qs_nil
      ·refine steps_cons rfl ?_ ?_
       ·refine X_op (op_bslice (R := rDValue) (vss := [[iV x51.Kind, iV x51.N, .string x51.S], [iV x52.Kind, iV x52.N, .string x52.S], [iV p46, iV p47, .string p48], [iV x53.Kind, iV x53.N, .string x53.S]]) (xs := [x51, x52, (⟨p46, p47, p48⟩ : DValue), x53]) rfl (bsl_25_4 _ _ _ _ _ _ _ _ _ _ _ _) rfl rfl (fun _ _ hr => .cons rfl (.cons rfl (.cons rfl (.cons rfl All2.nil))))) rfl ?_
        rintro _ _ ⟨A54, n54, c54, rfl, rfl⟩
        exact cvp3 A54 n54 c54 (cv_refl _)
       refine steps_cons rfl ?_ ?_
       ·exact X_rd (rd_elemS (us := [iV x53.Kind, iV x53.N, .string x53.S]) 0 rfl els_sl rfl hx53 agg38 (fun _ _ _ h => by rw [show _ = _ from h]; rfl)) rfl (cvpV rfl (cv_refl _))
       refine steps_cons rfl ?_ ?_
       ·exact X_rd (rd_idx 0 rfl els_sl rfl rfl Tryz.underlying25 size38 lx53 ux53) rfl (cvpV rfl (cv_refl _))
       refine steps_cons rfl ?_ ?_
       ·exact X_ev (ev_move rfl) rfl (cvpV rfl (cv_refl _))
       refine steps_cons rfl ?_ ?_
       ·exact X_rd (rd_boxS (us := [iV p46, iV p47, .string p48]) 12 rfl rfl agg38 rfl) rfl (cvpV rfl (cv_refl _))
       refine steps_cons rfl ?_ ?_
       ·exact X_rd (rd_elemS (us := [iV x52.Kind, iV x52.N, .string x52.S]) 0 rfl els_sl rfl hx52 agg38 (fun _ _ _ h => by rw [show _ = _ from h]; rfl)) rfl (cvpV rfl (cv_refl _))
       refine steps_cons rfl ?_ ?_
       ·exact X_rd (rd_idx 0 rfl els_sl rfl rfl Tryz.underlying25 size38 lx52 ux52) rfl (cvpV rfl (cv_refl _))
       refine steps_cons rfl ?_ ?_
       ·exact X_ev (ev_move rfl) rfl (cvpV rfl (cv_refl _))
       refine steps_cons rfl ?_ ?_
       ·exact X_rd (rd_elemS (us := [iV x51.Kind, iV x51.N, .string x51.S]) 0 rfl els_sl rfl hx51 agg38 (fun _ _ _ h => by rw [show _ = _ from h]; rfl)) rfl (cvpV rfl (cv_refl _))
       refine steps_cons rfl ?_ ?_
       ·exact X_rd (rd_idx 0 rfl els_sl rfl rfl Tryz.underlying25 size38 lx51 ux51) rfl (cvpV rfl (cv_refl _))
       refine steps_cons rfl ?_ ?_
       ·exact X_ev (ev_move rfl) rfl (cvpV rfl (cv_refl _))
       refine steps_cons rfl ?_ ?_
       ·exact X_rd (rd_box1 9 rfl rfl one25 rfl) rfl (cvpV rfl (cv_refl _))
       refine steps_cons rfl ?_ ?_
       ·exact X_ev (ev_fa rfl fa_32_5) rfl (cvpV rfl (cv_refl _))
       exact steps_nil
      ·intro A55 n55 c55
       refine N_sub (t := [(71, .slice A30 n30 c30), (82, .slice A55 n55 c55), (2, pV B4 0), (4, pV B5 0), (5, .slice none 0 0), (6, pV B12 0), (9, pV B24 0), (10, pV B25 0), (12, .slice A29 n29 c29), (13, pV B44 0)]) (L' := [kO3 A55 n55 c55 ([x51, x52, (⟨p46, p47, p48⟩ : DValue), x53] : List DValue), kS0 A29 n29 c29 x28.2, kS0 A1 n1 c1 a0.Slots, kS0 A2 n2 c2 a0.More, boxC B4 32 [iV a0.Kind, iV a0.Shape, iV a0.Flags, iV a0.Age, .slice A1 n1 c1, .slice A2 n2 c2], boxC B5 32 [iV 0, iV 0, iV 0, iV 0, .slice none 0 0, .slice none 0 0], mapC ekI evB M11 p14, boxC B12 107 [.map (some M11)], kO3 A22 n22 c22 y21.Slots, kO3 A30 n30 c30 p30, boxC B24 32 [iV y21.Kind, iV y21.Shape, iV y21.Flags, iV y21.Age, .slice A22 n22 c22, .slice A30 n30 c30], kO3 A31 n31 c31 p31, boxC B25 25 [.slice A31 n31 c31], boxC B44 38 [iV p46, iV p47, .string p48]]) ?_ subT (cv_refl _)
       obtain ⟨q56, h⟩ := req_elim h
       refine N_opd 13 rfl (by kernel_rfl) (op_append 9 0 rfl rfl els_own rfl rfl Tryz.underlying25 zb38 rfl rfl q56) rfl rfl rfl ?_
       rintro _ _ ⟨A57, n57, c57, rfl, rfl⟩
       refine N_ev 14 rfl (by kernel_rfl) (ev_fa rfl fa_32_5) rfl rfl rfl ?_
       refine N_opn 15 rfl (by kernel_rfl) (op_store (us := [.slice A57 n57 c57]) (cs' := [iV y21.Kind, iV y21.Shape, iV y21.Flags, iV y21.Age, .slice A22 n22 c22, .slice A57 n57 c57]) 10 rfl rfl rfl rfl size25 rfl rfl rfl) rfl rfl ?_
       rintro _ _ rfl
       refine N_done (by kernel_rfl) ?_
       refine bk_n ?_
       obtain ⟨rfl, rfl⟩ := Prod.mk.inj (Option.some.inj h)
       exact RK_n ((cv_sel [2, 3, 4, 5, 6, 7, 8, 9, 10, 11, 12] 14 rfl rfl).trans (cv_pack1 ((A57, n57, c57), (A31, n31, c31)) rfl))
   ·rintro ⟨⟨A30, n30, c30⟩, ⟨A31, n31, c31⟩⟩ h
    refine K3_norm ([kS0 A1 n1 c1 a0.Slots, kS0 A2 n2 c2 a0.More, boxC B4 32 [iV a0.Kind, iV a0.Shape, iV a0.Flags, iV a0.Age, .slice A1 n1 c1, .slice A2 n2 c2], boxC B5 32 [iV 0, iV 0, iV 0, iV 0, .slice none 0 0, .slice none 0 0], mapC ekI evB M11 p14, boxC B12 107 [.map (some M11)], kO3 A22 n22 c22 y21.Slots, kO3 A30 n30 c30 y32.2.1, boxC B24 32 [iV y21.Kind, iV y21.Shape, iV y21.Flags, iV y21.Age, .slice A22 n22 c22, .slice A30 n30 c30], kO3 A31 n31 c31 y32.2.2, boxC B25 25 [.slice A31 n31 c31]]) rfl ?_
    refine run ?_
    refine G_seq ?_
    refine G_drawn (by kernel_rfl) ([kS0 A1 n1 c1 a0.Slots, kS0 A2 n2 c2 a0.More, boxC B4 32 [iV a0.Kind, iV a0.Shape, iV a0.Flags, iV a0.Age, .slice A1 n1 c1, .slice A2 n2 c2], mapC ekI evB M11 p14, boxC B12 107 [.map (some M11)], kO3 A22 n22 c22 y21.Slots, kO3 A30 n30 c30 y32.2.1, boxC B24 32 [iV y21.Kind, iV y21.Shape, iV y21.Flags, iV y21.Age, .slice A22 n22 c22, .slice A30 n30 c30], kO3 A31 n31 c31 y32.2.2, boxC B25 25 [.slice A31 n31 c31]]) (cv_sel [0, 1, 2, 4, 5, 6, 7, 8, 9, 10] 11 rfl rfl) ?_
    refine T3_rd 0 rfl (by kernel_rfl) (rd_boxS (us := [iV y21.Kind, iV y21.Shape, iV y21.Flags, iV y21.Age, .slice A22 n22 c22, .slice A30 n30 c30]) 7 rfl rfl agg32 rfl) rfl rfl ?_
    refine T3_rd 1 rfl (by kernel_rfl) (rd_box1 9 rfl rfl one25 rfl) rfl rfl ?_
    refine T3_opn 2 rfl (by kernel_rfl) (op_store (us := [iV y21.Kind, iV y21.Shape, iV y21.Flags, iV y21.Age, .slice A22 n22 c22, .slice A30 n30 c30]) (cs' := [iV y21.Kind, iV y21.Shape, iV y21.Flags, iV y21.Age, .slice A22 n22 c22, .slice A30 n30 c30]) 3 rfl rfl rfl rfl size32 rfl rfl rfl) rfl rfl ?_
    rintro _ _ rfl
    refine ⟨[kS0 A1 n1 c1 a0.Slots, kS0 A2 n2 c2 a0.More, boxC B4 32 [iV a0.Kind, iV a0.Shape, iV a0.Flags, iV a0.Age, .slice A1 n1 c1, .slice A2 n2 c2], mapC ekI evB M11 p14, boxC B12 107 [.map (some M11)], kO3 A22 n22 c22 y21.Slots, kO3 A30 n30 c30 y32.2.1, boxC B24 32 [iV y21.Kind, iV y21.Shape, iV y21.Flags, iV y21.Age, .slice A22 n22 c22, .slice A30 n30 c30], kO3 A31 n31 c31 y32.2.2, boxC B25 25 [.slice A31 n31 c31]], cv_sel [0, 1, 2, 4, 5, 6, 7, 8, 9, 10] 11 rfl rfl, cv_refl _, ?_⟩
    refine T3_norm ([kS0 A1 n1 c1 a0.Slots, kS0 A2 n2 c2 a0.More, boxC B4 32 [iV a0.Kind, iV a0.Shape, iV a0.Flags, iV a0.Age, .slice A1 n1 c1, .slice A2 n2 c2], boxC B5 32 [iV y21.Kind, iV y21.Shape, iV y21.Flags, iV y21.Age, .slice A22 n22 c22, .slice A30 n30 c30], mapC ekI evB M11 p14, boxC B12 107 [.map (some M11)], kO3 A22 n22 c22 y21.Slots, kO3 A30 n30 c30 y32.2.1, boxC B24 32 [iV y21.Kind, iV y21.Shape, iV y21.Flags, iV y21.Age, .slice A22 n22 c22, .slice A30 n30 c30], kO3 A31 n31 c31 y32.2.2, boxC B25 25 [.slice A31 n31 c31]]) rfl ?_
    refine T3_ev 3 rfl (by kernel_rfl) (ev_assign rfl) rfl rfl ?_
    refine T3_done (by kernel_rfl) ?_
    refine run ?_
    obtain rfl := Option.some.inj h
    exact endGl (rs := [.cell 4 32, .tmp 5]) (vs := [.agg #[iV y21.Kind, iV y21.Shape, iV y21.Flags, iV y21.Age, .slice A22 n22 c22, .slice A30 n30 c30], .slice A31 n31 c31]) rfl (.cons (rv_boxS 3 rfl rfl agg32) (.cons (rv_tmp rfl) .nil)) rfl (cv_sel [6, 7, 9] 11 rfl rfl) ⟨_, _, _, _, _, _, _, _, _, rfl, rfl⟩
   ·rintro ⟨⟨A30, n30, c30⟩, ⟨A31, n31, c31⟩⟩ h
    exact none_some h
   ·rintro i ⟨⟨A30, n30, c30⟩, ⟨A31, n31, c31⟩⟩ h
    exact none_some h
theorem finreg_Clean_free {r : (DCell × (List DValue))} : ∀ v post, ((fun (u : Value) (post : List Chunk) => ∃ A0 n0 c0 A1 n1 c1 A2 n2 c2, u = .tuple #[.agg #[iV r.1.Kind, iV r.1.Shape, iV r.1.Flags, iV r.1.Age, .slice A0 n0 c0, .slice A1 n1 c1], .slice A2 n2 c2] ∧ post = [kO3 A0 n0 c0 r.1.Slots, kO3 A1 n1 c1 r.1.More, kO3 A2 n2 c2 r.2])) v post → ∀ c ∈ post, Free c := by
 rintro _ _ ⟨_, _, _, _, _, _, _, _, _, rfl, rfl⟩; exact mem_cons free_own (mem_cons free_own (mem_cons free_own (mem_nil)))
def major_moved_j3 (N : Nat) (p4 : (List DValue)) : Option (List DValue) :=
 some p4
def major_moved_j12 (N : Nat) (kb5 : (List DValue) → Int → Option (List DValue)) (a0 : (List DValue)) (p7 : Int) (a1 : (List (Int × Int))) (p6 : (List DValue)) (x10 : DValue) (p13 : Int) : Option (List DValue) :=
 req (fitsL (p6.length + ([(⟨x10.Kind, p13, x10.S⟩ : DValue)] : List DValue).length)) (req (in64 (p7 + 1)) (kb5 (p6 ++ ([(⟨x10.Kind, p13, x10.S⟩ : DValue)] : List DValue)) (p7 + 1)))
def major_moved_l5 (N : Nat) (a0 : (List DValue)) (a1 : (List (Int × Int))) : Nat → (List DValue) → Int → Option (List DValue)
 | 0, _, _ => none
 | m5 + 1, p6, p7 => bif decide (p7 < (a0.length : Int)) then ((getE a0 p7).bind fun x10 => (bif (lk a1 x10.N).isSome then ((bif decide (x10.Kind = 7) then (some true) else (some (decide (x10.Kind = 9)))).bind fun b15 => some b15) else (some false)).bind fun b14 => bif b14 then (major_moved_j12 N (major_moved_l5 N a0 a1 m5) a0 p7 a1 p6 x10 ((lk a1 x10.N).getD 0)) else (major_moved_j12 N (major_moved_l5 N a0 a1 m5) a0 p7 a1 p6 x10 x10.N)) else (major_moved_j3 N p6)
theorem major_moved_l5_s {N m5 : Nat} {a0 : (List DValue)} {a1 : (List (Int × Int))} {p6 : (List DValue)} {p7 : Int} : major_moved_l5 N a0 a1 (m5 + 1) p6 p7 = bif decide (p7 < (a0.length : Int)) then ((getE a0 p7).bind fun x10 => (bif (lk a1 x10.N).isSome then ((bif decide (x10.Kind = 7) then (some true) else (some (decide (x10.Kind = 9)))).bind fun b15 => some b15) else (some false)).bind fun b14 => bif b14 then (major_moved_j12 N (major_moved_l5 N a0 a1 m5) a0 p7 a1 p6 x10 ((lk a1 x10.N).getD 0)) else (major_moved_j12 N (major_moved_l5 N a0 a1 m5) a0 p7 a1 p6 x10 x10.N)) else (major_moved_j3 N p6) := rfl
def major_moved_O (N : Nat) (a0 : (List DValue)) (a1 : (List (Int × Int))) : Option (List DValue) :=
 major_moved_l5 N a0 a1 N [] 0
theorem major_moved_ok {N : Nat} {a0 : (List DValue)} {a1 : (List (Int × Int))} {r : (List DValue)} (h : major_moved_O N a0 a1 = some r) {A1 : Option Addr} {n1 c1 : Nat} {M2 : Nat} : Okc Tryz.prog 82 [.slice A1 n1 c1, .map (some M2)] ([kS0 A1 n1 c1 a0, romC ekI evI M2 a1]) (fun (u : Value) (post : List Chunk) => ∃ A0 n0 c0, u = .slice A0 n0 c0 ∧ post = [kO3 A0 n0 c0 r]) := by
 refine ok_E Tryz.func82 rfl rfl ?_
 simp only [envOf]
 refine run ?_
 refine G_joinF (fun s L => ∃ (p4 : (List DValue)) (A4 : Option Addr) (n4 c4 : Nat), major_moved_j3 N p4 = some r ∧ s = [(4, .slice none 0 0), (5, .slice A4 n4 c4)] ∧ L = [kO3 A4 n4 c4 p4]) ?_ ?_
 ·refine run ?_
  refine gR (rd_len 0 rfl els_sl rfl Tryz.underlying25) ?_
  refine run ?_
  refine G_loopF (fun m s L => ∃ (p6 : (List DValue)) (p7 : Int) (A6 : Option Addr) (n6 c6 : Nat), major_moved_l5 N a0 a1 m p6 p7 = some r ∧ s = [(1, .map (some M2)), (4, .slice none 0 0), (5, .slice A6 n6 c6), (10, .slice A1 n1 c1), (11, iV (a0.length : Int)), (12, iV p7)] ∧ L = [romC ekI evI M2 a1, kO3 A6 n6 c6 p6, kS0 A1 n1 c1 a0]) N _ _ ⟨[], 0, none, 0, 0, h, rfl, rfl⟩ sA ((cv_nil rDValue 38 _).trans (cv_sel [2, 0, 1] 3 rfl rfl)) ?_
  rintro (_ | m5) _ _ ⟨p6, p7, A6, n6, c6, h, rfl, rfl⟩
  ·exact none_some h
  rw [major_moved_l5_s] at h
  refine run ?_
  refine G_seq ?_
  refine G_cond rfl (fun g9 => ?_) (fun g9 => ?_)
  ·replace h := cond_t g9 h
   refine run ?_
   refine G_seq ?_
   refine run ?_
   obtain ⟨x10, hx10, h⟩ := bind_elim h
   obtain ⟨lx10, ux10, hx10⟩ := getE_elim hx10
   refine gR (rd_idx 2 rfl els_sl rfl rfl Tryz.underlying25 size38 lx10 ux10) ?_
   refine gR (rd_elemS (us := [iV x10.Kind, iV x10.N, .string x10.S]) 2 rfl els_sl rfl hx10 agg38 (fun _ _ _ h => by rw [show _ = _ from h]; rfl)) ?_
   refine gD (op_alloc zero38 rfl) ?_
   rintro _ _ ⟨B11, rfl, rfl⟩
   refine gO (op_store (us := [iV x10.Kind, iV x10.N, .string x10.S]) (cs' := [iV x10.Kind, iV x10.N, .string x10.S]) 0 rfl rfl rfl rfl size38 rfl rfl rfl) ?_
   rintro _ _ rfl
   refine run ?_
   refine G_joinF (fun s L => ∃ (p13 : Int), major_moved_j12 N (major_moved_l5 N a0 a1 m5) a0 p7 a1 p6 x10 p13 = some r ∧ s = [(1, .map (some M2)), (4, .slice none 0 0), (5, .slice A6 n6 c6), (7, pV B11 0), (10, .slice A1 n1 c1), (11, iV (a0.length : Int)), (12, iV p7)] ∧ L = [romC ekI evI M2 a1, kO3 A6 n6 c6 p6, kS0 A1 n1 c1 a0, boxC B11 38 [iV x10.Kind, iV p13, .string x10.S]]) ?_ ?_
   ·refine run ?_
    refine gR (rd_look2 (a := x10.N) (z := 0) 1 rfl map_ro rfl rfl Tryz.underlying88 (keyOk_int Tryz.underlying3) zero3) ?_
    refine run ?_
    obtain ⟨b14, hb14, h⟩ := bind_elim h
    refine G_segb 9 33 b14 ?_ ?_
    ·clear h
     refine G_case 24 rfl (fun g14 => ?_) (fun g14 => ?_)
     ·have h := cond_t g14 hb14
      refine run ?_
      obtain ⟨b15, hb15, h⟩ := bind_elim h
      refine G_segb 4 32 b15 ?_ ?_
      ·clear h
       refine G_case 28 rfl (fun g15 => ?_) (fun g15 => ?_)
       ·have h := cond_t g15 hb15
        refine run ?_
        obtain rfl := Option.some.inj h
        exact G_joined sA (cv_sel [0, 1, 2, 3] 4 rfl rfl)
       ·have h := cond_f g15 hb15
        refine run ?_
        obtain rfl := Option.some.inj h
        exact G_joined sA (cv_sel [0, 1, 2, 3] 4 rfl rfl)
      refine run ?_
      obtain rfl := Option.some.inj h
      exact G_joined sA (cv_sel [0, 1, 2, 3] 4 rfl rfl)
     ·have h := cond_f g14 hb14
      refine run ?_
      obtain rfl := Option.some.inj h
      exact G_joined sA (cv_sel [0, 1, 2, 3] 4 rfl rfl)
    refine run ?_
    refine G_cond rfl (fun g16 => ?_) (fun g16 => ?_)
    ·replace h := cond_t g16 h
     refine run ?_
     refine gO (op_store (us := [iV ((lk a1 x10.N).getD 0)]) (cs' := [iV x10.Kind, iV ((lk a1 x10.N).getD 0), .string x10.S]) 0 rfl rfl rfl rfl size3 rfl rfl rfl) ?_
     rintro _ _ rfl
     refine run ?_
     exact ⟨_, _, ⟨(lk a1 x10.N).getD 0, h, rfl, rfl⟩, sA, cv_sel [1, 2, 3, 0] 4 rfl rfl⟩
    ·replace h := cond_f g16 h
     refine run ?_
     exact ⟨_, _, ⟨x10.N, h, rfl, rfl⟩, sA, cv_sel [1, 2, 3, 0] 4 rfl rfl⟩
   ·rintro _ _ ⟨p13, h, rfl, rfl⟩
    refine run ?_
    refine gR (rd_boxS (us := [iV x10.Kind, iV p13, .string x10.S]) 3 rfl rfl agg38 rfl) ?_
    refine gD (op_bslice (R := rDValue) (vss := [[iV x10.Kind, iV p13, .string x10.S]]) (xs := [(⟨x10.Kind, p13, x10.S⟩ : DValue)]) rfl (bsl_25_1 _ _ _) rfl rfl (fun _ _ hr => .cons rfl All2.nil)) ?_
    rintro _ _ ⟨A17, n17, c17, rfl, rfl⟩
    obtain ⟨q18, h⟩ := req_elim h
    refine gD (op_append 2 0 rfl rfl els_own rfl rfl Tryz.underlying25 zb38 rfl rfl q18) ?_
    rintro _ _ ⟨A19, n19, c19, rfl, rfl⟩
    refine G_norm ([kO3 A17 n17 c17 ([(⟨x10.Kind, p13, x10.S⟩ : DValue)] : List DValue), romC ekI evI M2 a1, kO3 A19 n19 c19 (p6 ++ ([(⟨x10.Kind, p13, x10.S⟩ : DValue)] : List DValue)), kS0 A1 n1 c1 a0, boxC B11 38 [iV x10.Kind, iV p13, .string x10.S]]) rfl ?_
    refine run ?_
    obtain ⟨q20, h⟩ := req_elim h
    refine gE (ev_add rfl rfl q20.1 q20.2) ?_
    refine run ?_
    exact ⟨m5, _, _, Nat.lt_succ_self _, ⟨p6 ++ ([(⟨x10.Kind, p13, x10.S⟩ : DValue)] : List DValue), p7 + 1, A19, n19, c19, h, rfl, rfl⟩, sA, cv_sel [1, 2, 3] 5 rfl rfl⟩
  ·replace h := cond_f g9 h
   refine run ?_
   exact ⟨_, _, ⟨p6, A6, n6, c6, h, rfl, rfl⟩, sA, cv_sel [1] 3 rfl rfl⟩
 ·rintro _ _ ⟨p4, A4, n4, c4, h, rfl, rfl⟩
  refine run ?_
  obtain rfl := Option.some.inj h
  exact endG1 rfl rfl (cv_sel [0] 1 rfl rfl) ⟨_, _, _, rfl, rfl⟩
theorem major_moved_free {r : (List DValue)} : ∀ v post, ((fun (u : Value) (post : List Chunk) => ∃ A0 n0 c0, u = .slice A0 n0 c0 ∧ post = [kO3 A0 n0 c0 r])) v post → ∀ c ∈ post, Free c := by
 rintro _ _ ⟨_, _, _, rfl, rfl⟩; exact mem_cons free_own (mem_nil)
def major_Collect_j37 (N : Nat) (a1 : (List DValue)) (a0 : DMemory) (p28 : (List DCell)) (y13 : ((List Int))) (y22 : (Option Exit × (List (Int × Int)))) (p38 : (List DValue)) (p39 : Int) (p40 : Int) (p41 : Int) (p42 : Int) (p43 : (List DValue)) (p44 : (List DValue)) : Option (Option Exit × (List DCell) × (List DValue)) :=
 (major_moved_O N p43 y22.2).bind fun y56 => (major_moved_O N p44 y22.2).bind fun y59 => req (fitsL (p28.length + ([(⟨p39, p40, p41, p42, y56, y59⟩ : DCell)] : List DCell).length)) (some (none, (p28 ++ ([(⟨p39, p40, p41, p42, y56, y59⟩ : DCell)] : List DCell), p38)))
def major_Collect_b27 (N : Nat) (a1 : (List DValue)) (a0 : DMemory) (y13 : ((List Int))) (y22 : (Option Exit × (List (Int × Int)))) (x27 : Int × Int) : ((List DCell) × (List DValue)) → Option (Option Exit × ((List DCell) × (List DValue)))
 |(p28, p29) => (reach_At_O N a0 x27.2).bind fun y33 => bif decide (y33.Kind = 8) then ((weak_Clean_O N y33 y13).bind fun y46 => major_Collect_j37 N a1 a0 p28 y13 y22 p29 y46.Kind y46.Shape y46.Flags y46.Age y46.Slots y46.More) else (bif decide (y33.Kind = 10) then ((finreg_Clean_O N y33 y13).bind fun y50 => req (fitsL (p29.length + y50.2.length)) (major_Collect_j37 N a1 a0 p28 y13 y22 (p29 ++ y50.2) y50.1.Kind y50.1.Shape y50.1.Flags y50.1.Age y50.1.Slots y50.1.More)) else (major_Collect_j37 N a1 a0 p28 y13 y22 p29 y33.Kind y33.Shape y33.Flags y33.Age y33.Slots y33.More))
def major_Collect_b20 (N : Nat) (a1 : (List DValue)) (a0 : DMemory) (y13 : ((List Int))) (x20 : Int × Int) : ((List (Int × Int))) → Option (Option Exit × (List (Int × Int)))
 | p21 => req (in64 (2 * x20.1)) (req (in64 ((2 * x20.1) + 2)) (some (none, upL p21 x20.2 ((2 * x20.1) + 2))))
def major_Collect_O (N : Nat) (a0 : DMemory) (a1 : (List DValue)) : Option (DMemory × (List DValue) × (List DValue) × Int) :=
 (major_check_O N a0 a1).bind fun y7 => bif !decide (y7 = 0) then (some ((⟨[], []⟩ : DMemory), [], [], y7)) else ((reach_Live_O N a0 a1).bind fun y13 => (major_order_O N y13).bind fun y18 => (major_order_c1_O N y13 (liftR (fun x st => major_Collect_b20 N a1 a0 y13 x st)) (none, ([] : (List (Int × Int))))).bind fun y22 => caseX y22.1 ((major_order_O N y13).bind fun y25 => (major_order_c1_O N y13 (liftR (fun x st => major_Collect_b27 N a1 a0 y13 y22 x st)) (none, ([], []))).bind fun y30 => caseX y30.1 ((major_moved_O N a1 y22.2).bind fun y65 => (major_moved_O N y30.2.2 y22.2).bind fun y68 => some ((⟨[], y30.2.1⟩ : DMemory), y65, y68, 0)) none (fun _ => none)) none (fun _ => none))
set_option maxHeartbeats 4000000 in
theorem major_Collect_ok {N : Nat} {a0 : DMemory} {a1 : (List DValue)} {r : (DMemory × (List DValue) × (List DValue) × Int)} (h : major_Collect_O N a0 a1 = some r) {A1 : Option Addr} {n1 c1 : Nat} {A2 : Option Addr} {n2 c2 : Nat} {A3 : Option Addr} {n3 c3 : Nat} : Okc Tryz.prog 31 [.agg #[.slice A1 n1 c1, .slice A2 n2 c2], .slice A3 n3 c3] ([kS1 A1 n1 c1 a0.Young, kS1 A2 n2 c2 a0.Old, kS0 A3 n3 c3 a1]) (fun (u : Value) (post : List Chunk) => ∃ A0 n0 c0 A1 n1 c1 A2 n2 c2 A3 n3 c3, u = .tuple #[.agg #[.slice A0 n0 c0, .slice A1 n1 c1], .slice A2 n2 c2, .slice A3 n3 c3, iV r.2.2.2] ∧ post = [kO4 A0 n0 c0 r.1.Young, kO4 A1 n1 c1 r.1.Old, kO3 A2 n2 c2 r.2.1, kO3 A3 n3 c3 r.2.2.1]) := by
 refine ok_E Tryz.func31 rfl rfl ?_
 simp only [envOf]
 refine run ?_
 refine gD (op_box rfl rfl) ?_
 rintro _ _ ⟨B4, rfl, rfl⟩
 refine gD (op_alloc zero24 rfl) ?_
 rintro _ _ ⟨B5, rfl, rfl⟩
 refine run ?_
 refine gD (op_alloc zero25 rfl) ?_
 rintro _ _ ⟨B6, rfl, rfl⟩
 refine run ?_
 refine G_seq ?_
 refine run ?_
 refine gR (rd_boxS (us := [.slice A1 n1 c1, .slice A2 n2 c2]) 2 rfl rfl agg24 rfl) ?_
 refine run ?_
 obtain ⟨y7, hy7, h⟩ := bind_elim h
 refine gD (op_callR (major_check_ok hy7) call78 rfl (mem_cons (lent_ro (i := 3) rfl rfl) (mem_cons (lent_ro (i := 4) rfl rfl) (mem_cons (lent_ro (i := 5) rfl rfl) mem_nil))) major_check_free) ?_
 rintro _ _ ⟨_, ⟨rfl, rfl⟩, rfl⟩
 refine run ?_
 refine G_cond rfl (fun g8 => ?_) (fun g8 => ?_)
 ·replace h := cond_t g8 h
  refine run ?_
  refine gE (ev_build rfl (bld_24_)) ?_
  refine run ?_
  refine gO (op_store (us := [.slice none 0 0, .slice none 0 0]) (cs' := [.slice none 0 0, .slice none 0 0]) 1 rfl rfl rfl rfl size24 rfl rfl rfl) ?_
  rintro _ _ rfl
  refine run ?_
  refine gO (op_store (us := [.slice none 0 0]) (cs' := [.slice none 0 0]) 0 rfl rfl rfl rfl size25 rfl rfl rfl) ?_
  rintro _ _ rfl
  refine run ?_
  obtain rfl := Option.some.inj h
  exact endGl (rs := [.cell 4 24, .tmp 5, .cell 6 25, .tmp 7]) (vs := [.agg #[.slice none 0 0, .slice none 0 0], .slice none 0 0, .slice none 0 0, iV y7]) rfl (.cons (rv_boxS 1 rfl rfl agg24) (.cons (rv_tmp rfl) (.cons (rv_box1 0 rfl rfl one25) (.cons (rv_tmp rfl) .nil)))) rfl ((cv_nil rDCell 32 _).trans ((cv_nil rDCell 32 _).trans ((cv_nil rDValue 38 _).trans ((cv_nil rDValue 38 _).trans (cv_sel [3, 2, 1, 0] 10 rfl rfl))))) ⟨_, _, _, _, _, _, _, _, _, _, _, _, rfl, rfl⟩
 ·replace h := cond_f g8 h
  refine run ?_
  refine gR (rd_boxS (us := [.slice A1 n1 c1, .slice A2 n2 c2]) 2 rfl rfl agg24 rfl) ?_
  refine run ?_
  obtain ⟨y13, hy13, h⟩ := bind_elim h
  refine gD (op_callR (reach_Live_ok hy13) call23 rfl (mem_cons (lent_ro (i := 3) rfl rfl) (mem_cons (lent_ro (i := 4) rfl rfl) (mem_cons (lent_ro (i := 5) rfl rfl) mem_nil))) reach_Live_free) ?_
  rintro _ _ ⟨_, ⟨A14, n14, c14, rfl, rfl⟩, rfl⟩
  refine gD (op_alloc zero35 rfl) ?_
  rintro _ _ ⟨B15, rfl, rfl⟩
  refine gO (op_store (us := [.slice A14 n14 c14]) (cs' := [.slice A14 n14 c14]) 0 rfl rfl rfl rfl size35 rfl rfl rfl) ?_
  rintro _ _ rfl
  refine G_norm ([boxC B15 35 [.slice A14 n14 c14], kO2 A14 n14 c14 y13, boxC B6 25 [.slice none 0 0], boxC B5 24 [.slice none 0 0, .slice none 0 0], boxC B4 24 [.slice A1 n1 c1, .slice A2 n2 c2], kS1 A1 n1 c1 a0.Young, kS1 A2 n2 c2 a0.Old, kS0 A3 n3 c3 a1]) rfl ?_
  refine run ?_
  refine gD (op_makeMap (ek := ekI) (ev := evI)) ?_
  rintro _ _ ⟨M16, rfl, rfl⟩
  refine gD (op_alloc zero88 rfl) ?_
  rintro _ _ ⟨B17, rfl, rfl⟩
  refine gO (op_store (us := [.map (some M16)]) (cs' := [.map (some M16)]) 0 rfl rfl rfl rfl size88 rfl rfl rfl) ?_
  rintro _ _ rfl
  refine run ?_
  refine G_seq ?_
  refine run ?_
  obtain ⟨y18, hy18, h⟩ := bind_elim h
  refine gD (op_callR (major_order_ok hy18) call79 rfl (mem_cons (lent_own (i := 3) rfl) mem_nil) major_order_free) ?_
  rintro _ _ ⟨_, ⟨B19, rfl, rfl⟩, rfl⟩
  refine G_nil ?_
  refine nx_n ?_
  refine G_sub ?_ sub_refl (cv_frzbox 0 rfl)
  refine G_sub ?_ sub_refl (cv_frz 4 rfl)
  refine Wq_norm ([rboxC B19 35 [.slice A14 n14 c14], boxC B17 88 [.map (some M16)], mapC ekI evI M16 ([] : (List (Int × Int))), boxC B15 35 [.slice A14 n14 c14], kS5 A14 n14 c14 y13, boxC B6 25 [.slice none 0 0], boxC B5 24 [.slice none 0 0, .slice none 0 0], boxC B4 24 [.slice A1 n1 c1, .slice A2 n2 c2], kS1 A1 n1 c1 a0.Young, kS1 A2 n2 c2 a0.Old, kS0 A3 n3 c3 a1]) rfl ?_
  obtain ⟨y22, hy22, h⟩ := bind_elim h
  refine G_rangeX (en := (fun x => [iV x.1, iV x.2])) (fun x st => major_Collect_b20 N a1 a0 y13 x st) (fun (st : (List (Int × Int))) (mz : Unit) => [kS0 A3 n3 c3 a1, kS1 A1 n1 c1 a0.Young, kS1 A2 n2 c2 a0.Old, boxC B4 24 [.slice A1 n1 c1, .slice A2 n2 c2], boxC B5 24 [.slice none 0 0, .slice none 0 0], boxC B6 25 [.slice none 0 0], kS5 A14 n14 c14 y13, boxC B15 35 [.slice A14 n14 c14], mapC ekI evI M16 st, boxC B17 88 [.map (some M16)]]) [rboxC B19 35 [.slice A14 n14 c14], kS5 A14 n14 c14 y13] (([] : (List (Int × Int)))) (()) rfl rfl call131 rfl (fun _ => rfl) (fun l G hY => (major_order_c1_ok hy22 hY).mono fun _ _ hh => hh.2) (cv_take [0, 4] [] [10, 8, 9, 7, 6, 5, 4, 3, 2, 1] 11 rfl) h ?_ ?_ ?_ ?_
  ·rintro l x20 p21 je sr20 _ h
   replace h : major_Collect_b20 N a1 a0 y13 x20 p21 = some (je, sr20) := h
   simp only [envR, List.zip_cons_cons, List.zip_nil_left, List.zip_nil_right, List.reverse_cons, List.reverse_nil, List.nil_append, List.cons_append]
   refine run ?_
   refine gR (rd_box1 9 rfl rfl one88 rfl) ?_
   refine run ?_
   obtain ⟨q23, h⟩ := req_elim h
   refine gE (ev_mul rfl rfl q23.1 q23.2) ?_
   obtain ⟨q24, h⟩ := req_elim h
   refine gE (ev_add rfl rfl q24.1 q24.2) ?_
   refine gO (op_mapUpdate (a := x20.2) (b := (2 * x20.1) + 2) 8 rfl rfl rfl rfl Tryz.underlying88 (keyOk_int Tryz.underlying3)) ?_
   rintro _ _ rfl
   refine run ?_
   obtain ⟨rfl, rfl⟩ := Prod.mk.inj (Option.some.inj h)
   exact RK_n ((cv_sel [0, 1, 2, 3, 4, 5, 6, 7, 8, 9] 10 rfl rfl).trans (cv_pack1 () rfl))
  ·rintro _ h
   refine K3_norm ([kS0 A3 n3 c3 a1, kS1 A1 n1 c1 a0.Young, kS1 A2 n2 c2 a0.Old, boxC B4 24 [.slice A1 n1 c1, .slice A2 n2 c2], boxC B5 24 [.slice none 0 0, .slice none 0 0], boxC B6 25 [.slice none 0 0], kS5 A14 n14 c14 y13, boxC B15 35 [.slice A14 n14 c14], mapC ekI evI M16 y22.2, boxC B17 88 [.map (some M16)]]) rfl ?_
   refine run ?_
   refine G_seq ?_
   refine run ?_
   obtain ⟨y25, hy25, h⟩ := bind_elim h
   refine gD (op_callR (major_order_ok hy25) call79 rfl (mem_cons (lent_ro (i := 6) rfl rfl) mem_nil) major_order_free) ?_
   rintro _ _ ⟨_, ⟨B26, rfl, rfl⟩, rfl⟩
   refine G_nil ?_
   refine nx_n ?_
   refine G_sub ?_ sub_refl (cv_frzbox 0 rfl)
   obtain ⟨y30, hy30, h⟩ := bind_elim h
   refine G_rangeX (en := (fun x => [iV x.1, iV x.2])) (fun x st => major_Collect_b27 N a1 a0 y13 y22 x st) (fun (st : (List DCell) × (List DValue)) (mz : ((Option Addr × Nat × Nat) × (Option Addr × Nat × Nat))) => [kS0 A3 n3 c3 a1, kS1 A1 n1 c1 a0.Young, kS1 A2 n2 c2 a0.Old, boxC B4 24 [.slice A1 n1 c1, .slice A2 n2 c2], ownC rDCell 32 (.slice mz.1.1 mz.1.2.1 mz.1.2.2) st.1, boxC B5 24 [.slice none 0 0, .slice mz.1.1 mz.1.2.1 mz.1.2.2], ownC rDValue 38 (.slice mz.2.1 mz.2.2.1 mz.2.2.2) st.2, boxC B6 25 [.slice mz.2.1 mz.2.2.1 mz.2.2.2], kS5 A14 n14 c14 y13, boxC B15 35 [.slice A14 n14 c14], mapC ekI evI M16 y22.2, boxC B17 88 [.map (some M16)]]) [rboxC B26 35 [.slice A14 n14 c14], kS5 A14 n14 c14 y13] (([], [])) (((none, 0, 0), (none, 0, 0))) rfl rfl call131 rfl (fun _ => rfl) (fun l G hY => (major_order_c1_ok hy30 hY).mono fun _ _ hh => hh.2) ((cv_nil rDCell 32 _).trans ((cv_nil rDValue 38 _).trans (cv_take [2, 9] [] [3, 4, 5, 6, 1, 7, 0, 8, 9, 10, 11, 12] 13 rfl))) h ?_ ?_ ?_ ?_
   ·rintro l x27 ⟨p28, p29⟩ je sr27 ⟨⟨A28, n28, c28⟩, ⟨A29, n29, c29⟩⟩ h
    replace h : major_Collect_b27 N a1 a0 y13 y22 x27 (p28, p29) = some (je, sr27) := h
    simp only [envR, List.zip_cons_cons, List.zip_nil_left, List.zip_nil_right, List.reverse_cons, List.reverse_nil, List.nil_append, List.cons_append]
    refine run ?_
    refine gR (rd_boxS (us := [.slice A1 n1 c1, .slice A2 n2 c2]) 3 rfl rfl agg24 rfl) ?_
    refine run ?_
    obtain ⟨y33, hy33, h⟩ := bind_elim h
    refine gD (op_callR (reach_At_ok hy33) call16 rfl (mem_cons (lent_ro (i := 1) rfl rfl) (mem_cons (lent_ro (i := 2) rfl rfl) mem_nil)) reach_At_free) ?_
    rintro _ _ ⟨_, ⟨A34, n34, c34, A35, n35, c35, rfl, rfl⟩, rfl⟩
    refine gD (op_alloc zero32 rfl) ?_
    rintro _ _ ⟨B36, rfl, rfl⟩
    refine gO (op_store (us := [iV y33.Kind, iV y33.Shape, iV y33.Flags, iV y33.Age, .slice A34 n34 c34, .slice A35 n35 c35]) (cs' := [iV y33.Kind, iV y33.Shape, iV y33.Flags, iV y33.Age, .slice A34 n34 c34, .slice A35 n35 c35]) 0 rfl rfl rfl rfl size32 rfl rfl rfl) ?_
    rintro _ _ rfl
    refine G_norm ([boxC B36 32 [iV y33.Kind, iV y33.Shape, iV y33.Flags, iV y33.Age, .slice A34 n34 c34, .slice A35 n35 c35], kO3 A34 n34 c34 y33.Slots, kO3 A35 n35 c35 y33.More, kS0 A3 n3 c3 a1, kS1 A1 n1 c1 a0.Young, kS1 A2 n2 c2 a0.Old, boxC B4 24 [.slice A1 n1 c1, .slice A2 n2 c2], kO4 A28 n28 c28 p28, boxC B5 24 [.slice none 0 0, .slice A28 n28 c28], kO3 A29 n29 c29 p29, boxC B6 25 [.slice A29 n29 c29], kS5 A14 n14 c14 y13, boxC B15 35 [.slice A14 n14 c14], mapC ekI evI M16 y22.2, boxC B17 88 [.map (some M16)]]) rfl ?_
    refine run ?_
    refine G_joinF (fun s L => ∃ (p38 : (List DValue)) (p39 : Int) (p40 : Int) (p41 : Int) (p42 : Int) (p43 : (List DValue)) (p44 : (List DValue)) (A38 : Option Addr) (n38 c38 : Nat) (A43 : Option Addr) (n43 c43 : Nat) (A44 : Option Addr) (n44 c44 : Nat), major_Collect_j37 N a1 a0 p28 y13 y22 p38 p39 p40 p41 p42 p43 p44 = some (je, sr27) ∧ s = [(1, .slice A3 n3 c3), (2, pV B4 0), (4, pV B5 0), (5, .slice none 0 0), (6, pV B6 0), (7, iV 0), (9, pV B15 0), (10, pV B17 0), (15, pV B36 0)] ∧ L = [kS0 A3 n3 c3 a1, kS1 A1 n1 c1 a0.Young, kS1 A2 n2 c2 a0.Old, boxC B4 24 [.slice A1 n1 c1, .slice A2 n2 c2], kO4 A28 n28 c28 p28, boxC B5 24 [.slice none 0 0, .slice A28 n28 c28], kO3 A38 n38 c38 p38, boxC B6 25 [.slice A38 n38 c38], kS5 A14 n14 c14 y13, boxC B15 35 [.slice A14 n14 c14], mapC ekI evI M16 y22.2, boxC B17 88 [.map (some M16)], kO3 A43 n43 c43 p43, kO3 A44 n44 c44 p44, boxC B36 32 [iV p39, iV p40, iV p41, iV p42, .slice A43 n43 c43, .slice A44 n44 c44]]) ?_ ?_
    ·refine run ?_
     refine G_cond rfl (fun g45 => ?_) (fun g45 => ?_)
     ·replace h := cond_t g45 h
      refine G_region ?_
      refine gR (rd_boxS (us := [iV y33.Kind, iV y33.Shape, iV y33.Flags, iV y33.Age, .slice A34 n34 c34, .slice A35 n35 c35]) 0 rfl rfl agg32 rfl) ?_
      refine gR (rd_box1 12 rfl rfl one35 rfl) ?_
      obtain ⟨y46, hy46, h⟩ := bind_elim h
      refine gD (op_callR (weak_Clean_ok hy46) call80 rfl (mem_cons (lent_own (i := 1) rfl) (mem_cons (lent_own (i := 2) rfl) (mem_cons (lent_ro (i := 11) rfl rfl) mem_nil))) weak_Clean_free) ?_
      rintro _ _ ⟨_, ⟨A47, n47, c47, A48, n48, c48, rfl, rfl⟩, rfl⟩
      refine gO (op_store (us := [iV y46.Kind, iV y46.Shape, iV y46.Flags, iV y46.Age, .slice A47 n47 c47, .slice A48 n48 c48]) (cs' := [iV y46.Kind, iV y46.Shape, iV y46.Flags, iV y46.Age, .slice A47 n47 c47, .slice A48 n48 c48]) 2 rfl rfl rfl rfl size32 rfl rfl rfl) ?_
      rintro _ _ rfl
      refine run ?_
      exact ⟨_, _, ⟨p29, y46.Kind, y46.Shape, y46.Flags, y46.Age, y46.Slots, y46.More, A29, n29, c29, A47, n47, c47, A48, n48, c48, h, rfl, rfl⟩, sA, cv_sel [5, 6, 7, 8, 9, 10, 11, 12, 13, 14, 15, 16, 0, 1, 2] 17 rfl rfl⟩
     ·replace h := cond_f g45 h
      refine run ?_
      refine G_cond rfl (fun g49 => ?_) (fun g49 => ?_)
      ·replace h := cond_t g49 h
       refine run ?_
       refine gR (rd_boxS (us := [iV y33.Kind, iV y33.Shape, iV y33.Flags, iV y33.Age, .slice A34 n34 c34, .slice A35 n35 c35]) 0 rfl rfl agg32 rfl) ?_
       refine gR (rd_box1 12 rfl rfl one35 rfl) ?_
       obtain ⟨y50, hy50, h⟩ := bind_elim h
       refine gD (op_callR (finreg_Clean_ok hy50) call81 rfl (mem_cons (lent_own (i := 1) rfl) (mem_cons (lent_own (i := 2) rfl) (mem_cons (lent_ro (i := 11) rfl rfl) mem_nil))) finreg_Clean_free) ?_
       rintro _ _ ⟨_, ⟨A51, n51, c51, A52, n52, c52, A53, n53, c53, rfl, rfl⟩, rfl⟩
       refine run ?_
       refine gO (op_store (us := [iV y50.1.Kind, iV y50.1.Shape, iV y50.1.Flags, iV y50.1.Age, .slice A51 n51 c51, .slice A52 n52 c52]) (cs' := [iV y50.1.Kind, iV y50.1.Shape, iV y50.1.Flags, iV y50.1.Age, .slice A51 n51 c51, .slice A52 n52 c52]) 3 rfl rfl rfl rfl size32 rfl rfl rfl) ?_
       rintro _ _ rfl
       refine run ?_
       refine gR (rd_box1 13 rfl rfl one25 rfl) ?_
       refine run ?_
       obtain ⟨q54, h⟩ := req_elim h
       refine gD (op_append 12 2 rfl rfl els_own rfl rfl Tryz.underlying25 zb38 rfl rfl q54) ?_
       rintro _ _ ⟨A55, n55, c55, rfl, rfl⟩
       refine G_norm ([kO3 A51 n51 c51 y50.1.Slots, kO3 A52 n52 c52 y50.1.More, kO3 A53 n53 c53 y50.2, boxC B36 32 [iV y50.1.Kind, iV y50.1.Shape, iV y50.1.Flags, iV y50.1.Age, .slice A51 n51 c51, .slice A52 n52 c52], kO3 A34 n34 c34 y33.Slots, kO3 A35 n35 c35 y33.More, kS0 A3 n3 c3 a1, kS1 A1 n1 c1 a0.Young, kS1 A2 n2 c2 a0.Old, boxC B4 24 [.slice A1 n1 c1, .slice A2 n2 c2], kO4 A28 n28 c28 p28, boxC B5 24 [.slice none 0 0, .slice A28 n28 c28], kO3 A55 n55 c55 (p29 ++ y50.2), boxC B6 25 [.slice A29 n29 c29], kS5 A14 n14 c14 y13, boxC B15 35 [.slice A14 n14 c14], mapC ekI evI M16 y22.2, boxC B17 88 [.map (some M16)]]) rfl ?_
       refine gO (op_store (us := [.slice A55 n55 c55]) (cs' := [.slice A55 n55 c55]) 13 rfl rfl rfl rfl size25 rfl rfl rfl) ?_
       rintro _ _ rfl
       refine run ?_
       exact ⟨_, _, ⟨p29 ++ y50.2, y50.1.Kind, y50.1.Shape, y50.1.Flags, y50.1.Age, y50.1.Slots, y50.1.More, A55, n55, c55, A51, n51, c51, A52, n52, c52, h, rfl, rfl⟩, sA, cv_sel [6, 7, 8, 9, 10, 11, 12, 13, 14, 15, 16, 17, 0, 1, 3] 18 rfl rfl⟩
      ·replace h := cond_f g49 h
       refine run ?_
       exact ⟨_, _, ⟨p29, y33.Kind, y33.Shape, y33.Flags, y33.Age, y33.Slots, y33.More, A29, n29, c29, A34, n34, c34, A35, n35, c35, h, rfl, rfl⟩, sA, cv_sel [3, 4, 5, 6, 7, 8, 9, 10, 11, 12, 13, 14, 1, 2, 0] 15 rfl rfl⟩
    ·rintro _ _ ⟨p38, p39, p40, p41, p42, p43, p44, A38, n38, c38, A43, n43, c43, A44, n44, c44, h, rfl, rfl⟩
     refine G_seq ?_
     obtain ⟨y56, hy56, h⟩ := bind_elim h
     obtain ⟨y59, hy59, h⟩ := bind_elim h
     refine G_sub (t := [(1, .slice A3 n3 c3), (2, pV B4 0), (4, pV B5 0), (5, .slice none 0 0), (6, pV B6 0), (7, iV 0), (9, pV B15 0), (10, pV B17 0), (15, pV B36 0)]) ?_ subT (cv_refl _)
     refine G_monoX (by kernel_rfl) 9 [] [3, 7, 8] [62, 63, 64, 65, 66, 67, 68, 69, 70] [[], [0], [], [1, 2], [], [4], [], [5, 6], []] [aV (pV B36 4),
 aV (.slice A43 n43 c43),
 aV (.map (some M16)),
 aX3 (fun (A58 : Option Addr) (n58 c58 : Nat) => .slice A58 n58 c58) (fun A58 n58 c58 => [kO3 A58 n58 c58 y56]),
 aV (pV B36 5),
 aV (.slice A44 n44 c44),
 aV (.map (some M16)),
 aX3 (fun (A61 : Option Addr) (n61 c61 : Nat) => .slice A61 n61 c61) (fun A61 n61 c61 => [kO3 A61 n61 c61 y59]),
 aV (pV B36 4)] [] (cv_refl _) (qB_nil) (by kernel_rfl) rfl rfl ?_ ?_ ?_
     ·exact qs_nil
     ·refine steps_cons rfl ?_ ?_
      ·exact X_ev (ev_fa rfl fa_32_4) rfl (cvpV rfl (cv_refl _))
      refine steps_cons rfl ?_ ?_
      ·refine X_op (op_callR (major_moved_ok hy59) call82 rfl (mem_cons (lent_own (i := 13) rfl) (mem_cons (lent_map (i := 10) rfl) mem_nil)) major_moved_free) rfl ?_
       rintro _ _ ⟨_, ⟨A60, n60, c60, rfl, rfl⟩, rfl⟩
       exact cvp3 A60 n60 c60 (cv_refl _)
      refine steps_cons rfl ?_ ?_
      ·exact X_rd (rd_box1 11 rfl rfl one88 rfl) rfl (cvpV rfl (cv_refl _))
      refine steps_cons rfl ?_ ?_
      ·exact X_rd (rd_box1 14 rfl rfl one25 rfl) rfl (cvpV rfl (cv_refl _))
      refine steps_cons rfl ?_ ?_
      ·exact X_ev (ev_fa rfl fa_32_5) rfl (cvpV rfl (cv_refl _))
      refine steps_cons rfl ?_ ?_
      ·refine X_op (op_callR (major_moved_ok hy56) call82 rfl (mem_cons (lent_own (i := 12) rfl) (mem_cons (lent_map (i := 10) rfl) mem_nil)) major_moved_free) rfl ?_
       rintro _ _ ⟨_, ⟨A57, n57, c57, rfl, rfl⟩, rfl⟩
       exact cvp3 A57 n57 c57 (cv_refl _)
      refine steps_cons rfl ?_ ?_
      ·exact X_rd (rd_box1 11 rfl rfl one88 rfl) rfl (cvpV rfl (cv_refl _))
      refine steps_cons rfl ?_ ?_
      ·exact X_rd (rd_box1 14 rfl rfl one25 rfl) rfl (cvpV rfl (cv_refl _))
      refine steps_cons rfl ?_ ?_
      ·exact X_ev (ev_fa rfl fa_32_4) rfl (cvpV rfl (cv_refl _))
      exact steps_nil
     ·intro A58 n58 c58 A61 n61 c61
      refine N_sub (t := [(65, .slice A58 n58 c58), (69, .slice A61 n61 c61), (70, pV B36 4), (1, .slice A3 n3 c3), (2, pV B4 0), (4, pV B5 0), (5, .slice none 0 0), (6, pV B6 0), (7, iV 0), (9, pV B15 0), (10, pV B17 0), (15, pV B36 0)]) (L' := [kO3 A58 n58 c58 y56, kO3 A61 n61 c61 y59, kS0 A3 n3 c3 a1, kS1 A1 n1 c1 a0.Young, kS1 A2 n2 c2 a0.Old, boxC B4 24 [.slice A1 n1 c1, .slice A2 n2 c2], kO4 A28 n28 c28 p28, boxC B5 24 [.slice none 0 0, .slice A28 n28 c28], kO3 A38 n38 c38 p38, boxC B6 25 [.slice A38 n38 c38], kS5 A14 n14 c14 y13, boxC B15 35 [.slice A14 n14 c14], mapC ekI evI M16 y22.2, boxC B17 88 [.map (some M16)], kO3 A43 n43 c43 p43, kO3 A44 n44 c44 p44, boxC B36 32 [iV p39, iV p40, iV p41, iV p42, .slice A43 n43 c43, .slice A44 n44 c44]]) ?_ subT (cv_refl _)
      refine N_opn 9 rfl (by kernel_rfl) (op_store (us := [.slice A58 n58 c58]) (cs' := [iV p39, iV p40, iV p41, iV p42, .slice A58 n58 c58, .slice A44 n44 c44]) 16 rfl rfl rfl rfl size25 rfl rfl rfl) rfl rfl ?_
      rintro _ _ rfl
      refine N_ev 10 rfl (by kernel_rfl) (ev_fa rfl fa_32_5) rfl rfl rfl ?_
      refine N_opn 11 rfl (by kernel_rfl) (op_store (us := [.slice A61 n61 c61]) (cs' := [iV p39, iV p40, iV p41, iV p42, .slice A58 n58 c58, .slice A61 n61 c61]) 16 rfl rfl rfl rfl size25 rfl rfl rfl) rfl rfl ?_
      rintro _ _ rfl
      refine N_norm ([kO3 A58 n58 c58 y56, kO3 A61 n61 c61 y59, kS0 A3 n3 c3 a1, kS1 A1 n1 c1 a0.Young, kS1 A2 n2 c2 a0.Old, boxC B4 24 [.slice A1 n1 c1, .slice A2 n2 c2], kO4 A28 n28 c28 p28, boxC B5 24 [.slice none 0 0, .slice A28 n28 c28], kO3 A38 n38 c38 p38, boxC B6 25 [.slice A38 n38 c38], kS5 A14 n14 c14 y13, boxC B15 35 [.slice A14 n14 c14], mapC ekI evI M16 y22.2, boxC B17 88 [.map (some M16)], kO3 A43 n43 c43 p43, kO3 A44 n44 c44 p44, boxC B36 32 [iV p39, iV p40, iV p41, iV p42, .slice A58 n58 c58, .slice A61 n61 c61]]) rfl ?_
      refine N_done (by kernel_rfl) ?_
      refine run ?_
      refine gR (rd_boxS (us := [iV p39, iV p40, iV p41, iV p42, .slice A58 n58 c58, .slice A61 n61 c61]) 16 rfl rfl agg32 rfl) ?_
      refine G_cv (cv_frz 0 rfl) ?_
      refine G_cv (cv_frz 1 rfl) ?_
      refine gD (op_bslice (R := rDCell) (vss := [[iV p39, iV p40, iV p41, iV p42, .slice A58 n58 c58, .slice A61 n61 c61]]) (xs := [(⟨p39, p40, p41, p42, y56, y59⟩ : DCell)]) rfl (bsl_22_1 _ _ _ _ _ _ _ _ _ _) rfl rfl (fun _ _ hr => .cons (⟨_, _, _, _, _, _, rfl, hr 0 _ rfl rfl, hr 1 _ rfl rfl⟩) All2.nil)) ?_
      rintro _ _ ⟨A62, n62, c62, rfl, rfl⟩
      obtain ⟨q63, h⟩ := req_elim h
      refine gD (op_append 7 0 rfl rfl els_own rfl rfl Tryz.underlying22 zb32 rfl rfl q63) ?_
      rintro _ _ ⟨A64, n64, c64, rfl, rfl⟩
      refine G_norm ([kO4 A62 n62 c62 ([(⟨p39, p40, p41, p42, y56, y59⟩ : DCell)] : List DCell), kS0 A58 n58 c58 y56, kS0 A61 n61 c61 y59, kS0 A3 n3 c3 a1, kS1 A1 n1 c1 a0.Young, kS1 A2 n2 c2 a0.Old, boxC B4 24 [.slice A1 n1 c1, .slice A2 n2 c2], kO4 A64 n64 c64 (p28 ++ ([(⟨p39, p40, p41, p42, y56, y59⟩ : DCell)] : List DCell)), boxC B5 24 [.slice none 0 0, .slice A28 n28 c28], kO3 A38 n38 c38 p38, boxC B6 25 [.slice A38 n38 c38], kS5 A14 n14 c14 y13, boxC B15 35 [.slice A14 n14 c14], mapC ekI evI M16 y22.2, boxC B17 88 [.map (some M16)], kO3 A43 n43 c43 p43, kO3 A44 n44 c44 p44, boxC B36 32 [iV p39, iV p40, iV p41, iV p42, .slice A58 n58 c58, .slice A61 n61 c61]]) rfl ?_
      refine run ?_
      refine gO (op_store (us := [.slice A64 n64 c64]) (cs' := [.slice none 0 0, .slice A64 n64 c64]) 8 rfl rfl rfl rfl size22 rfl rfl rfl) ?_
      rintro _ _ rfl
      refine run ?_
      obtain ⟨rfl, rfl⟩ := Prod.mk.inj (Option.some.inj h)
      exact RK_n ((cv_sel [3, 4, 5, 6, 7, 8, 9, 10, 11, 12, 13, 14] 18 rfl rfl).trans (cv_pack1 ((A64, n64, c64), (A38, n38, c38)) rfl))
   ·rintro ⟨⟨A28, n28, c28⟩, ⟨A29, n29, c29⟩⟩ h
    refine K3_norm ([kS0 A3 n3 c3 a1, kS1 A1 n1 c1 a0.Young, kS1 A2 n2 c2 a0.Old, boxC B4 24 [.slice A1 n1 c1, .slice A2 n2 c2], kO4 A28 n28 c28 y30.2.1, boxC B5 24 [.slice none 0 0, .slice A28 n28 c28], kO3 A29 n29 c29 y30.2.2, boxC B6 25 [.slice A29 n29 c29], kS5 A14 n14 c14 y13, boxC B15 35 [.slice A14 n14 c14], mapC ekI evI M16 y22.2, boxC B17 88 [.map (some M16)]]) rfl ?_
    refine run ?_
    refine G_seq ?_
    obtain ⟨y65, hy65, h⟩ := bind_elim h
    obtain ⟨y68, hy68, h⟩ := bind_elim h
    refine G_sub (t := [(1, .slice A3 n3 c3), (4, pV B5 0), (5, .slice none 0 0), (6, pV B6 0), (7, iV 0), (10, pV B17 0)]) ?_ subT (cv_refl _)
    refine G_monoX (by kernel_rfl) 7 [] [0, 3, 6] [78, 79, 80, 81, 82, 83, 84] [[], [], [], [1, 2], [], [], [4, 5]] [aV (.agg #[.slice none 0 0, .slice A28 n28 c28]),
 aV (.slice A3 n3 c3),
 aV (.map (some M16)),
 aX3 (fun (A67 : Option Addr) (n67 c67 : Nat) => .slice A67 n67 c67) (fun A67 n67 c67 => [kO3 A67 n67 c67 y65]),
 aV (.slice A29 n29 c29),
 aV (.map (some M16)),
 aX3 (fun (A70 : Option Addr) (n70 c70 : Nat) => .slice A70 n70 c70) (fun A70 n70 c70 => [kO3 A70 n70 c70 y68])] [] (cv_refl _) (qB_nil) (by kernel_rfl) rfl rfl ?_ ?_ ?_
    ·exact qs_nil
    ·refine steps_cons rfl ?_ ?_
     ·refine X_op (op_callR (major_moved_ok hy68) call82 rfl (mem_cons (lent_own (i := 6) rfl) (mem_cons (lent_map (i := 10) rfl) mem_nil)) major_moved_free) rfl ?_
      rintro _ _ ⟨_, ⟨A69, n69, c69, rfl, rfl⟩, rfl⟩
      exact cvp3 A69 n69 c69 (cv_refl _)
     refine steps_cons rfl ?_ ?_
     ·exact X_rd (rd_box1 11 rfl rfl one88 rfl) rfl (cvpV rfl (cv_refl _))
     refine steps_cons rfl ?_ ?_
     ·exact X_rd (rd_box1 7 rfl rfl one25 rfl) rfl (cvpV rfl (cv_refl _))
     refine steps_cons rfl ?_ ?_
     ·refine X_op (op_callR (major_moved_ok hy65) call82 rfl (mem_cons (lent_ro (i := 0) rfl rfl) (mem_cons (lent_map (i := 10) rfl) mem_nil)) major_moved_free) rfl ?_
      rintro _ _ ⟨_, ⟨A66, n66, c66, rfl, rfl⟩, rfl⟩
      exact cvp3 A66 n66 c66 (cv_refl _)
     refine steps_cons rfl ?_ ?_
     ·exact X_rd (rd_box1 11 rfl rfl one88 rfl) rfl (cvpV rfl (cv_refl _))
     refine steps_cons rfl ?_ ?_
     ·exact X_ev (ev_move rfl) rfl (cvpV rfl (cv_refl _))
     refine steps_cons rfl ?_ ?_
     ·exact X_rd (rd_boxS (us := [.slice none 0 0, .slice A28 n28 c28]) 5 rfl rfl agg24 rfl) rfl (cvpV rfl (cv_refl _))
     exact steps_nil
    ·intro A67 n67 c67 A70 n70 c70
     refine N_sub (t := [(78, .agg #[.slice none 0 0, .slice A28 n28 c28]), (81, .slice A67 n67 c67), (84, .slice A70 n70 c70), (1, .slice A3 n3 c3), (4, pV B5 0), (5, .slice none 0 0), (6, pV B6 0), (7, iV 0), (10, pV B17 0)]) (L' := [kO3 A67 n67 c67 y65, kO3 A70 n70 c70 y68, kS0 A3 n3 c3 a1, kS1 A1 n1 c1 a0.Young, kS1 A2 n2 c2 a0.Old, boxC B4 24 [.slice A1 n1 c1, .slice A2 n2 c2], kO4 A28 n28 c28 y30.2.1, boxC B5 24 [.slice none 0 0, .slice A28 n28 c28], kO3 A29 n29 c29 y30.2.2, boxC B6 25 [.slice A29 n29 c29], kS5 A14 n14 c14 y13, boxC B15 35 [.slice A14 n14 c14], mapC ekI evI M16 y22.2, boxC B17 88 [.map (some M16)]]) ?_ subT (cv_refl _)
     refine N_opn 7 rfl (by kernel_rfl) (op_store (us := [.slice none 0 0, .slice A28 n28 c28]) (cs' := [.slice none 0 0, .slice A28 n28 c28]) 7 rfl rfl rfl rfl size24 rfl rfl rfl) rfl rfl ?_
     rintro _ _ rfl
     refine N_ev 8 rfl (by kernel_rfl) (ev_assign rfl) rfl rfl rfl ?_
     refine N_opn 9 rfl (by kernel_rfl) (op_store (us := [.slice A70 n70 c70]) (cs' := [.slice A70 n70 c70]) 9 rfl rfl rfl rfl size25 rfl rfl rfl) rfl rfl ?_
     rintro _ _ rfl
     refine N_norm ([kO3 A67 n67 c67 y65, kO3 A70 n70 c70 y68, kS0 A3 n3 c3 a1, kS1 A1 n1 c1 a0.Young, kS1 A2 n2 c2 a0.Old, boxC B4 24 [.slice A1 n1 c1, .slice A2 n2 c2], kO4 A28 n28 c28 y30.2.1, boxC B5 24 [.slice none 0 0, .slice A28 n28 c28], kO3 A29 n29 c29 y30.2.2, boxC B6 25 [.slice A70 n70 c70], kS5 A14 n14 c14 y13, boxC B15 35 [.slice A14 n14 c14], mapC ekI evI M16 y22.2, boxC B17 88 [.map (some M16)]]) rfl ?_
     refine N_ev 10 rfl (by kernel_rfl) (ev_assign rfl) rfl rfl rfl ?_
     refine N_done (by kernel_rfl) ?_
     refine run ?_
     obtain rfl := Option.some.inj h
     exact endGl (rs := [.cell 4 24, .tmp 5, .cell 6 25, .tmp 7]) (vs := [.agg #[.slice none 0 0, .slice A28 n28 c28], .slice A67 n67 c67, .slice A70 n70 c70, iV 0]) rfl (.cons (rv_boxS 7 rfl rfl agg24) (.cons (rv_tmp rfl) (.cons (rv_box1 9 rfl rfl one25) (.cons (rv_tmp rfl) .nil)))) rfl ((cv_nil rDCell 32 _).trans (cv_sel [0, 7, 1, 2] 15 rfl rfl)) ⟨_, _, _, _, _, _, _, _, _, _, _, _, rfl, rfl⟩
   ·rintro ⟨⟨A28, n28, c28⟩, ⟨A29, n29, c29⟩⟩ h
    exact none_some h
   ·rintro i ⟨⟨A28, n28, c28⟩, ⟨A29, n29, c29⟩⟩ h
    exact none_some h
  ·rintro _ h
   exact none_some h
  ·rintro i _ h
   exact none_some h
end Go.Proofs.YtmbaennilhdieaaGreat