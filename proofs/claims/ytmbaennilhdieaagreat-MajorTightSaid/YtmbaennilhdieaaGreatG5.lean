/- Merged texts: part 5. No conditions of their own. -/
import Derived.Test.YtmbaennilhdieaaGreatG4
/- Pure functions and contracts of Go functions (printed by all3.py). -/
namespace Go.Proofs.YtmbaennilhdieaaGreat
open Go.RowKit Asn
set_option maxRecDepth 20000
def r15_Right_j19 (N : Nat) (a0 : DCell) : Option Bool :=
 (r15_slots_O N a0).bind fun y27 => (bif y27 then ((r15_more_O N a0).bind fun y29 => some y29) else (some false)).bind fun b28 => some b28
def r15_Right_l20 (N : Nat) (a0 : DCell) : Nat → Int → Option Bool
 | 0, _ => none
 | m20 + 1, p21 => bif decide (p21 < (a0.More.length : Int)) then ((getE a0.More p21).bind fun x23 => (r15_May_O N x23).bind fun y24 => bif !y24 then (some false) else (req (in64 (p21 + 1)) ((r15_Right_l20 N a0 m20) (p21 + 1)))) else (r15_Right_j19 N a0)
theorem r15_Right_l20_s {N m20 : Nat} {a0 : DCell} {p21 : Int} : r15_Right_l20 N a0 (m20 + 1) p21 = bif decide (p21 < (a0.More.length : Int)) then ((getE a0.More p21).bind fun x23 => (r15_May_O N x23).bind fun y24 => bif !y24 then (some false) else (req (in64 (p21 + 1)) ((r15_Right_l20 N a0 m20) (p21 + 1)))) else (r15_Right_j19 N a0) := rfl
def r15_Right_j11 (N : Nat) (a0 : DCell) : Option Bool :=
 r15_Right_l20 N a0 N 0
def r15_Right_l12 (N : Nat) (a0 : DCell) : Nat → Int → Option Bool
 | 0, _ => none
 | m12 + 1, p13 => bif decide (p13 < (a0.Slots.length : Int)) then ((getE a0.Slots p13).bind fun x15 => (r15_May_O N x15).bind fun y16 => bif !y16 then (some false) else (req (in64 (p13 + 1)) ((r15_Right_l12 N a0 m12) (p13 + 1)))) else (r15_Right_j11 N a0)
theorem r15_Right_l12_s {N m12 : Nat} {a0 : DCell} {p13 : Int} : r15_Right_l12 N a0 (m12 + 1) p13 = bif decide (p13 < (a0.Slots.length : Int)) then ((getE a0.Slots p13).bind fun x15 => (r15_May_O N x15).bind fun y16 => bif !y16 then (some false) else (req (in64 (p13 + 1)) ((r15_Right_l12 N a0 m12) (p13 + 1)))) else (r15_Right_j11 N a0) := rfl
def r15_Right_O (N : Nat) (a0 : DCell) : Option Bool :=
 (bif decide (a0.Kind < 1) then (some true) else (some (decide (11 < a0.Kind)))).bind fun b4 => (bif b4 then (some true) else (some (decide (a0.Shape < 0)))).bind fun b5 => (bif b5 then (some true) else (some (decide (a0.Flags < 0)))).bind fun b6 => (bif b6 then (some true) else (some (decide (63 < a0.Flags)))).bind fun b7 => (bif b7 then (some true) else (some (decide (a0.Age < 0)))).bind fun b8 => (bif b8 then (some true) else (some (decide (1 < a0.Age)))).bind fun b9 => bif b9 then (some false) else (r15_Right_l12 N a0 N 0)
theorem r15_Right_ok {N : Nat} {a0 : DCell} {r : Bool} (h : r15_Right_O N a0 = some r) {A1 : Option Addr} {n1 c1 : Nat} {A2 : Option Addr} {n2 c2 : Nat} : Okc Tryz.prog 92 [.agg #[iV a0.Kind, iV a0.Shape, iV a0.Flags, iV a0.Age, .slice A1 n1 c1, .slice A2 n2 c2]] ([kS0 A1 n1 c1 a0.Slots, kS0 A2 n2 c2 a0.More]) (fun (u : Value) (post : List Chunk) => u = .bool r ∧ post = []) := by
 refine ok_E Tryz.func92 rfl rfl ?_
 simp only [envOf]
 refine run ?_
 refine gD (op_box rfl rfl) ?_
 rintro _ _ ⟨B3, rfl, rfl⟩
 refine run ?_
 refine G_seq ?_
 refine run ?_
 obtain ⟨b4, hb4, h⟩ := bind_elim h
 refine G_segb 4 12 b4 ?_ ?_
 ·clear h
  refine G_case 8 rfl (fun g4 => ?_) (fun g4 => ?_)
  ·have h := cond_t g4 hb4
   refine run ?_
   obtain rfl := Option.some.inj h
   exact G_joined sA (cv_sel [0, 1, 2] 3 rfl rfl)
  ·have h := cond_f g4 hb4
   refine run ?_
   obtain rfl := Option.some.inj h
   exact G_joined sA (cv_sel [0, 1, 2] 3 rfl rfl)
 refine run ?_
 obtain ⟨b5, hb5, h⟩ := bind_elim h
 refine G_segb 4 17 b5 ?_ ?_
 ·clear h
  refine G_case 13 rfl (fun g5 => ?_) (fun g5 => ?_)
  ·have h := cond_t g5 hb5
   refine run ?_
   obtain rfl := Option.some.inj h
   exact G_joined sA (cv_sel [0, 1, 2] 3 rfl rfl)
  ·have h := cond_f g5 hb5
   refine run ?_
   obtain rfl := Option.some.inj h
   exact G_joined sA (cv_sel [0, 1, 2] 3 rfl rfl)
 refine run ?_
 obtain ⟨b6, hb6, h⟩ := bind_elim h
 refine G_segb 4 22 b6 ?_ ?_
 ·clear h
  refine G_case 18 rfl (fun g6 => ?_) (fun g6 => ?_)
  ·have h := cond_t g6 hb6
   refine run ?_
   obtain rfl := Option.some.inj h
   exact G_joined sA (cv_sel [0, 1, 2] 3 rfl rfl)
  ·have h := cond_f g6 hb6
   refine run ?_
   obtain rfl := Option.some.inj h
   exact G_joined sA (cv_sel [0, 1, 2] 3 rfl rfl)
 refine run ?_
 obtain ⟨b7, hb7, h⟩ := bind_elim h
 refine G_segb 4 27 b7 ?_ ?_
 ·clear h
  refine G_case 23 rfl (fun g7 => ?_) (fun g7 => ?_)
  ·have h := cond_t g7 hb7
   refine run ?_
   obtain rfl := Option.some.inj h
   exact G_joined sA (cv_sel [0, 1, 2] 3 rfl rfl)
  ·have h := cond_f g7 hb7
   refine run ?_
   obtain rfl := Option.some.inj h
   exact G_joined sA (cv_sel [0, 1, 2] 3 rfl rfl)
 refine run ?_
 obtain ⟨b8, hb8, h⟩ := bind_elim h
 refine G_segb 4 32 b8 ?_ ?_
 ·clear h
  refine G_case 28 rfl (fun g8 => ?_) (fun g8 => ?_)
  ·have h := cond_t g8 hb8
   refine run ?_
   obtain rfl := Option.some.inj h
   exact G_joined sA (cv_sel [0, 1, 2] 3 rfl rfl)
  ·have h := cond_f g8 hb8
   refine run ?_
   obtain rfl := Option.some.inj h
   exact G_joined sA (cv_sel [0, 1, 2] 3 rfl rfl)
 refine run ?_
 obtain ⟨b9, hb9, h⟩ := bind_elim h
 refine G_segb 4 37 b9 ?_ ?_
 ·clear h
  refine G_case 33 rfl (fun g9 => ?_) (fun g9 => ?_)
  ·have h := cond_t g9 hb9
   refine run ?_
   obtain rfl := Option.some.inj h
   exact G_joined sA (cv_sel [0, 1, 2] 3 rfl rfl)
  ·have h := cond_f g9 hb9
   refine run ?_
   obtain rfl := Option.some.inj h
   exact G_joined sA (cv_sel [0, 1, 2] 3 rfl rfl)
 refine run ?_
 refine G_cond rfl (fun g10 => ?_) (fun g10 => ?_)
 ·replace h := cond_t g10 h
  refine run ?_
  obtain rfl := Option.some.inj h
  exact endG1 rfl rfl (cv_sel [] 3 rfl rfl) ⟨rfl, rfl⟩
 ·replace h := cond_f g10 h
  refine run ?_
  refine G_joinF (fun s L => r15_Right_j11 N a0 = some r ∧ s = [(1, pV B3 0), (2, .bool false)] ∧ L = [kS0 A1 n1 c1 a0.Slots, kS0 A2 n2 c2 a0.More, boxC B3 32 [iV a0.Kind, iV a0.Shape, iV a0.Flags, iV a0.Age, .slice A1 n1 c1, .slice A2 n2 c2]]) ?_ ?_
  ·refine run ?_
   refine G_loopF (fun m s L => ∃ (p13 : Int), r15_Right_l12 N a0 m p13 = some r ∧ s = [(1, pV B3 0), (2, .bool false), (3, iV p13)] ∧ L = [kS0 A1 n1 c1 a0.Slots, kS0 A2 n2 c2 a0.More, boxC B3 32 [iV a0.Kind, iV a0.Shape, iV a0.Flags, iV a0.Age, .slice A1 n1 c1, .slice A2 n2 c2]]) N _ _ ⟨0, h, rfl, rfl⟩ sA (cv_sel [1, 2, 0] 3 rfl rfl) ?_
   rintro (_ | m12) _ _ ⟨p13, h, rfl, rfl⟩
   ·exact none_some h
   rw [r15_Right_l12_s] at h
   refine G_seq ?_
   refine run ?_
   refine gR (rd_len 0 rfl els_sl rfl Tryz.underlying25) ?_
   refine run ?_
   refine G_cond rfl (fun g14 => ?_) (fun g14 => ?_)
   ·replace h := cond_t g14 h
    refine run ?_
    refine G_seq ?_
    refine run ?_
    obtain ⟨x15, hx15, h⟩ := bind_elim h
    obtain ⟨lx15, ux15, hx15⟩ := getE_elim hx15
    refine gR (rd_idx 0 rfl els_sl rfl rfl Tryz.underlying25 size38 lx15 ux15) ?_
    refine gR (rd_elemS (us := [iV x15.Kind, iV x15.N, .string x15.S]) 0 rfl els_sl rfl hx15 agg38 (fun _ _ _ h => by rw [show _ = _ from h]; rfl)) ?_
    obtain ⟨y16, hy16, h⟩ := bind_elim h
    refine gD (op_callR (r15_May_ok hy16) call144 rfl (mem_nil) r15_May_free) ?_
    rintro _ _ ⟨_, ⟨rfl, rfl⟩, rfl⟩
    refine run ?_
    refine G_cond rfl (fun g17 => ?_) (fun g17 => ?_)
    ·replace h := cond_t g17 h
     refine run ?_
     obtain rfl := Option.some.inj h
     exact endG1 rfl rfl (cv_sel [] 3 rfl rfl) ⟨rfl, rfl⟩
    ·replace h := cond_f g17 h
     refine run ?_
     obtain ⟨q18, h⟩ := req_elim h
     refine gE (ev_add rfl rfl q18.1 q18.2) ?_
     refine run ?_
     exact ⟨m12, _, _, Nat.lt_succ_self _, ⟨p13 + 1, h, rfl, rfl⟩, sA, cv_sel [0, 1, 2] 3 rfl rfl⟩
   ·replace h := cond_f g14 h
    refine run ?_
    exact ⟨_, _, ⟨h, rfl, rfl⟩, sA, cv_sel [0, 1, 2] 3 rfl rfl⟩
  ·rintro _ _ ⟨h, rfl, rfl⟩
   refine G_joinF (fun s L => r15_Right_j19 N a0 = some r ∧ s = [(1, pV B3 0), (2, .bool false)] ∧ L = [kS0 A1 n1 c1 a0.Slots, kS0 A2 n2 c2 a0.More, boxC B3 32 [iV a0.Kind, iV a0.Shape, iV a0.Flags, iV a0.Age, .slice A1 n1 c1, .slice A2 n2 c2]]) ?_ ?_
   ·refine run ?_
    refine G_loopF (fun m s L => ∃ (p21 : Int), r15_Right_l20 N a0 m p21 = some r ∧ s = [(1, pV B3 0), (2, .bool false), (4, iV p21)] ∧ L = [kS0 A1 n1 c1 a0.Slots, kS0 A2 n2 c2 a0.More, boxC B3 32 [iV a0.Kind, iV a0.Shape, iV a0.Flags, iV a0.Age, .slice A1 n1 c1, .slice A2 n2 c2]]) N _ _ ⟨0, h, rfl, rfl⟩ sA (cv_sel [0, 1, 2] 3 rfl rfl) ?_
    rintro (_ | m20) _ _ ⟨p21, h, rfl, rfl⟩
    ·exact none_some h
    rw [r15_Right_l20_s] at h
    refine G_seq ?_
    refine run ?_
    refine gR (rd_len 1 rfl els_sl rfl Tryz.underlying25) ?_
    refine run ?_
    refine G_cond rfl (fun g22 => ?_) (fun g22 => ?_)
    ·replace h := cond_t g22 h
     refine run ?_
     refine G_seq ?_
     refine run ?_
     obtain ⟨x23, hx23, h⟩ := bind_elim h
     obtain ⟨lx23, ux23, hx23⟩ := getE_elim hx23
     refine gR (rd_idx 1 rfl els_sl rfl rfl Tryz.underlying25 size38 lx23 ux23) ?_
     refine gR (rd_elemS (us := [iV x23.Kind, iV x23.N, .string x23.S]) 1 rfl els_sl rfl hx23 agg38 (fun _ _ _ h => by rw [show _ = _ from h]; rfl)) ?_
     obtain ⟨y24, hy24, h⟩ := bind_elim h
     refine gD (op_callR (r15_May_ok hy24) call144 rfl (mem_nil) r15_May_free) ?_
     rintro _ _ ⟨_, ⟨rfl, rfl⟩, rfl⟩
     refine run ?_
     refine G_cond rfl (fun g25 => ?_) (fun g25 => ?_)
     ·replace h := cond_t g25 h
      refine run ?_
      obtain rfl := Option.some.inj h
      exact endG1 rfl rfl (cv_sel [] 3 rfl rfl) ⟨rfl, rfl⟩
     ·replace h := cond_f g25 h
      refine run ?_
      obtain ⟨q26, h⟩ := req_elim h
      refine gE (ev_add rfl rfl q26.1 q26.2) ?_
      refine run ?_
      exact ⟨m20, _, _, Nat.lt_succ_self _, ⟨p21 + 1, h, rfl, rfl⟩, sA, cv_sel [0, 1, 2] 3 rfl rfl⟩
    ·replace h := cond_f g22 h
     refine run ?_
     exact ⟨_, _, ⟨h, rfl, rfl⟩, sA, cv_sel [0, 1, 2] 3 rfl rfl⟩
   ·rintro _ _ ⟨h, rfl, rfl⟩
    refine run ?_
    refine gR (rd_boxS (us := [iV a0.Kind, iV a0.Shape, iV a0.Flags, iV a0.Age, .slice A1 n1 c1, .slice A2 n2 c2]) 2 rfl rfl agg32 rfl) ?_
    obtain ⟨y27, hy27, h⟩ := bind_elim h
    refine gD (op_callR (r15_slots_ok hy27) call145 rfl (mem_cons (lent_ro (i := 0) rfl rfl) (mem_cons (lent_ro (i := 1) rfl rfl) mem_nil)) r15_slots_free) ?_
    rintro _ _ ⟨_, ⟨rfl, rfl⟩, rfl⟩
    refine run ?_
    obtain ⟨b28, hb28, h⟩ := bind_elim h
    refine G_segb 3 71 b28 ?_ ?_
    ·clear h
     refine G_case 68 rfl (fun g28 => ?_) (fun g28 => ?_)
     ·have h := cond_t g28 hb28
      refine G_rd (rd_boxS (us := [iV a0.Kind, iV a0.Shape, iV a0.Flags, iV a0.Age, .slice A1 n1 c1, .slice A2 n2 c2]) 2 rfl rfl agg32 rfl) rfl (g_tt g28 rfl) rfl ?_
      obtain ⟨y29, hy29, h⟩ := bind_elim h
      refine G_opd (op_callR (r15_more_ok hy29) call146 rfl (mem_cons (lent_ro (i := 0) rfl rfl) (mem_cons (lent_ro (i := 1) rfl rfl) mem_nil)) r15_more_free) rfl (g_tt g28 rfl) rfl ?_
      rintro _ _ ⟨_, ⟨rfl, rfl⟩, rfl⟩
      refine run ?_
      obtain rfl := Option.some.inj h
      exact G_joined sA (cv_sel [0, 1, 2] 3 rfl rfl)
     ·have h := cond_f g28 hb28
      refine run ?_
      obtain rfl := Option.some.inj h
      exact G_joined sA (cv_sel [0, 1, 2] 3 rfl rfl)
    refine run ?_
    obtain rfl := Option.some.inj h
    exact endG1 rfl rfl (cv_sel [] 3 rfl rfl) ⟨rfl, rfl⟩
theorem r15_Right_free {r : Bool} : ∀ v post, ((fun (u : Value) (post : List Chunk) => u = .bool r ∧ post = [])) v post → ∀ c ∈ post, Free c := by
 rintro _ _ ⟨rfl, rfl⟩; exact mem_nil
def r15_has_O (N : Nat) (a0 : DValue) : Option Bool :=
 (bif decide (a0.Kind = 7) then (some true) else (some (decide (a0.Kind = 9)))).bind fun b2 => some b2
theorem r15_has_ok {N : Nat} {a0 : DValue} {r : Bool} (h : r15_has_O N a0 = some r) : Okc Tryz.prog 147 [.agg #[iV a0.Kind, iV a0.N, .string a0.S]] ([]) (fun (u : Value) (post : List Chunk) => u = .bool r ∧ post = []) := by
 refine ok_E Tryz.func147 rfl rfl ?_
 simp only [envOf]
 refine run ?_
 refine gD (op_box rfl rfl) ?_
 rintro _ _ ⟨B1, rfl, rfl⟩
 refine run ?_
 obtain ⟨b2, hb2, h⟩ := bind_elim h
 refine G_segb 4 10 b2 ?_ ?_
 ·clear h
  refine G_case 6 rfl (fun g2 => ?_) (fun g2 => ?_)
  ·have h := cond_t g2 hb2
   refine run ?_
   obtain rfl := Option.some.inj h
   exact G_joined sA (cv_sel [0] 1 rfl rfl)
  ·have h := cond_f g2 hb2
   refine run ?_
   obtain rfl := Option.some.inj h
   exact G_joined sA (cv_sel [0] 1 rfl rfl)
 refine run ?_
 obtain rfl := Option.some.inj h
 exact endG1 rfl rfl (cv_sel [] 1 rfl rfl) ⟨rfl, rfl⟩
theorem r15_has_free {r : Bool} : ∀ v post, ((fun (u : Value) (post : List Chunk) => u = .bool r ∧ post = [])) v post → ∀ c ∈ post, Free c := by
 rintro _ _ ⟨rfl, rfl⟩; exact mem_nil
def r15_weak_O (N : Nat) (a0 : Int) (a1 : Int) : Option Bool :=
 (bif decide (a0 = 8) then (some true) else ((bif decide (a0 = 10) then (some (decide (0 < a1))) else (some false)).bind fun b2 => (bif b2 then (req (in64 (a1 - 1)) (some (decide (((a1 - 1).tmod 4).tmod 2 = 0)))) else (some false)).bind fun b3 => some b3)).bind fun b1 => some b1
theorem r15_weak_ok {N : Nat} {a0 : Int} {a1 : Int} {r : Bool} (h : r15_weak_O N a0 a1 = some r) : Okc Tryz.prog 148 [iV a0, iV a1] ([]) (fun (u : Value) (post : List Chunk) => u = .bool r ∧ post = []) := by
 refine ok_E Tryz.func148 rfl rfl ?_
 simp only [envOf]
 refine run ?_
 obtain ⟨b1, hb1, h⟩ := bind_elim h
 refine G_segb 14 21 b1 ?_ ?_
 ·clear h
  refine G_case 7 rfl (fun g1 => ?_) (fun g1 => ?_)
  ·have h := cond_t g1 hb1
   refine run ?_
   obtain rfl := Option.some.inj h
   exact G_joined sA (cv_sel [] 0 rfl rfl)
  ·have h := cond_f g1 hb1
   refine run ?_
   obtain ⟨b2, hb2, h⟩ := bind_elim h
   refine G_segb 3 13 b2 ?_ ?_
   ·clear h
    refine G_case 10 rfl (fun g2 => ?_) (fun g2 => ?_)
    ·have h := cond_t g2 hb2
     refine run ?_
     obtain rfl := Option.some.inj h
     exact G_joined sA (cv_sel [] 0 rfl rfl)
    ·have h := cond_f g2 hb2
     refine run ?_
     obtain rfl := Option.some.inj h
     exact G_joined sA (cv_sel [] 0 rfl rfl)
   refine run ?_
   obtain ⟨b3, hb3, h⟩ := bind_elim h
   refine G_segb 6 20 b3 ?_ ?_
   ·clear h
    refine G_case 14 rfl (fun g3 => ?_) (fun g3 => ?_)
    ·have h := cond_t g3 hb3
     refine run ?_
     obtain ⟨q4, h⟩ := req_elim h
     refine G_ev (ev_sub rfl rfl q4.1 q4.2) rfl (g_tt g3 rfl) rfl ?_
     refine G_ev (ev_rem rfl rfl (by decide)) rfl (g_tt g3 rfl) rfl ?_
     refine G_ev (ev_rem rfl rfl (by decide)) rfl (g_tt g3 rfl) rfl ?_
     refine run ?_
     obtain rfl := Option.some.inj h
     exact G_joined sA (cv_sel [] 0 rfl rfl)
    ·have h := cond_f g3 hb3
     refine run ?_
     obtain rfl := Option.some.inj h
     exact G_joined sA (cv_sel [] 0 rfl rfl)
   refine run ?_
   obtain rfl := Option.some.inj h
   exact G_joined sA (cv_sel [] 0 rfl rfl)
 refine run ?_
 obtain rfl := Option.some.inj h
 exact endG1 rfl rfl (cv_sel [] 0 rfl rfl) ⟨rfl, rfl⟩
theorem r15_weak_free {r : Bool} : ∀ v post, ((fun (u : Value) (post : List Chunk) => u = .bool r ∧ post = [])) v post → ∀ c ∈ post, Free c := by
 rintro _ _ ⟨rfl, rfl⟩; exact mem_nil
def r15_Leads_j21 (N : Nat) (p22 : (List Int)) : Option (List Int) :=
 some p22
def r15_Leads_j27 (N : Nat) (kb23 : (List Int) → Int → Option (List Int)) (p25 : Int) (a0 : DCell) (p28 : (List Int)) : Option (List Int) :=
 req (in64 (p25 + 1)) (kb23 p28 (p25 + 1))
def r15_Leads_l23 (N : Nat) (a0 : DCell) : Nat → (List Int) → Int → Option (List Int)
 | 0, _, _ => none
 | m23 + 1, p24, p25 => bif decide (p25 < (a0.More.length : Int)) then ((getE a0.More p25).bind fun x29 => (r15_has_O N x29).bind fun y30 => (bif y30 then ((r15_weak_O N a0.Kind p25).bind fun y32 => some (!y32)) else (some false)).bind fun b31 => bif b31 then ((getE a0.More p25).bind fun x34 => req (fitsL (p24.length + ([x34.N] : List Int).length)) (r15_Leads_j27 N (r15_Leads_l23 N a0 m23) p25 a0 (p24 ++ ([x34.N] : List Int)))) else (r15_Leads_j27 N (r15_Leads_l23 N a0 m23) p25 a0 p24)) else (r15_Leads_j21 N p24)
theorem r15_Leads_l23_s {N m23 : Nat} {a0 : DCell} {p24 : (List Int)} {p25 : Int} : r15_Leads_l23 N a0 (m23 + 1) p24 p25 = bif decide (p25 < (a0.More.length : Int)) then ((getE a0.More p25).bind fun x29 => (r15_has_O N x29).bind fun y30 => (bif y30 then ((r15_weak_O N a0.Kind p25).bind fun y32 => some (!y32)) else (some false)).bind fun b31 => bif b31 then ((getE a0.More p25).bind fun x34 => req (fitsL (p24.length + ([x34.N] : List Int).length)) (r15_Leads_j27 N (r15_Leads_l23 N a0 m23) p25 a0 (p24 ++ ([x34.N] : List Int)))) else (r15_Leads_j27 N (r15_Leads_l23 N a0 m23) p25 a0 p24)) else (r15_Leads_j21 N p24) := rfl
def r15_Leads_j4 (N : Nat) (a0 : DCell) (p5 : (List Int)) : Option (List Int) :=
 r15_Leads_l23 N a0 N p5 0
def r15_Leads_j11 (N : Nat) (kb6 : (List Int) → Int → Option (List Int)) (p8 : Int) (a0 : DCell) (p12 : (List Int)) : Option (List Int) :=
 req (in64 (p8 + 1)) (kb6 p12 (p8 + 1))
def r15_Leads_l6 (N : Nat) (a0 : DCell) : Nat → (List Int) → Int → Option (List Int)
 | 0, _, _ => none
 | m6 + 1, p7, p8 => bif decide (p8 < (a0.Slots.length : Int)) then ((getE a0.Slots p8).bind fun x13 => (r15_has_O N x13).bind fun y14 => bif y14 then ((getE a0.Slots p8).bind fun x16 => req (fitsL (p7.length + ([x16.N] : List Int).length)) (r15_Leads_j11 N (r15_Leads_l6 N a0 m6) p8 a0 (p7 ++ ([x16.N] : List Int)))) else (r15_Leads_j11 N (r15_Leads_l6 N a0 m6) p8 a0 p7)) else (r15_Leads_j4 N a0 p7)
theorem r15_Leads_l6_s {N m6 : Nat} {a0 : DCell} {p7 : (List Int)} {p8 : Int} : r15_Leads_l6 N a0 (m6 + 1) p7 p8 = bif decide (p8 < (a0.Slots.length : Int)) then ((getE a0.Slots p8).bind fun x13 => (r15_has_O N x13).bind fun y14 => bif y14 then ((getE a0.Slots p8).bind fun x16 => req (fitsL (p7.length + ([x16.N] : List Int).length)) (r15_Leads_j11 N (r15_Leads_l6 N a0 m6) p8 a0 (p7 ++ ([x16.N] : List Int)))) else (r15_Leads_j11 N (r15_Leads_l6 N a0 m6) p8 a0 p7)) else (r15_Leads_j4 N a0 p7) := rfl
def r15_Leads_O (N : Nat) (a0 : DCell) : Option (List Int) :=
 r15_Leads_l6 N a0 N [] 0
theorem r15_Leads_ok {N : Nat} {a0 : DCell} {r : (List Int)} (h : r15_Leads_O N a0 = some r) {A1 : Option Addr} {n1 c1 : Nat} {A2 : Option Addr} {n2 c2 : Nat} : Okc Tryz.prog 93 [.agg #[iV a0.Kind, iV a0.Shape, iV a0.Flags, iV a0.Age, .slice A1 n1 c1, .slice A2 n2 c2]] ([kS0 A1 n1 c1 a0.Slots, kS0 A2 n2 c2 a0.More]) (fun (u : Value) (post : List Chunk) => ∃ A0 n0 c0, u = .slice A0 n0 c0 ∧ post = [kO2 A0 n0 c0 r]) := by
 refine ok_E Tryz.func93 rfl rfl ?_
 simp only [envOf]
 refine run ?_
 refine gD (op_box rfl rfl) ?_
 rintro _ _ ⟨B3, rfl, rfl⟩
 refine run ?_
 refine G_joinF (fun s L => ∃ (p5 : (List Int)) (A5 : Option Addr) (n5 c5 : Nat), r15_Leads_j4 N a0 p5 = some r ∧ s = [(1, pV B3 0), (2, .slice none 0 0), (3, .slice A5 n5 c5)] ∧ L = [kO2 A5 n5 c5 p5, kS0 A1 n1 c1 a0.Slots, kS0 A2 n2 c2 a0.More, boxC B3 32 [iV a0.Kind, iV a0.Shape, iV a0.Flags, iV a0.Age, .slice A1 n1 c1, .slice A2 n2 c2]]) ?_ ?_
 ·refine run ?_
  refine G_loopF (fun m s L => ∃ (p7 : (List Int)) (p8 : Int) (A7 : Option Addr) (n7 c7 : Nat), r15_Leads_l6 N a0 m p7 p8 = some r ∧ s = [(1, pV B3 0), (2, .slice none 0 0), (3, .slice A7 n7 c7), (4, iV p8)] ∧ L = [kO2 A7 n7 c7 p7, kS0 A1 n1 c1 a0.Slots, kS0 A2 n2 c2 a0.More, boxC B3 32 [iV a0.Kind, iV a0.Shape, iV a0.Flags, iV a0.Age, .slice A1 n1 c1, .slice A2 n2 c2]]) N _ _ ⟨[], 0, none, 0, 0, h, rfl, rfl⟩ sA ((cv_nil (rInt .i64) 3 _).trans (cv_sel [0, 2, 3, 1] 4 rfl rfl)) ?_
  rintro (_ | m6) _ _ ⟨p7, p8, A7, n7, c7, h, rfl, rfl⟩
  ·exact none_some h
  rw [r15_Leads_l6_s] at h
  refine G_seq ?_
  refine run ?_
  refine gR (rd_len 1 rfl els_sl rfl Tryz.underlying25) ?_
  refine run ?_
  refine G_cond rfl (fun g10 => ?_) (fun g10 => ?_)
  ·replace h := cond_t g10 h
   refine run ?_
   refine G_joinF (fun s L => ∃ (p12 : (List Int)) (A12 : Option Addr) (n12 c12 : Nat), r15_Leads_j11 N (r15_Leads_l6 N a0 m6) p8 a0 p12 = some r ∧ s = [(1, pV B3 0), (2, .slice none 0 0), (3, .slice A12 n12 c12), (4, iV p8)] ∧ L = [kO2 A12 n12 c12 p12, kS0 A1 n1 c1 a0.Slots, kS0 A2 n2 c2 a0.More, boxC B3 32 [iV a0.Kind, iV a0.Shape, iV a0.Flags, iV a0.Age, .slice A1 n1 c1, .slice A2 n2 c2]]) ?_ ?_
   ·refine run ?_
    obtain ⟨x13, hx13, h⟩ := bind_elim h
    obtain ⟨lx13, ux13, hx13⟩ := getE_elim hx13
    refine gR (rd_idx 1 rfl els_sl rfl rfl Tryz.underlying25 size38 lx13 ux13) ?_
    refine gR (rd_elemS (us := [iV x13.Kind, iV x13.N, .string x13.S]) 1 rfl els_sl rfl hx13 agg38 (fun _ _ _ h => by rw [show _ = _ from h]; rfl)) ?_
    obtain ⟨y14, hy14, h⟩ := bind_elim h
    refine gD (op_callR (r15_has_ok hy14) call147 rfl (mem_nil) r15_has_free) ?_
    rintro _ _ ⟨_, ⟨rfl, rfl⟩, rfl⟩
    refine run ?_
    refine G_cond rfl (fun g15 => ?_) (fun g15 => ?_)
    ·replace h := cond_t g15 h
     refine run ?_
     obtain ⟨x16, hx16, h⟩ := bind_elim h
     obtain ⟨lx16, ux16, hx16⟩ := getE_elim hx16
     refine gR (rd_idx 1 rfl els_sl rfl rfl Tryz.underlying25 size38 lx16 ux16) ?_
     refine gR (rd_fa 1 rfl els_sl rfl (toNat_lt lx16 ux16) fa_38_1) ?_
     refine gR (rd_elem1 (u := iV x16.N) 1 rfl els_sl rfl hx16 one3 (fun _ _ _ h => by rw [show _ = _ from h]; rfl)) ?_
     refine gD (op_bslice (R := (rInt .i64)) (vss := [[iV x16.N]]) (xs := [x16.N]) rfl (bsl_35_1 _) rfl rfl (fun _ _ hr => .cons rfl All2.nil)) ?_
     rintro _ _ ⟨A17, n17, c17, rfl, rfl⟩
     obtain ⟨q18, h⟩ := req_elim h
     refine gD (op_append 1 0 rfl rfl els_own rfl rfl Tryz.underlying35 zb3 rfl rfl q18) ?_
     rintro _ _ ⟨A19, n19, c19, rfl, rfl⟩
     refine run ?_
     exact ⟨_, _, ⟨p7 ++ ([x16.N] : List Int), A19, n19, c19, h, rfl, rfl⟩, sA, cv_sel [1, 2, 3, 4] 5 rfl rfl⟩
    ·replace h := cond_f g15 h
     refine run ?_
     exact ⟨_, _, ⟨p7, A7, n7, c7, h, rfl, rfl⟩, sA, cv_sel [0, 1, 2, 3] 4 rfl rfl⟩
   ·rintro _ _ ⟨p12, A12, n12, c12, h, rfl, rfl⟩
    refine run ?_
    obtain ⟨q20, h⟩ := req_elim h
    refine gE (ev_add rfl rfl q20.1 q20.2) ?_
    refine run ?_
    exact ⟨m6, _, _, Nat.lt_succ_self _, ⟨p12, p8 + 1, A12, n12, c12, h, rfl, rfl⟩, sA, cv_sel [0, 1, 2, 3] 4 rfl rfl⟩
  ·replace h := cond_f g10 h
   refine run ?_
   exact ⟨_, _, ⟨p7, A7, n7, c7, h, rfl, rfl⟩, sA, cv_sel [0, 1, 2, 3] 4 rfl rfl⟩
 ·rintro _ _ ⟨p5, A5, n5, c5, h, rfl, rfl⟩
  refine G_joinF (fun s L => ∃ (p22 : (List Int)) (A22 : Option Addr) (n22 c22 : Nat), r15_Leads_j21 N p22 = some r ∧ s = [(2, .slice none 0 0), (3, .slice A22 n22 c22)] ∧ L = [kO2 A22 n22 c22 p22]) ?_ ?_
  ·refine run ?_
   refine G_loopF (fun m s L => ∃ (p24 : (List Int)) (p25 : Int) (A24 : Option Addr) (n24 c24 : Nat), r15_Leads_l23 N a0 m p24 p25 = some r ∧ s = [(1, pV B3 0), (2, .slice none 0 0), (3, .slice A24 n24 c24), (5, iV p25)] ∧ L = [kO2 A24 n24 c24 p24, kS0 A1 n1 c1 a0.Slots, kS0 A2 n2 c2 a0.More, boxC B3 32 [iV a0.Kind, iV a0.Shape, iV a0.Flags, iV a0.Age, .slice A1 n1 c1, .slice A2 n2 c2]]) N _ _ ⟨p5, 0, A5, n5, c5, h, rfl, rfl⟩ sA (cv_sel [0, 1, 2, 3] 4 rfl rfl) ?_
   rintro (_ | m23) _ _ ⟨p24, p25, A24, n24, c24, h, rfl, rfl⟩
   ·exact none_some h
   rw [r15_Leads_l23_s] at h
   refine G_seq ?_
   refine run ?_
   refine gR (rd_len 2 rfl els_sl rfl Tryz.underlying25) ?_
   refine run ?_
   refine G_cond rfl (fun g26 => ?_) (fun g26 => ?_)
   ·replace h := cond_t g26 h
    refine run ?_
    refine G_joinF (fun s L => ∃ (p28 : (List Int)) (A28 : Option Addr) (n28 c28 : Nat), r15_Leads_j27 N (r15_Leads_l23 N a0 m23) p25 a0 p28 = some r ∧ s = [(1, pV B3 0), (2, .slice none 0 0), (3, .slice A28 n28 c28), (5, iV p25)] ∧ L = [kO2 A28 n28 c28 p28, kS0 A1 n1 c1 a0.Slots, kS0 A2 n2 c2 a0.More, boxC B3 32 [iV a0.Kind, iV a0.Shape, iV a0.Flags, iV a0.Age, .slice A1 n1 c1, .slice A2 n2 c2]]) ?_ ?_
    ·refine run ?_
     obtain ⟨x29, hx29, h⟩ := bind_elim h
     obtain ⟨lx29, ux29, hx29⟩ := getE_elim hx29
     refine gR (rd_idx 2 rfl els_sl rfl rfl Tryz.underlying25 size38 lx29 ux29) ?_
     refine gR (rd_elemS (us := [iV x29.Kind, iV x29.N, .string x29.S]) 2 rfl els_sl rfl hx29 agg38 (fun _ _ _ h => by rw [show _ = _ from h]; rfl)) ?_
     obtain ⟨y30, hy30, h⟩ := bind_elim h
     refine gD (op_callR (r15_has_ok hy30) call147 rfl (mem_nil) r15_has_free) ?_
     rintro _ _ ⟨_, ⟨rfl, rfl⟩, rfl⟩
     refine run ?_
     obtain ⟨b31, hb31, h⟩ := bind_elim h
     refine G_segb 6 47 b31 ?_ ?_
     ·clear h
      refine G_case 41 rfl (fun g31 => ?_) (fun g31 => ?_)
      ·have h := cond_t g31 hb31
       refine run ?_
       obtain ⟨y32, hy32, h⟩ := bind_elim h
       refine G_opd (op_callR (r15_weak_ok hy32) call148 rfl (mem_nil) r15_weak_free) rfl (g_tt g31 rfl) rfl ?_
       rintro _ _ ⟨_, ⟨rfl, rfl⟩, rfl⟩
       refine run ?_
       obtain rfl := Option.some.inj h
       exact G_joined sA (cv_sel [0, 1, 2, 3] 4 rfl rfl)
      ·have h := cond_f g31 hb31
       refine run ?_
       obtain rfl := Option.some.inj h
       exact G_joined sA (cv_sel [0, 1, 2, 3] 4 rfl rfl)
     refine run ?_
     refine G_cond rfl (fun g33 => ?_) (fun g33 => ?_)
     ·replace h := cond_t g33 h
      refine run ?_
      obtain ⟨x34, hx34, h⟩ := bind_elim h
      obtain ⟨lx34, ux34, hx34⟩ := getE_elim hx34
      refine gR (rd_idx 2 rfl els_sl rfl rfl Tryz.underlying25 size38 lx34 ux34) ?_
      refine gR (rd_fa 2 rfl els_sl rfl (toNat_lt lx34 ux34) fa_38_1) ?_
      refine gR (rd_elem1 (u := iV x34.N) 2 rfl els_sl rfl hx34 one3 (fun _ _ _ h => by rw [show _ = _ from h]; rfl)) ?_
      refine gD (op_bslice (R := (rInt .i64)) (vss := [[iV x34.N]]) (xs := [x34.N]) rfl (bsl_35_1 _) rfl rfl (fun _ _ hr => .cons rfl All2.nil)) ?_
      rintro _ _ ⟨A35, n35, c35, rfl, rfl⟩
      obtain ⟨q36, h⟩ := req_elim h
      refine gD (op_append 1 0 rfl rfl els_own rfl rfl Tryz.underlying35 zb3 rfl rfl q36) ?_
      rintro _ _ ⟨A37, n37, c37, rfl, rfl⟩
      refine run ?_
      exact ⟨_, _, ⟨p24 ++ ([x34.N] : List Int), A37, n37, c37, h, rfl, rfl⟩, sA, cv_sel [1, 2, 3, 4] 5 rfl rfl⟩
     ·replace h := cond_f g33 h
      refine run ?_
      exact ⟨_, _, ⟨p24, A24, n24, c24, h, rfl, rfl⟩, sA, cv_sel [0, 1, 2, 3] 4 rfl rfl⟩
    ·rintro _ _ ⟨p28, A28, n28, c28, h, rfl, rfl⟩
     refine run ?_
     obtain ⟨q38, h⟩ := req_elim h
     refine gE (ev_add rfl rfl q38.1 q38.2) ?_
     refine run ?_
     exact ⟨m23, _, _, Nat.lt_succ_self _, ⟨p28, p25 + 1, A28, n28, c28, h, rfl, rfl⟩, sA, cv_sel [0, 1, 2, 3] 4 rfl rfl⟩
   ·replace h := cond_f g26 h
    refine run ?_
    exact ⟨_, _, ⟨p24, A24, n24, c24, h, rfl, rfl⟩, sA, cv_sel [0] 4 rfl rfl⟩
  ·rintro _ _ ⟨p22, A22, n22, c22, h, rfl, rfl⟩
   refine run ?_
   obtain rfl := Option.some.inj h
   exact endG1 rfl rfl (cv_sel [0] 1 rfl rfl) ⟨_, _, _, rfl, rfl⟩
theorem r15_Leads_free {r : (List Int)} : ∀ v post, ((fun (u : Value) (post : List Chunk) => ∃ A0 n0 c0, u = .slice A0 n0 c0 ∧ post = [kO2 A0 n0 c0 r])) v post → ∀ c ∈ post, Free c := by
 rintro _ _ ⟨_, _, _, rfl, rfl⟩; exact mem_cons free_own (mem_nil)
def r19_addresses_j3 (N : Nat) (p4 : (List Int)) : Option (List Int) :=
 some p4
def r19_addresses_j9 (N : Nat) (kb5 : (List Int) → Int → Option (List Int)) (p7 : Int) (a0 : (List DValue)) (p10 : (List Int)) : Option (List Int) :=
 req (in64 (p7 + 1)) (kb5 p10 (p7 + 1))
def r19_addresses_l5 (N : Nat) (a0 : (List DValue)) : Nat → (List Int) → Int → Option (List Int)
 | 0, _, _ => none
 | m5 + 1, p6, p7 => bif decide (p7 < (a0.length : Int)) then ((getE a0 p7).bind fun x11 => (bif decide (x11.Kind = 7) then (some true) else ((getE a0 p7).bind fun x13 => some (decide (x13.Kind = 9)))).bind fun b12 => bif b12 then ((getE a0 p7).bind fun x15 => req (fitsL (p6.length + ([x15.N] : List Int).length)) (r19_addresses_j9 N (r19_addresses_l5 N a0 m5) p7 a0 (p6 ++ ([x15.N] : List Int)))) else (r19_addresses_j9 N (r19_addresses_l5 N a0 m5) p7 a0 p6)) else (r19_addresses_j3 N p6)
theorem r19_addresses_l5_s {N m5 : Nat} {a0 : (List DValue)} {p6 : (List Int)} {p7 : Int} : r19_addresses_l5 N a0 (m5 + 1) p6 p7 = bif decide (p7 < (a0.length : Int)) then ((getE a0 p7).bind fun x11 => (bif decide (x11.Kind = 7) then (some true) else ((getE a0 p7).bind fun x13 => some (decide (x13.Kind = 9)))).bind fun b12 => bif b12 then ((getE a0 p7).bind fun x15 => req (fitsL (p6.length + ([x15.N] : List Int).length)) (r19_addresses_j9 N (r19_addresses_l5 N a0 m5) p7 a0 (p6 ++ ([x15.N] : List Int)))) else (r19_addresses_j9 N (r19_addresses_l5 N a0 m5) p7 a0 p6)) else (r19_addresses_j3 N p6) := rfl
def r19_addresses_O (N : Nat) (a0 : (List DValue)) : Option (List Int) :=
 r19_addresses_l5 N a0 N ([] : List Int) 0
theorem r19_addresses_ok {N : Nat} {a0 : (List DValue)} {r : (List Int)} (h : r19_addresses_O N a0 = some r) {A1 : Option Addr} {n1 c1 : Nat} : Okc Tryz.prog 59 [.slice A1 n1 c1] ([kS0 A1 n1 c1 a0]) (fun (u : Value) (post : List Chunk) => ∃ A0 n0 c0, u = .slice A0 n0 c0 ∧ post = [kO2 A0 n0 c0 r]) := by
 refine ok_E Tryz.func59 rfl rfl ?_
 simp only [envOf]
 refine run ?_
 refine gD (op_bslice (R := (rInt .i64)) (vss := []) (xs := []) rfl (bsl_35_0) rfl rfl (fun _ _ hr => All2.nil)) ?_
 rintro _ _ ⟨A2, n2, c2, rfl, rfl⟩
 refine run ?_
 refine G_joinF (fun s L => ∃ (p4 : (List Int)) (A4 : Option Addr) (n4 c4 : Nat), r19_addresses_j3 N p4 = some r ∧ s = [(2, .slice none 0 0), (3, .slice A4 n4 c4)] ∧ L = [kO2 A4 n4 c4 p4]) ?_ ?_
 ·refine run ?_
  refine G_loopF (fun m s L => ∃ (p6 : (List Int)) (p7 : Int) (A6 : Option Addr) (n6 c6 : Nat), r19_addresses_l5 N a0 m p6 p7 = some r ∧ s = [(0, .slice A1 n1 c1), (2, .slice none 0 0), (3, .slice A6 n6 c6), (4, iV p7)] ∧ L = [kS0 A1 n1 c1 a0, kO2 A6 n6 c6 p6]) N _ _ ⟨([] : List Int), 0, A2, n2, c2, h, rfl, rfl⟩ sA (cv_sel [1, 0] 2 rfl rfl) ?_
  rintro (_ | m5) _ _ ⟨p6, p7, A6, n6, c6, h, rfl, rfl⟩
  ·exact none_some h
  rw [r19_addresses_l5_s] at h
  refine G_seq ?_
  refine run ?_
  refine gR (rd_len 0 rfl els_sl rfl Tryz.underlying25) ?_
  refine run ?_
  refine G_cond rfl (fun g8 => ?_) (fun g8 => ?_)
  ·replace h := cond_t g8 h
   refine run ?_
   refine G_joinF (fun s L => ∃ (p10 : (List Int)) (A10 : Option Addr) (n10 c10 : Nat), r19_addresses_j9 N (r19_addresses_l5 N a0 m5) p7 a0 p10 = some r ∧ s = [(0, .slice A1 n1 c1), (2, .slice none 0 0), (3, .slice A10 n10 c10), (4, iV p7)] ∧ L = [kS0 A1 n1 c1 a0, kO2 A10 n10 c10 p10]) ?_ ?_
   ·refine run ?_
    obtain ⟨x11, hx11, h⟩ := bind_elim h
    obtain ⟨lx11, ux11, hx11⟩ := getE_elim hx11
    refine gR (rd_idx 0 rfl els_sl rfl rfl Tryz.underlying25 size38 lx11 ux11) ?_
    refine gR (rd_fa0 0 rfl els_sl rfl (toNat_lt lx11 ux11) fa_38_0) ?_
    refine gR (rd_elem1 (u := iV x11.Kind) 0 rfl els_sl rfl hx11 one3 (fun _ _ _ h => by rw [show _ = _ from h]; rfl)) ?_
    refine run ?_
    obtain ⟨b12, hb12, h⟩ := bind_elim h
    refine G_segb 7 25 b12 ?_ ?_
    ·clear h
     refine G_case 18 rfl (fun g12 => ?_) (fun g12 => ?_)
     ·have h := cond_t g12 hb12
      refine run ?_
      obtain rfl := Option.some.inj h
      exact G_joined sA (cv_sel [0, 1] 2 rfl rfl)
     ·have h := cond_f g12 hb12
      refine run ?_
      obtain ⟨x13, hx13, h⟩ := bind_elim h
      obtain ⟨lx13, ux13, hx13⟩ := getE_elim hx13
      refine G_rd (rd_idx 0 rfl els_sl rfl rfl Tryz.underlying25 size38 lx13 ux13) rfl (g_ff g12 rfl) rfl ?_
      refine G_rd (rd_fa0 0 rfl els_sl rfl (toNat_lt lx13 ux13) fa_38_0) rfl (g_ff g12 rfl) rfl ?_
      refine G_rd (rd_elem1 (u := iV x13.Kind) 0 rfl els_sl rfl hx13 one3 (fun _ _ _ h => by rw [show _ = _ from h]; rfl)) rfl (g_ff g12 rfl) rfl ?_
      refine run ?_
      obtain rfl := Option.some.inj h
      exact G_joined sA (cv_sel [0, 1] 2 rfl rfl)
    refine run ?_
    refine G_cond rfl (fun g14 => ?_) (fun g14 => ?_)
    ·replace h := cond_t g14 h
     refine run ?_
     obtain ⟨x15, hx15, h⟩ := bind_elim h
     obtain ⟨lx15, ux15, hx15⟩ := getE_elim hx15
     refine gR (rd_idx 0 rfl els_sl rfl rfl Tryz.underlying25 size38 lx15 ux15) ?_
     refine gR (rd_fa 0 rfl els_sl rfl (toNat_lt lx15 ux15) fa_38_1) ?_
     refine gR (rd_elem1 (u := iV x15.N) 0 rfl els_sl rfl hx15 one3 (fun _ _ _ h => by rw [show _ = _ from h]; rfl)) ?_
     refine gD (op_bslice (R := (rInt .i64)) (vss := [[iV x15.N]]) (xs := [x15.N]) rfl (bsl_35_1 _) rfl rfl (fun _ _ hr => .cons rfl All2.nil)) ?_
     rintro _ _ ⟨A16, n16, c16, rfl, rfl⟩
     obtain ⟨q17, h⟩ := req_elim h
     refine gD (op_append 2 0 rfl rfl els_own rfl rfl Tryz.underlying35 zb3 rfl rfl q17) ?_
     rintro _ _ ⟨A18, n18, c18, rfl, rfl⟩
     refine run ?_
     exact ⟨_, _, ⟨p6 ++ ([x15.N] : List Int), A18, n18, c18, h, rfl, rfl⟩, sA, cv_sel [1, 2] 3 rfl rfl⟩
    ·replace h := cond_f g14 h
     refine run ?_
     exact ⟨_, _, ⟨p6, A6, n6, c6, h, rfl, rfl⟩, sA, cv_sel [0, 1] 2 rfl rfl⟩
   ·rintro _ _ ⟨p10, A10, n10, c10, h, rfl, rfl⟩
    refine run ?_
    obtain ⟨q19, h⟩ := req_elim h
    refine gE (ev_add rfl rfl q19.1 q19.2) ?_
    refine run ?_
    exact ⟨m5, _, _, Nat.lt_succ_self _, ⟨p10, p7 + 1, A10, n10, c10, h, rfl, rfl⟩, sA, cv_sel [0, 1] 2 rfl rfl⟩
  ·replace h := cond_f g8 h
   refine run ?_
   exact ⟨_, _, ⟨p6, A6, n6, c6, h, rfl, rfl⟩, sA, cv_sel [1] 2 rfl rfl⟩
 ·rintro _ _ ⟨p4, A4, n4, c4, h, rfl, rfl⟩
  refine run ?_
  obtain rfl := Option.some.inj h
  exact endG1 rfl rfl (cv_sel [0] 1 rfl rfl) ⟨_, _, _, rfl, rfl⟩
theorem r19_addresses_free {r : (List Int)} : ∀ v post, ((fun (u : Value) (post : List Chunk) => ∃ A0 n0 c0, u = .slice A0 n0 c0 ∧ post = [kO2 A0 n0 c0 r])) v post → ∀ c ∈ post, Free c := by
 rintro _ _ ⟨_, _, _, rfl, rfl⟩; exact mem_cons free_own (mem_nil)
def r19_In_j2 (N : Nat) : Option Bool :=
 some false
def r19_In_l3 (N : Nat) (a1 : Int) (a0 : (List Int)) : Nat → Int → Option Bool
 | 0, _ => none
 | m3 + 1, p4 => bif decide (p4 < (a0.length : Int)) then ((getE a0 p4).bind fun x6 => bif decide (x6 = a1) then (some true) else (req (in64 (p4 + 1)) ((r19_In_l3 N a1 a0 m3) (p4 + 1)))) else (r19_In_j2 N)
theorem r19_In_l3_s {N m3 : Nat} {a1 : Int} {a0 : (List Int)} {p4 : Int} : r19_In_l3 N a1 a0 (m3 + 1) p4 = bif decide (p4 < (a0.length : Int)) then ((getE a0 p4).bind fun x6 => bif decide (x6 = a1) then (some true) else (req (in64 (p4 + 1)) ((r19_In_l3 N a1 a0 m3) (p4 + 1)))) else (r19_In_j2 N) := rfl
def r19_In_O (N : Nat) (a0 : (List Int)) (a1 : Int) : Option Bool :=
 r19_In_l3 N a1 a0 N 0
theorem r19_In_ok {N : Nat} {a0 : (List Int)} {a1 : Int} {r : Bool} (h : r19_In_O N a0 a1 = some r) {A1 : Option Addr} {n1 c1 : Nat} : Okc Tryz.prog 119 [.slice A1 n1 c1, iV a1] ([kS5 A1 n1 c1 a0]) (fun (u : Value) (post : List Chunk) => u = .bool r ∧ post = []) := by
 refine ok_E Tryz.func119 rfl rfl ?_
 simp only [envOf]
 refine run ?_
 refine G_joinF (fun s L => r19_In_j2 N = some r ∧ s = [(4, .bool false)] ∧ L = []) ?_ ?_
 ·refine run ?_
  refine G_loopF (fun m s L => ∃ (p4 : Int), r19_In_l3 N a1 a0 m p4 = some r ∧ s = [(0, .slice A1 n1 c1), (1, iV a1), (4, .bool false), (5, iV p4)] ∧ L = [kS5 A1 n1 c1 a0]) N _ _ ⟨0, h, rfl, rfl⟩ sA (cv_sel [0] 1 rfl rfl) ?_
  rintro (_ | m3) _ _ ⟨p4, h, rfl, rfl⟩
  ·exact none_some h
  rw [r19_In_l3_s] at h
  refine G_seq ?_
  refine run ?_
  refine gR (rd_len 0 rfl els_sl rfl Tryz.underlying35) ?_
  refine run ?_
  refine G_cond rfl (fun g5 => ?_) (fun g5 => ?_)
  ·replace h := cond_t g5 h
   refine run ?_
   refine G_seq ?_
   refine run ?_
   obtain ⟨x6, hx6, h⟩ := bind_elim h
   obtain ⟨lx6, ux6, hx6⟩ := getE_elim hx6
   refine gR (rd_idx 0 rfl els_sl rfl rfl Tryz.underlying35 size3 lx6 ux6) ?_
   refine gR (rd_elem1 (u := iV x6) 0 rfl els_sl rfl hx6 one3 (fun _ _ _ h => by rw [show _ = _ from h]; rfl)) ?_
   refine run ?_
   refine G_cond rfl (fun g7 => ?_) (fun g7 => ?_)
   ·replace h := cond_t g7 h
    refine run ?_
    obtain rfl := Option.some.inj h
    exact endG1 rfl rfl (cv_sel [] 1 rfl rfl) ⟨rfl, rfl⟩
   ·replace h := cond_f g7 h
    refine run ?_
    obtain ⟨q8, h⟩ := req_elim h
    refine gE (ev_add rfl rfl q8.1 q8.2) ?_
    refine run ?_
    exact ⟨m3, _, _, Nat.lt_succ_self _, ⟨p4 + 1, h, rfl, rfl⟩, sA, cv_sel [0] 1 rfl rfl⟩
  ·replace h := cond_f g5 h
   refine run ?_
   exact ⟨_, _, ⟨h, rfl, rfl⟩, sA, cv_sel [] 1 rfl rfl⟩
 ·rintro _ _ ⟨h, rfl, rfl⟩
  refine run ?_
  obtain rfl := Option.some.inj h
  exact endG1 rfl rfl (cv_sel [] 0 rfl rfl) ⟨rfl, rfl⟩
theorem r19_In_free {r : Bool} : ∀ v post, ((fun (u : Value) (post : List Chunk) => u = .bool r ∧ post = [])) v post → ∀ c ∈ post, Free c := by
 rintro _ _ ⟨rfl, rfl⟩; exact mem_nil
def r19_lay_j6 (N : Nat) (p7 : (List Int)) : Option (List Int) :=
 some p7
def r19_lay_j12 (N : Nat) (kb8 : (List Int) → Int → Option (List Int)) (p10 : Int) (a2 : (List Int)) (a0 : DMemory) (p13 : (List Int)) : Option (List Int) :=
 req (in64 (p10 + 1)) (kb8 p13 (p10 + 1))
def r19_lay_l8 (N : Nat) (a2 : (List Int)) (a0 : DMemory) : Nat → (List Int) → Int → Option (List Int)
 | 0, _, _ => none
 | m8 + 1, p9, p10 => bif decide (p10 < (a2.length : Int)) then ((getE a2 p10).bind fun x14 => (r19_Has_O N a0 x14).bind fun y15 => (bif y15 then ((getE a2 p10).bind fun x17 => (r19_In_O N p9 x17).bind fun y18 => some (!y18)) else (some false)).bind fun b16 => bif b16 then ((getE a2 p10).bind fun x20 => req (fitsL (p9.length + ([x20] : List Int).length)) (r19_lay_j12 N (r19_lay_l8 N a2 a0 m8) p10 a2 a0 (p9 ++ ([x20] : List Int)))) else (r19_lay_j12 N (r19_lay_l8 N a2 a0 m8) p10 a2 a0 p9)) else (r19_lay_j6 N p9)
theorem r19_lay_l8_s {N m8 : Nat} {a2 : (List Int)} {a0 : DMemory} {p9 : (List Int)} {p10 : Int} : r19_lay_l8 N a2 a0 (m8 + 1) p9 p10 = bif decide (p10 < (a2.length : Int)) then ((getE a2 p10).bind fun x14 => (r19_Has_O N a0 x14).bind fun y15 => (bif y15 then ((getE a2 p10).bind fun x17 => (r19_In_O N p9 x17).bind fun y18 => some (!y18)) else (some false)).bind fun b16 => bif b16 then ((getE a2 p10).bind fun x20 => req (fitsL (p9.length + ([x20] : List Int).length)) (r19_lay_j12 N (r19_lay_l8 N a2 a0 m8) p10 a2 a0 (p9 ++ ([x20] : List Int)))) else (r19_lay_j12 N (r19_lay_l8 N a2 a0 m8) p10 a2 a0 p9)) else (r19_lay_j6 N p9) := rfl
def r19_lay_O (N : Nat) (a0 : DMemory) (a1 : (List Int)) (a2 : (List Int)) : Option (List Int) :=
 r19_lay_l8 N a2 a0 N a1 0
theorem r19_lay_ok {N : Nat} {a0 : DMemory} {a1 : (List Int)} {a2 : (List Int)} {r : (List Int)} (h : r19_lay_O N a0 a1 a2 = some r) {A1 : Option Addr} {n1 c1 : Nat} {A2 : Option Addr} {n2 c2 : Nat} {A4 : Option Addr} {n4 c4 : Nat} {A3 : Option Addr} {n3 c3 : Nat} : Okc Tryz.prog 65 [.agg #[.slice A1 n1 c1, .slice A2 n2 c2], .slice A3 n3 c3, .slice A4 n4 c4] ([kS1 A1 n1 c1 a0.Young, kS1 A2 n2 c2 a0.Old, kS5 A4 n4 c4 a2, kO2 A3 n3 c3 a1]) (fun (u : Value) (post : List Chunk) => ∃ A0 n0 c0, u = .slice A0 n0 c0 ∧ post = [kO2 A0 n0 c0 r]) := by
 refine ok_E Tryz.func65 rfl rfl ?_
 simp only [envOf]
 refine run ?_
 refine gD (op_box rfl rfl) ?_
 rintro _ _ ⟨B5, rfl, rfl⟩
 refine run ?_
 refine G_joinF (fun s L => ∃ (p7 : (List Int)) (A7 : Option Addr) (n7 c7 : Nat), r19_lay_j6 N p7 = some r ∧ s = [(1, .slice A7 n7 c7), (6, .slice none 0 0)] ∧ L = [kO2 A7 n7 c7 p7]) ?_ ?_
 ·refine run ?_
  refine G_loopF (fun m s L => ∃ (p9 : (List Int)) (p10 : Int) (A9 : Option Addr) (n9 c9 : Nat), r19_lay_l8 N a2 a0 m p9 p10 = some r ∧ s = [(1, .slice A9 n9 c9), (2, .slice A4 n4 c4), (3, pV B5 0), (6, .slice none 0 0), (7, iV p10)] ∧ L = [kO2 A9 n9 c9 p9, kS5 A4 n4 c4 a2, kS1 A1 n1 c1 a0.Young, kS1 A2 n2 c2 a0.Old, boxC B5 24 [.slice A1 n1 c1, .slice A2 n2 c2]]) N _ _ ⟨a1, 0, A3, n3, c3, h, rfl, rfl⟩ sA (cv_sel [4, 3, 1, 2, 0] 5 rfl rfl) ?_
  rintro (_ | m8) _ _ ⟨p9, p10, A9, n9, c9, h, rfl, rfl⟩
  ·exact none_some h
  rw [r19_lay_l8_s] at h
  refine G_seq ?_
  refine run ?_
  refine gR (rd_len 1 rfl els_sl rfl Tryz.underlying35) ?_
  refine run ?_
  refine G_cond rfl (fun g11 => ?_) (fun g11 => ?_)
  ·replace h := cond_t g11 h
   refine run ?_
   refine G_joinF (fun s L => ∃ (p13 : (List Int)) (A13 : Option Addr) (n13 c13 : Nat), r19_lay_j12 N (r19_lay_l8 N a2 a0 m8) p10 a2 a0 p13 = some r ∧ s = [(1, .slice A13 n13 c13), (2, .slice A4 n4 c4), (3, pV B5 0), (6, .slice none 0 0), (7, iV p10)] ∧ L = [kO2 A13 n13 c13 p13, kS5 A4 n4 c4 a2, kS1 A1 n1 c1 a0.Young, kS1 A2 n2 c2 a0.Old, boxC B5 24 [.slice A1 n1 c1, .slice A2 n2 c2]]) ?_ ?_
   ·refine G_block ?_
    refine G_seq ?_
    refine G_drawn (by kernel_rfl) _ (cv_refl _) ?_
    refine T3_rd 0 rfl (by kernel_rfl) (rd_boxS (us := [.slice A1 n1 c1, .slice A2 n2 c2]) 4 rfl rfl agg24 rfl) rfl rfl ?_
    refine T3_ev 1 rfl (by kernel_rfl) (ev_move rfl) rfl rfl ?_
    refine T3_ev 2 rfl (by kernel_rfl) (ev_move rfl) rfl rfl ?_
    obtain ⟨x14, hx14, h⟩ := bind_elim h
    obtain ⟨lx14, ux14, hx14⟩ := getE_elim hx14
    refine T3_rd 3 rfl (by kernel_rfl) (rd_idx 1 rfl els_sl rfl rfl Tryz.underlying35 size3 lx14 ux14) rfl rfl ?_
    refine T3_rd 4 rfl (by kernel_rfl) (rd_elem1 (u := iV x14) 1 rfl els_sl rfl hx14 one3 (fun _ _ _ h => by rw [show _ = _ from h]; rfl)) rfl rfl ?_
    obtain ⟨y15, hy15, h⟩ := bind_elim h
    refine T3_opd 5 rfl (by kernel_rfl) (op_callR (r19_Has_ok hy15) call14 rfl (mem_cons (lent_ro (i := 2) rfl rfl) (mem_cons (lent_ro (i := 3) rfl rfl) mem_nil)) r19_Has_free) rfl rfl rfl ?_
    rintro _ _ ⟨_, ⟨rfl, rfl⟩, rfl⟩
    refine ⟨_, cv_refl _, cv_refl _, ?_⟩
    refine T3_ev 6 rfl (by kernel_rfl) (ev_move rfl) rfl rfl ?_
    obtain ⟨b16, hb16, h⟩ := bind_elim h
    refine T3_joinB (fun l => ((((((((l.setIfInBounds 7 true).setIfInBounds 8 true).setIfInBounds 9 true).setIfInBounds 10 true).setIfInBounds 11 true).setIfInBounds 12 true).setIfInBounds 13 true).setIfInBounds 14 true)) 0 28 b16 (fun rest => ?_) ?_
    ·clear h
     refine T3_case 20 rfl (fun g16 => ?_) (fun g16 => ?_)
     ·have h := cond_t g16 hb16
      refine T3_ev 7 rfl (by kernel_rfl) (ev_move rfl) (g_tt g16 rfl) rfl ?_
      refine T3_ev 8 rfl (by kernel_rfl) (ev_move rfl) (g_tt g16 rfl) rfl ?_
      refine T3_ev 9 rfl (by kernel_rfl) (ev_move rfl) (g_tt g16 rfl) rfl ?_
      obtain ⟨x17, hx17, h⟩ := bind_elim h
      obtain ⟨lx17, ux17, hx17⟩ := getE_elim hx17
      refine T3_rd 10 rfl (by kernel_rfl) (rd_idx 1 rfl els_sl rfl rfl Tryz.underlying35 size3 lx17 ux17) (g_tt g16 rfl) rfl ?_
      refine T3_rd 11 rfl (by kernel_rfl) (rd_elem1 (u := iV x17) 1 rfl els_sl rfl hx17 one3 (fun _ _ _ h => by rw [show _ = _ from h]; rfl)) (g_tt g16 rfl) rfl ?_
      obtain ⟨y18, hy18, h⟩ := bind_elim h
      refine T3_opd 12 rfl (by kernel_rfl) (op_callR (r19_In_ok hy18) call119 rfl (mem_cons (lent_own (i := 0) rfl) mem_nil) r19_In_free) rfl (g_tt g16 rfl) rfl ?_
      rintro _ _ ⟨_, ⟨rfl, rfl⟩, rfl⟩
      refine ⟨_, cv_refl _, cv_refl _, ?_⟩
      refine T3_ev 13 rfl (by kernel_rfl) (ev_not rfl) (g_tt g16 rfl) rfl ?_
      refine T3_ev 14 rfl (by kernel_rfl) (ev_pick_t' g16 rfl rfl) rfl rfl ?_
      obtain rfl := Option.some.inj h
      exact T3_sub rest (sub_cons rfl (sub_skip (sub_skip (sub_skip (sub_skip (sub_skip (sub_skip (sub_skip (sub_skip sub_refl rfl) rfl) rfl) rfl) rfl) rfl) rfl) rfl)) (cv_refl _) (cv_refl _)
     ·have h := cond_f g16 hb16
      refine T3_no 7 rfl (by kernel_rfl) (g_tf g16 rfl) rfl ?_
      refine T3_no 8 rfl (by kernel_rfl) (g_tf g16 rfl) rfl ?_
      refine T3_no 9 rfl (by kernel_rfl) (g_tf g16 rfl) rfl ?_
      refine T3_no 10 rfl (by kernel_rfl) (g_tf g16 rfl) rfl ?_
      refine T3_no 11 rfl (by kernel_rfl) (g_tf g16 rfl) rfl ?_
      refine T3_no 12 rfl (by kernel_rfl) (g_tf g16 rfl) rfl ?_
      refine T3_no 13 rfl (by kernel_rfl) (g_tf g16 rfl) rfl ?_
      refine T3_ev 14 rfl (by kernel_rfl) (ev_pick_f' g16 rfl rfl) rfl rfl ?_
      obtain rfl := Option.some.inj h
      exact T3_sub rest (sub_cons rfl (sub_skip (sub_skip (sub_skip (sub_skip (sub_skip (sub_skip (sub_skip (sub_skip sub_refl rfl) rfl) rfl) rfl) rfl) rfl) rfl) rfl)) (cv_refl _) (cv_refl _)
    refine T3_done (by kernel_rfl) ?_
    refine nx_n ?_
    refine G_cond rfl (fun g19 => ?_) (fun g19 => ?_)
    ·replace h := cond_t g19 h
     refine run ?_
     obtain ⟨x20, hx20, h⟩ := bind_elim h
     obtain ⟨lx20, ux20, hx20⟩ := getE_elim hx20
     refine gR (rd_idx 1 rfl els_sl rfl rfl Tryz.underlying35 size3 lx20 ux20) ?_
     refine gR (rd_elem1 (u := iV x20) 1 rfl els_sl rfl hx20 one3 (fun _ _ _ h => by rw [show _ = _ from h]; rfl)) ?_
     refine gD (op_bslice (R := (rInt .i64)) (vss := [[iV x20]]) (xs := [x20]) rfl (bsl_35_1 _) rfl rfl (fun _ _ hr => .cons rfl All2.nil)) ?_
     rintro _ _ ⟨A21, n21, c21, rfl, rfl⟩
     obtain ⟨q22, h⟩ := req_elim h
     refine gD (op_append 1 0 rfl rfl els_own rfl rfl Tryz.underlying35 zb3 rfl rfl q22) ?_
     rintro _ _ ⟨A23, n23, c23, rfl, rfl⟩
     refine run ?_
     exact ⟨_, _, ⟨p9 ++ ([x20] : List Int), A23, n23, c23, h, rfl, rfl⟩, sA, cv_sel [1, 2, 3, 4, 5] 6 rfl rfl⟩
    ·replace h := cond_f g19 h
     refine run ?_
     exact ⟨_, _, ⟨p9, A9, n9, c9, h, rfl, rfl⟩, sA, cv_sel [0, 1, 2, 3, 4] 5 rfl rfl⟩
   ·rintro _ _ ⟨p13, A13, n13, c13, h, rfl, rfl⟩
    refine run ?_
    obtain ⟨q24, h⟩ := req_elim h
    refine gE (ev_add rfl rfl q24.1 q24.2) ?_
    refine run ?_
    exact ⟨m8, _, _, Nat.lt_succ_self _, ⟨p13, p10 + 1, A13, n13, c13, h, rfl, rfl⟩, sA, cv_sel [0, 1, 2, 3, 4] 5 rfl rfl⟩
  ·replace h := cond_f g11 h
   refine run ?_
   exact ⟨_, _, ⟨p9, A9, n9, c9, h, rfl, rfl⟩, sA, cv_sel [0] 5 rfl rfl⟩
 ·rintro _ _ ⟨p7, A7, n7, c7, h, rfl, rfl⟩
  refine run ?_
  obtain rfl := Option.some.inj h
  exact endG1 rfl rfl (cv_sel [0] 1 rfl rfl) ⟨_, _, _, rfl, rfl⟩
def r19_through_j5 (N : Nat) (p6 : (List Int)) : Option (List Int) :=
 some p6
def r19_through_l7 (N : Nat) (a0 : DMemory) : Nat → (List Int) → Int → Option (List Int)
 | 0, _, _ => none
 | m7 + 1, p8, p9 => bif decide (p9 < (p8.length : Int)) then ((getE p8 p9).bind fun x11 => (r19_At_O N a0 x11).bind fun y12 => (r15_Leads_O N y12).bind fun y17 => (r19_lay_O N a0 p8 y17).bind fun y20 => req (in64 (p9 + 1)) ((r19_through_l7 N a0 m7) y20 (p9 + 1))) else (r19_through_j5 N p8)
theorem r19_through_l7_s {N m7 : Nat} {a0 : DMemory} {p8 : (List Int)} {p9 : Int} : r19_through_l7 N a0 (m7 + 1) p8 p9 = bif decide (p9 < (p8.length : Int)) then ((getE p8 p9).bind fun x11 => (r19_At_O N a0 x11).bind fun y12 => (r15_Leads_O N y12).bind fun y17 => (r19_lay_O N a0 p8 y17).bind fun y20 => req (in64 (p9 + 1)) ((r19_through_l7 N a0 m7) y20 (p9 + 1))) else (r19_through_j5 N p8) := rfl
def r19_through_O (N : Nat) (a0 : DMemory) (a1 : (List Int)) (a2 : Int) : Option (List Int) :=
 r19_through_l7 N a0 N a1 a2
theorem r19_through_ok {N : Nat} {a0 : DMemory} {a1 : (List Int)} {a2 : Int} {r : (List Int)} (h : r19_through_O N a0 a1 a2 = some r) {A1 : Option Addr} {n1 c1 : Nat} {A2 : Option Addr} {n2 c2 : Nat} {A3 : Option Addr} {n3 c3 : Nat} : Okc Tryz.prog 64 [.agg #[.slice A1 n1 c1, .slice A2 n2 c2], .slice A3 n3 c3, iV a2] ([kS1 A1 n1 c1 a0.Young, kS1 A2 n2 c2 a0.Old, kO2 A3 n3 c3 a1]) (fun (u : Value) (post : List Chunk) => ∃ A0 n0 c0, u = .slice A0 n0 c0 ∧ post = [kO2 A0 n0 c0 r]) := by
 refine ok_E Tryz.func64 rfl rfl ?_
 simp only [envOf]
 refine run ?_
 refine gD (op_box rfl rfl) ?_
 rintro _ _ ⟨B4, rfl, rfl⟩
 refine run ?_
 refine G_joinF (fun s L => ∃ (p6 : (List Int)) (A6 : Option Addr) (n6 c6 : Nat), r19_through_j5 N p6 = some r ∧ s = [(1, .slice A6 n6 c6), (6, .slice none 0 0)] ∧ L = [kO2 A6 n6 c6 p6]) ?_ ?_
 ·refine run ?_
  refine G_loopF (fun m s L => ∃ (p8 : (List Int)) (p9 : Int) (A8 : Option Addr) (n8 c8 : Nat), r19_through_l7 N a0 m p8 p9 = some r ∧ s = [(1, .slice A8 n8 c8), (3, pV B4 0), (6, .slice none 0 0), (7, iV p9)] ∧ L = [kO2 A8 n8 c8 p8, kS1 A1 n1 c1 a0.Young, kS1 A2 n2 c2 a0.Old, boxC B4 24 [.slice A1 n1 c1, .slice A2 n2 c2]]) N _ _ ⟨a1, a2, A3, n3, c3, h, rfl, rfl⟩ sA (cv_sel [3, 1, 2, 0] 4 rfl rfl) ?_
  rintro (_ | m7) _ _ ⟨p8, p9, A8, n8, c8, h, rfl, rfl⟩
  ·exact none_some h
  rw [r19_through_l7_s] at h
  refine G_seq ?_
  refine run ?_
  refine gR (rd_len 0 rfl els_own rfl Tryz.underlying35) ?_
  refine run ?_
  refine G_cond rfl (fun g10 => ?_) (fun g10 => ?_)
  ·replace h := cond_t g10 h
   refine run ?_
   refine G_seq ?_
   refine G_block ?_
   obtain ⟨x11, hx11, h⟩ := bind_elim h
   obtain ⟨lx11, ux11, hx11⟩ := getE_elim hx11
   obtain ⟨y12, hy12, h⟩ := bind_elim h
   obtain ⟨y17, hy17, h⟩ := bind_elim h
   refine G_sub (t := [(1, .slice A8 n8 c8), (3, pV B4 0), (6, .slice none 0 0), (7, iV p9)]) ?_ subT (cv_refl _)
   refine G_monoX (by kernel_rfl) 9 [] [0, 1, 8] [15, 16, 17, 18, 19, 20, 21, 22, 23] [[], [], [], [], [], [3, 4], [5], [2, 6], [7]] [aV (.agg #[.slice A1 n1 c1, .slice A2 n2 c2]),
 aV (.slice A8 n8 c8),
 aV (.agg #[.slice A1 n1 c1, .slice A2 n2 c2]),
 aV (.slice A8 n8 c8),
 aV (iV p9),
 aV (elemQ (.slice A8 n8 c8) p9.toNat 1 0),
 aV (iV x11),
 aX6 (fun (A15 : Option Addr) (n15 c15 : Nat) (A16 : Option Addr) (n16 c16 : Nat) => .agg #[iV y12.Kind, iV y12.Shape, iV y12.Flags, iV y12.Age, .slice A15 n15 c15, .slice A16 n16 c16]) (fun A15 n15 c15 A16 n16 c16 => [kS0 A15 n15 c15 y12.Slots, kS0 A16 n16 c16 y12.More]),
 aX3 (fun (A19 : Option Addr) (n19 c19 : Nat) => .slice A19 n19 c19) (fun A19 n19 c19 => [kO2 A19 n19 c19 y17])] [] (cv_refl _) (qB_nil) (by kernel_rfl) rfl rfl ?_ ?_ ?_
   ·exact qs_nil
   ·refine steps_cons rfl ?_ ?_
    ·intro A15 n15 c15 A16 n16 c16
     refine X_op (op_callR (r15_Leads_ok hy17) call93 rfl (mem_cons (lent_ro (i := 0) rfl rfl) (mem_cons (lent_ro (i := 1) rfl rfl) mem_nil)) r15_Leads_free) rfl ?_
     rintro _ _ ⟨_, ⟨A18, n18, c18, rfl, rfl⟩, rfl⟩
     exact cvp3 A18 n18 c18 (cv_refl _)
    refine steps_cons rfl ?_ ?_
    ·refine X_op (op_call (r19_At_ok hy12) call17 rfl (cv_take [1, 2] [] [0, 1, 2, 3] 4 rfl)) rfl ?_
     rintro _ _ ⟨_, ⟨A13, n13, c13, A14, n14, c14, rfl, rfl⟩, rfl⟩
     exact cvp6 A13 n13 c13 A14 n14 c14 (cv_refl _)
    refine steps_cons rfl ?_ ?_
    ·exact X_rd (rd_elem1 (u := iV x11) 0 rfl els_own rfl hx11 one3 (fun _ _ _ h => by rw [show _ = _ from h]; rfl)) rfl (cvpV rfl (cv_refl _))
    refine steps_cons rfl ?_ ?_
    ·exact X_rd (rd_idx 0 rfl els_own rfl rfl Tryz.underlying35 size3 lx11 ux11) rfl (cvpV rfl (cv_refl _))
    refine steps_cons rfl ?_ ?_
    ·exact X_ev (ev_move rfl) rfl (cvpV rfl (cv_refl _))
    refine steps_cons rfl ?_ ?_
    ·exact X_ev (ev_move rfl) rfl (cvpV rfl (cv_refl _))
    refine steps_cons rfl ?_ ?_
    ·exact X_rd (rd_boxS (us := [.slice A1 n1 c1, .slice A2 n2 c2]) 3 rfl rfl agg24 rfl) rfl (cvpV rfl (cv_refl _))
    refine steps_cons rfl ?_ ?_
    ·exact X_ev (ev_move rfl) rfl (cvpV rfl (cv_refl _))
    refine steps_cons rfl ?_ ?_
    ·exact X_rd (rd_boxS (us := [.slice A1 n1 c1, .slice A2 n2 c2]) 3 rfl rfl agg24 rfl) rfl (cvpV rfl (cv_refl _))
    exact steps_nil
   ·intro A19 n19 c19
    refine N_sub (t := [(15, .agg #[.slice A1 n1 c1, .slice A2 n2 c2]), (16, .slice A8 n8 c8), (23, .slice A19 n19 c19), (1, .slice A8 n8 c8), (3, pV B4 0), (6, .slice none 0 0), (7, iV p9)]) (L' := [kO2 A19 n19 c19 y17, kO2 A8 n8 c8 p8, kS1 A1 n1 c1 a0.Young, kS1 A2 n2 c2 a0.Old, boxC B4 24 [.slice A1 n1 c1, .slice A2 n2 c2]]) ?_ subT (cv_refl _)
    refine N_sub ?_ sub_refl (cv_frz 0 rfl)
    obtain ⟨y20, hy20, h⟩ := bind_elim h
    refine N_opd 9 rfl (by kernel_rfl) (op_call (r19_lay_ok hy20) call65 rfl (cv_take [2, 3, 0] [1] [0, 2, 3, 4] 5 rfl)) rfl rfl rfl ?_
    rintro _ _ ⟨_, ⟨A21, n21, c21, rfl, rfl⟩, rfl⟩
    refine N_ev 10 rfl (by kernel_rfl) (ev_assign rfl) rfl rfl rfl ?_
    refine N_done (by kernel_rfl) ?_
    refine run ?_
    obtain ⟨q22, h⟩ := req_elim h
    refine gE (ev_add rfl rfl q22.1 q22.2) ?_
    refine run ?_
    exact ⟨m7, _, _, Nat.lt_succ_self _, ⟨y20, p9 + 1, A21, n21, c21, h, rfl, rfl⟩, sA, cv_sel [0, 2, 3, 4] 5 rfl rfl⟩
  ·replace h := cond_f g10 h
   refine run ?_
   exact ⟨_, _, ⟨p8, A8, n8, c8, h, rfl, rfl⟩, sA, cv_sel [0] 4 rfl rfl⟩
 ·rintro _ _ ⟨p6, A6, n6, c6, h, rfl, rfl⟩
  refine run ?_
  obtain rfl := Option.some.inj h
  exact endG1 rfl rfl (cv_sel [0] 1 rfl rfl) ⟨_, _, _, rfl, rfl⟩
def r19_rising_j5 (N : Nat) (p6 : (List Int)) : Option (List Int) :=
 some p6
def r19_rising_j11 (N : Nat) (kb7 : (List Int) → Int → Option (List Int)) (p9 : Int) (p12 : (List Int)) : Option (List Int) :=
 req (in64 (p9 + 1)) (kb7 p12 (p9 + 1))
def r19_rising_l13 (N : Nat) (kb7 : (List Int) → Int → Option (List Int)) (p9 : Int) : Nat → (List Int) → Int → Option (List Int)
 | 0, _, _ => none
 | m13 + 1, p14, p15 => (bif decide (0 < p15) then (req (in64 (p15 - 1)) ((getE p14 (p15 - 1)).bind fun x18 => (getE p14 p15).bind fun x19 => some (decide (x19 < x18)))) else (some false)).bind fun b16 => bif b16 then ((getE p14 p15).bind fun x21 => req (in64 (p15 - 1)) ((getE p14 (p15 - 1)).bind fun x23 => (getE p14 p15).bind fun x24 => req (in64 (p15 - 1)) ((getE (List.set p14 p15.toNat x23) (p15 - 1)).bind fun x26 => req (in64 (p15 - 1)) ((r19_rising_l13 N kb7 p9 m13) (List.set (List.set p14 p15.toNat x23) ((p15 - 1).toNat) x21) (p15 - 1))))) else (r19_rising_j11 N kb7 p9 p14)
theorem r19_rising_l13_s {N m13 : Nat} {kb7 : (List Int) → Int → Option (List Int)} {p9 : Int} {p14 : (List Int)} {p15 : Int} : r19_rising_l13 N kb7 p9 (m13 + 1) p14 p15 = (bif decide (0 < p15) then (req (in64 (p15 - 1)) ((getE p14 (p15 - 1)).bind fun x18 => (getE p14 p15).bind fun x19 => some (decide (x19 < x18)))) else (some false)).bind fun b16 => bif b16 then ((getE p14 p15).bind fun x21 => req (in64 (p15 - 1)) ((getE p14 (p15 - 1)).bind fun x23 => (getE p14 p15).bind fun x24 => req (in64 (p15 - 1)) ((getE (List.set p14 p15.toNat x23) (p15 - 1)).bind fun x26 => req (in64 (p15 - 1)) ((r19_rising_l13 N kb7 p9 m13) (List.set (List.set p14 p15.toNat x23) ((p15 - 1).toNat) x21) (p15 - 1))))) else (r19_rising_j11 N kb7 p9 p14) := rfl
def r19_rising_l7 (N : Nat) : Nat → (List Int) → Int → Option (List Int)
 | 0, _, _ => none
 | m7 + 1, p8, p9 => bif decide (p9 < (p8.length : Int)) then (r19_rising_l13 N (r19_rising_l7 N m7) p9 N p8 p9) else (r19_rising_j5 N p8)
theorem r19_rising_l7_s {N m7 : Nat} {p8 : (List Int)} {p9 : Int} : r19_rising_l7 N (m7 + 1) p8 p9 = bif decide (p9 < (p8.length : Int)) then (r19_rising_l13 N (r19_rising_l7 N m7) p9 N p8 p9) else (r19_rising_j5 N p8) := rfl
def r19_rising_O (N : Nat) (a0 : (List Int)) : Option (List Int) :=
 req (fitsL (([] : List Int).length + a0.length)) (r19_rising_l7 N N (([] : List Int) ++ a0) 1)
theorem r19_rising_ok {N : Nat} {a0 : (List Int)} {r : (List Int)} (h : r19_rising_O N a0 = some r) {A1 : Option Addr} {n1 c1 : Nat} : Okc Tryz.prog 63 [.slice A1 n1 c1] ([kS5 A1 n1 c1 a0]) (fun (u : Value) (post : List Chunk) => ∃ A0 n0 c0, u = .slice A0 n0 c0 ∧ post = [kO2 A0 n0 c0 r]) := by
 refine ok_E Tryz.func63 rfl rfl ?_
 simp only [envOf]
 refine run ?_
 refine gD (op_bslice (R := (rInt .i64)) (vss := []) (xs := []) rfl (bsl_35_0) rfl rfl (fun _ _ hr => All2.nil)) ?_
 rintro _ _ ⟨A2, n2, c2, rfl, rfl⟩
 refine run ?_
 obtain ⟨q3, h⟩ := req_elim h
 refine gD (op_append 0 1 rfl rfl els_sl rfl rfl Tryz.underlying35 zb3 rfl rfl q3) ?_
 rintro _ _ ⟨A4, n4, c4, rfl, rfl⟩
 refine run ?_
 refine G_joinF (fun s L => ∃ (p6 : (List Int)) (A6 : Option Addr) (n6 c6 : Nat), r19_rising_j5 N p6 = some r ∧ s = [(2, .slice none 0 0), (3, .slice A6 n6 c6)] ∧ L = [kO2 A6 n6 c6 p6]) ?_ ?_
 ·refine run ?_
  refine G_loopF (fun m s L => ∃ (p8 : (List Int)) (p9 : Int) (A8 : Option Addr) (n8 c8 : Nat), r19_rising_l7 N m p8 p9 = some r ∧ s = [(2, .slice none 0 0), (3, .slice A8 n8 c8), (4, iV p9)] ∧ L = [kO2 A8 n8 c8 p8]) N _ _ ⟨([] : List Int) ++ a0, 1, A4, n4, c4, h, rfl, rfl⟩ sA (cv_sel [0] 2 rfl rfl) ?_
  rintro (_ | m7) _ _ ⟨p8, p9, A8, n8, c8, h, rfl, rfl⟩
  ·exact none_some h
  rw [r19_rising_l7_s] at h
  refine G_seq ?_
  refine run ?_
  refine gR (rd_len 0 rfl els_own rfl Tryz.underlying35) ?_
  refine run ?_
  refine G_cond rfl (fun g10 => ?_) (fun g10 => ?_)
  ·replace h := cond_t g10 h
   refine run ?_
   refine G_joinF (fun s L => ∃ (p12 : (List Int)) (A12 : Option Addr) (n12 c12 : Nat), r19_rising_j11 N (r19_rising_l7 N m7) p9 p12 = some r ∧ s = [(2, .slice none 0 0), (3, .slice A12 n12 c12), (4, iV p9)] ∧ L = [kO2 A12 n12 c12 p12]) ?_ ?_
   ·refine run ?_
    refine G_loopF (fun m s L => ∃ (p14 : (List Int)) (p15 : Int) (A14 : Option Addr) (n14 c14 : Nat), r19_rising_l13 N (r19_rising_l7 N m7) p9 m p14 p15 = some r ∧ s = [(2, .slice none 0 0), (3, .slice A14 n14 c14), (4, iV p9), (5, iV p15)] ∧ L = [kO2 A14 n14 c14 p14]) N _ _ ⟨p8, p9, A8, n8, c8, h, rfl, rfl⟩ sA (cv_sel [0] 1 rfl rfl) ?_
    rintro (_ | m13) _ _ ⟨p14, p15, A14, n14, c14, h, rfl, rfl⟩
    ·exact none_some h
    rw [r19_rising_l13_s] at h
    refine G_seq ?_
    refine G_seq ?_
    refine G_drawn (by kernel_rfl) _ (cv_refl _) ?_
    refine T3_ev 0 rfl (by kernel_rfl) (ev_move rfl) rfl rfl ?_
    refine T3_ev 1 rfl (by kernel_rfl) (ev_gt rfl rfl) rfl rfl ?_
    refine T3_ev 2 rfl (by kernel_rfl) (ev_move rfl) rfl rfl ?_
    obtain ⟨b16, hb16, h⟩ := bind_elim h
    refine T3_joinB (fun l => (((((((((((l.setIfInBounds 3 true).setIfInBounds 4 true).setIfInBounds 5 true).setIfInBounds 6 true).setIfInBounds 7 true).setIfInBounds 8 true).setIfInBounds 9 true).setIfInBounds 10 true).setIfInBounds 11 true).setIfInBounds 12 true).setIfInBounds 13 true)) 0 30 b16 (fun rest => ?_) ?_
    ·clear h
     refine T3_case 19 rfl (fun g16 => ?_) (fun g16 => ?_)
     ·have h := cond_t g16 hb16
      refine T3_ev 3 rfl (by kernel_rfl) (ev_move rfl) (g_tt g16 rfl) rfl ?_
      refine T3_ev 4 rfl (by kernel_rfl) (ev_move rfl) (g_tt g16 rfl) rfl ?_
      obtain ⟨q17, h⟩ := req_elim h
      refine T3_ev 5 rfl (by kernel_rfl) (ev_sub rfl rfl q17.1 q17.2) (g_tt g16 rfl) rfl ?_
      obtain ⟨x18, hx18, h⟩ := bind_elim h
      obtain ⟨lx18, ux18, hx18⟩ := getE_elim hx18
      refine T3_rd 6 rfl (by kernel_rfl) (rd_idx 0 rfl els_own rfl rfl Tryz.underlying35 size3 lx18 ux18) (g_tt g16 rfl) rfl ?_
      refine T3_rd 7 rfl (by kernel_rfl) (rd_elem1 (u := iV x18) 0 rfl els_own rfl hx18 one3 (fun _ _ _ h => by rw [show _ = _ from h]; rfl)) (g_tt g16 rfl) rfl ?_
      refine T3_ev 8 rfl (by kernel_rfl) (ev_move rfl) (g_tt g16 rfl) rfl ?_
      refine T3_ev 9 rfl (by kernel_rfl) (ev_move rfl) (g_tt g16 rfl) rfl ?_
      obtain ⟨x19, hx19, h⟩ := bind_elim h
      obtain ⟨lx19, ux19, hx19⟩ := getE_elim hx19
      refine T3_rd 10 rfl (by kernel_rfl) (rd_idx 0 rfl els_own rfl rfl Tryz.underlying35 size3 lx19 ux19) (g_tt g16 rfl) rfl ?_
      refine T3_rd 11 rfl (by kernel_rfl) (rd_elem1 (u := iV x19) 0 rfl els_own rfl hx19 one3 (fun _ _ _ h => by rw [show _ = _ from h]; rfl)) (g_tt g16 rfl) rfl ?_
      refine T3_ev 12 rfl (by kernel_rfl) (ev_gt rfl rfl) (g_tt g16 rfl) rfl ?_
      refine T3_ev 13 rfl (by kernel_rfl) (ev_pick_t' g16 rfl rfl) rfl rfl ?_
      obtain rfl := Option.some.inj h
      exact T3_sub rest (sub_cons rfl (sub_skip (sub_skip (sub_skip (sub_skip (sub_skip (sub_skip (sub_skip (sub_skip (sub_skip (sub_skip (sub_skip sub_refl rfl) rfl) rfl) rfl) rfl) rfl) rfl) rfl) rfl) rfl) rfl)) (cv_refl _) (cv_refl _)
     ·have h := cond_f g16 hb16
      refine T3_no 3 rfl (by kernel_rfl) (g_tf g16 rfl) rfl ?_
      refine T3_no 4 rfl (by kernel_rfl) (g_tf g16 rfl) rfl ?_
      refine T3_no 5 rfl (by kernel_rfl) (g_tf g16 rfl) rfl ?_
      refine T3_no 6 rfl (by kernel_rfl) (g_tf g16 rfl) rfl ?_
      refine T3_no 7 rfl (by kernel_rfl) (g_tf g16 rfl) rfl ?_
      refine T3_no 8 rfl (by kernel_rfl) (g_tf g16 rfl) rfl ?_
      refine T3_no 9 rfl (by kernel_rfl) (g_tf g16 rfl) rfl ?_
      refine T3_no 10 rfl (by kernel_rfl) (g_tf g16 rfl) rfl ?_
      refine T3_no 11 rfl (by kernel_rfl) (g_tf g16 rfl) rfl ?_
      refine T3_no 12 rfl (by kernel_rfl) (g_tf g16 rfl) rfl ?_
      refine T3_ev 13 rfl (by kernel_rfl) (ev_pick_f' g16 rfl rfl) rfl rfl ?_
      obtain rfl := Option.some.inj h
      exact T3_sub rest (sub_cons rfl (sub_skip (sub_skip (sub_skip (sub_skip (sub_skip (sub_skip (sub_skip (sub_skip (sub_skip (sub_skip (sub_skip sub_refl rfl) rfl) rfl) rfl) rfl) rfl) rfl) rfl) rfl) rfl) rfl)) (cv_refl _) (cv_refl _)
    refine T3_done (by kernel_rfl) ?_
    refine nx_n ?_
    refine G_cond rfl (fun g20 => ?_) (fun g20 => ?_)
    ·replace h := cond_t g20 h
     refine run ?_
     refine G_seq ?_
     refine run ?_
     obtain ⟨x21, hx21, h⟩ := bind_elim h
     obtain ⟨lx21, ux21, hx21⟩ := getE_elim hx21
     refine gR (rd_idx 0 rfl els_own rfl rfl Tryz.underlying35 size3 lx21 ux21) ?_
     refine gR (rd_elem1 (u := iV x21) 0 rfl els_own rfl hx21 one3 (fun _ _ _ h => by rw [show _ = _ from h]; rfl)) ?_
     refine run ?_
     obtain ⟨q22, h⟩ := req_elim h
     refine gE (ev_sub rfl rfl q22.1 q22.2) ?_
     obtain ⟨x23, hx23, h⟩ := bind_elim h
     obtain ⟨lx23, ux23, hx23⟩ := getE_elim hx23
     refine gR (rd_idx 0 rfl els_own rfl rfl Tryz.underlying35 size3 lx23 ux23) ?_
     refine gR (rd_elem1 (u := iV x23) 0 rfl els_own rfl hx23 one3 (fun _ _ _ h => by rw [show _ = _ from h]; rfl)) ?_
     obtain ⟨x24, hx24, h⟩ := bind_elim h
     obtain ⟨lx24, ux24, hx24⟩ := getE_elim hx24
     refine gR (rd_idx 0 rfl els_own rfl rfl Tryz.underlying35 size3 lx24 ux24) ?_
     refine gO (op_storeE (us := [iV x23]) (z := x23) 0 rfl rfl rfl rfl size3 rfl (toNat_lt lx24 ux24) rfl (fun S w vs xk hk hr ho => by obtain rfl := Option.some.inj (hk.symm.trans hx24); rw [show _ = _ from hr]; rfl)) ?_
     rintro _ _ rfl
     refine run ?_
     obtain ⟨q25, h⟩ := req_elim h
     refine gE (ev_sub rfl rfl q25.1 q25.2) ?_
     refine run ?_
     obtain ⟨x26, hx26, h⟩ := bind_elim h
     obtain ⟨lx26, ux26, hx26⟩ := getE_elim hx26
     refine gR (rd_idx 0 rfl els_own rfl rfl Tryz.underlying35 size3 lx26 ux26) ?_
     refine gO (op_storeE (us := [iV x21]) (z := x21) 0 rfl rfl rfl rfl size3 rfl (toNat_lt lx26 ux26) rfl (fun S w vs xk hk hr ho => by obtain rfl := Option.some.inj (hk.symm.trans hx26); rw [show _ = _ from hr]; rfl)) ?_
     rintro _ _ rfl
     refine G_norm ([kO2 A14 n14 c14 (List.set (List.set p14 p15.toNat x23) ((p15 - 1).toNat) x21)]) rfl ?_
     refine run ?_
     obtain ⟨q27, h⟩ := req_elim h
     refine gE (ev_sub rfl rfl q27.1 q27.2) ?_
     refine run ?_
     exact ⟨m13, _, _, Nat.lt_succ_self _, ⟨List.set (List.set p14 p15.toNat x23) ((p15 - 1).toNat) x21, p15 - 1, A14, n14, c14, h, rfl, rfl⟩, sA, cv_sel [0] 1 rfl rfl⟩
    ·replace h := cond_f g20 h
     refine run ?_
     exact ⟨_, _, ⟨p14, A14, n14, c14, h, rfl, rfl⟩, sA, cv_sel [0] 1 rfl rfl⟩
   ·rintro _ _ ⟨p12, A12, n12, c12, h, rfl, rfl⟩
    refine run ?_
    obtain ⟨q28, h⟩ := req_elim h
    refine gE (ev_add rfl rfl q28.1 q28.2) ?_
    refine run ?_
    exact ⟨m7, _, _, Nat.lt_succ_self _, ⟨p12, p9 + 1, A12, n12, c12, h, rfl, rfl⟩, sA, cv_sel [0] 1 rfl rfl⟩
  ·replace h := cond_f g10 h
   refine run ?_
   exact ⟨_, _, ⟨p8, A8, n8, c8, h, rfl, rfl⟩, sA, cv_sel [0] 1 rfl rfl⟩
 ·rintro _ _ ⟨p6, A6, n6, c6, h, rfl, rfl⟩
  refine run ?_
  obtain rfl := Option.some.inj h
  exact endG1 rfl rfl (cv_sel [0] 1 rfl rfl) ⟨_, _, _, rfl, rfl⟩
theorem r19_rising_free {r : (List Int)} : ∀ v post, ((fun (u : Value) (post : List Chunk) => ∃ A0 n0 c0, u = .slice A0 n0 c0 ∧ post = [kO2 A0 n0 c0 r])) v post → ∀ c ∈ post, Free c := by
 rintro _ _ ⟨_, _, _, rfl, rfl⟩; exact mem_cons free_own (mem_nil)
def r17_Is_O (N : Nat) (a0 : DCell) : Option Bool :=
 (bif decide (a0.Kind = 8) then ((r15_Right_O N a0).bind fun y5 => some y5) else (some false)).bind fun b4 => some b4
theorem r17_Is_ok {N : Nat} {a0 : DCell} {r : Bool} (h : r17_Is_O N a0 = some r) {A1 : Option Addr} {n1 c1 : Nat} {A2 : Option Addr} {n2 c2 : Nat} : Okc Tryz.prog 123 [.agg #[iV a0.Kind, iV a0.Shape, iV a0.Flags, iV a0.Age, .slice A1 n1 c1, .slice A2 n2 c2]] ([kS0 A1 n1 c1 a0.Slots, kS0 A2 n2 c2 a0.More]) (fun (u : Value) (post : List Chunk) => u = .bool r ∧ post = []) := by
 refine ok_E Tryz.func123 rfl rfl ?_
 simp only [envOf]
 refine run ?_
 refine gD (op_box rfl rfl) ?_
 rintro _ _ ⟨B3, rfl, rfl⟩
 refine run ?_
 obtain ⟨b4, hb4, h⟩ := bind_elim h
 refine G_segb 3 9 b4 ?_ ?_
 ·clear h
  refine G_case 6 rfl (fun g4 => ?_) (fun g4 => ?_)
  ·have h := cond_t g4 hb4
   refine G_rd (rd_boxS (us := [iV a0.Kind, iV a0.Shape, iV a0.Flags, iV a0.Age, .slice A1 n1 c1, .slice A2 n2 c2]) 0 rfl rfl agg32 rfl) rfl (g_tt g4 rfl) rfl ?_
   obtain ⟨y5, hy5, h⟩ := bind_elim h
   refine G_opd (op_callR (r15_Right_ok hy5) call92 rfl (mem_cons (lent_ro (i := 1) rfl rfl) (mem_cons (lent_ro (i := 2) rfl rfl) mem_nil)) r15_Right_free) rfl (g_tt g4 rfl) rfl ?_
   rintro _ _ ⟨_, ⟨rfl, rfl⟩, rfl⟩
   refine run ?_
   obtain rfl := Option.some.inj h
   exact G_joined sA (cv_sel [0, 1, 2] 3 rfl rfl)
  ·have h := cond_f g4 hb4
   refine run ?_
   obtain rfl := Option.some.inj h
   exact G_joined sA (cv_sel [0, 1, 2] 3 rfl rfl)
 refine run ?_
 obtain rfl := Option.some.inj h
 exact endG1 rfl rfl (cv_sel [] 3 rfl rfl) ⟨rfl, rfl⟩
theorem r17_Is_free {r : Bool} : ∀ v post, ((fun (u : Value) (post : List Chunk) => u = .bool r ∧ post = [])) v post → ∀ c ∈ post, Free c := by
 rintro _ _ ⟨rfl, rfl⟩; exact mem_nil
def r17_In_j2 (N : Nat) : Option Bool :=
 some false
def r17_In_l3 (N : Nat) (a0 : Int) (a1 : (List Int)) : Nat → Int → Option Bool
 | 0, _ => none
 | m3 + 1, p4 => bif decide (p4 < (a1.length : Int)) then ((getE a1 p4).bind fun x6 => bif decide (x6 = a0) then (some true) else (req (in64 (p4 + 1)) ((r17_In_l3 N a0 a1 m3) (p4 + 1)))) else (r17_In_j2 N)
theorem r17_In_l3_s {N m3 : Nat} {a0 : Int} {a1 : (List Int)} {p4 : Int} : r17_In_l3 N a0 a1 (m3 + 1) p4 = bif decide (p4 < (a1.length : Int)) then ((getE a1 p4).bind fun x6 => bif decide (x6 = a0) then (some true) else (req (in64 (p4 + 1)) ((r17_In_l3 N a0 a1 m3) (p4 + 1)))) else (r17_In_j2 N) := rfl
def r17_In_O (N : Nat) (a0 : Int) (a1 : (List Int)) : Option Bool :=
 r17_In_l3 N a0 a1 N 0
theorem r17_In_ok {N : Nat} {a0 : Int} {a1 : (List Int)} {r : Bool} (h : r17_In_O N a0 a1 = some r) {A1 : Option Addr} {n1 c1 : Nat} : Okc Tryz.prog 42 [iV a0, .slice A1 n1 c1] ([kS5 A1 n1 c1 a1]) (fun (u : Value) (post : List Chunk) => u = .bool r ∧ post = []) := by
 refine ok_E Tryz.func42 rfl rfl ?_
 simp only [envOf]
 refine run ?_
 refine G_joinF (fun s L => r17_In_j2 N = some r ∧ s = [(4, .bool false)] ∧ L = []) ?_ ?_
 ·refine run ?_
  refine G_loopF (fun m s L => ∃ (p4 : Int), r17_In_l3 N a0 a1 m p4 = some r ∧ s = [(0, iV a0), (1, .slice A1 n1 c1), (4, .bool false), (5, iV p4)] ∧ L = [kS5 A1 n1 c1 a1]) N _ _ ⟨0, h, rfl, rfl⟩ sA (cv_sel [0] 1 rfl rfl) ?_
  rintro (_ | m3) _ _ ⟨p4, h, rfl, rfl⟩
  ·exact none_some h
  rw [r17_In_l3_s] at h
  refine G_seq ?_
  refine run ?_
  refine gR (rd_len 0 rfl els_sl rfl Tryz.underlying35) ?_
  refine run ?_
  refine G_cond rfl (fun g5 => ?_) (fun g5 => ?_)
  ·replace h := cond_t g5 h
   refine run ?_
   refine G_seq ?_
   refine run ?_
   obtain ⟨x6, hx6, h⟩ := bind_elim h
   obtain ⟨lx6, ux6, hx6⟩ := getE_elim hx6
   refine gR (rd_idx 0 rfl els_sl rfl rfl Tryz.underlying35 size3 lx6 ux6) ?_
   refine gR (rd_elem1 (u := iV x6) 0 rfl els_sl rfl hx6 one3 (fun _ _ _ h => by rw [show _ = _ from h]; rfl)) ?_
   refine run ?_
   refine G_cond rfl (fun g7 => ?_) (fun g7 => ?_)
   ·replace h := cond_t g7 h
    refine run ?_
    obtain rfl := Option.some.inj h
    exact endG1 rfl rfl (cv_sel [] 1 rfl rfl) ⟨rfl, rfl⟩
   ·replace h := cond_f g7 h
    refine run ?_
    obtain ⟨q8, h⟩ := req_elim h
    refine gE (ev_add rfl rfl q8.1 q8.2) ?_
    refine run ?_
    exact ⟨m3, _, _, Nat.lt_succ_self _, ⟨p4 + 1, h, rfl, rfl⟩, sA, cv_sel [0] 1 rfl rfl⟩
  ·replace h := cond_f g5 h
   refine run ?_
   exact ⟨_, _, ⟨h, rfl, rfl⟩, sA, cv_sel [] 1 rfl rfl⟩
 ·rintro _ _ ⟨h, rfl, rfl⟩
  refine run ?_
  obtain rfl := Option.some.inj h
  exact endG1 rfl rfl (cv_sel [] 0 rfl rfl) ⟨rfl, rfl⟩
theorem r17_In_free {r : Bool} : ∀ v post, ((fun (u : Value) (post : List Chunk) => u = .bool r ∧ post = [])) v post → ∀ c ∈ post, Free c := by
 rintro _ _ ⟨rfl, rfl⟩; exact mem_nil
def r17_Opens_j5 (N : Nat) (p6 : (List Int)) : Option (List Int) :=
 some p6
def r17_Opens_j14 (N : Nat) (kb7 : (List Int) → Int → Option (List Int)) (p9 : Int) (a1 : (List Int)) (a0 : DCell) (p15 : (List Int)) : Option (List Int) :=
 req (in64 (p9 + 2)) (kb7 p15 (p9 + 2))
def r17_Opens_l7 (N : Nat) (a1 : (List Int)) (a0 : DCell) : Nat → (List Int) → Int → Option (List Int)
 | 0, _, _ => none
 | m7 + 1, p8, p9 => (r17_Is_O N a0).bind fun y11 => (bif y11 then (some (decide (p9 < (a0.More.length : Int)))) else (some false)).bind fun b12 => bif b12 then (req (in64 (p9 + 1)) ((getE a0.More (p9 + 1)).bind fun x17 => (getE a0.More p9).bind fun x19 => (r17_In_O N x19.N a1).bind fun y20 => (bif y20 then ((bif decide (x17.Kind = 7) then (some true) else (some (decide (x17.Kind = 9)))).bind fun b22 => some b22) else (some false)).bind fun b21 => bif b21 then (req (fitsL (p8.length + ([x17.N] : List Int).length)) (r17_Opens_j14 N (r17_Opens_l7 N a1 a0 m7) p9 a1 a0 (p8 ++ ([x17.N] : List Int)))) else (r17_Opens_j14 N (r17_Opens_l7 N a1 a0 m7) p9 a1 a0 p8))) else (r17_Opens_j5 N p8)
theorem r17_Opens_l7_s {N m7 : Nat} {a1 : (List Int)} {a0 : DCell} {p8 : (List Int)} {p9 : Int} : r17_Opens_l7 N a1 a0 (m7 + 1) p8 p9 = (r17_Is_O N a0).bind fun y11 => (bif y11 then (some (decide (p9 < (a0.More.length : Int)))) else (some false)).bind fun b12 => bif b12 then (req (in64 (p9 + 1)) ((getE a0.More (p9 + 1)).bind fun x17 => (getE a0.More p9).bind fun x19 => (r17_In_O N x19.N a1).bind fun y20 => (bif y20 then ((bif decide (x17.Kind = 7) then (some true) else (some (decide (x17.Kind = 9)))).bind fun b22 => some b22) else (some false)).bind fun b21 => bif b21 then (req (fitsL (p8.length + ([x17.N] : List Int).length)) (r17_Opens_j14 N (r17_Opens_l7 N a1 a0 m7) p9 a1 a0 (p8 ++ ([x17.N] : List Int)))) else (r17_Opens_j14 N (r17_Opens_l7 N a1 a0 m7) p9 a1 a0 p8))) else (r17_Opens_j5 N p8) := rfl
def r17_Opens_O (N : Nat) (a0 : DCell) (a1 : (List Int)) : Option (List Int) :=
 r17_Opens_l7 N a1 a0 N [] 0
theorem r17_Opens_ok {N : Nat} {a0 : DCell} {a1 : (List Int)} {r : (List Int)} (h : r17_Opens_O N a0 a1 = some r) {A1 : Option Addr} {n1 c1 : Nat} {A2 : Option Addr} {n2 c2 : Nat} {A3 : Option Addr} {n3 c3 : Nat} : Okc Tryz.prog 69 [.agg #[iV a0.Kind, iV a0.Shape, iV a0.Flags, iV a0.Age, .slice A1 n1 c1, .slice A2 n2 c2], .slice A3 n3 c3] ([kS0 A1 n1 c1 a0.Slots, kS0 A2 n2 c2 a0.More, kS5 A3 n3 c3 a1]) (fun (u : Value) (post : List Chunk) => ∃ A0 n0 c0, u = .slice A0 n0 c0 ∧ post = [kO2 A0 n0 c0 r]) := by
 refine ok_E Tryz.func69 rfl rfl ?_
 simp only [envOf]
 refine run ?_
 refine gD (op_box rfl rfl) ?_
 rintro _ _ ⟨B4, rfl, rfl⟩
 refine run ?_
 refine G_joinF (fun s L => ∃ (p6 : (List Int)) (A6 : Option Addr) (n6 c6 : Nat), r17_Opens_j5 N p6 = some r ∧ s = [(4, .slice none 0 0), (5, .slice A6 n6 c6)] ∧ L = [kO2 A6 n6 c6 p6]) ?_ ?_
 ·refine run ?_
  refine G_loopF (fun m s L => ∃ (p8 : (List Int)) (p9 : Int) (A8 : Option Addr) (n8 c8 : Nat), r17_Opens_l7 N a1 a0 m p8 p9 = some r ∧ s = [(1, .slice A3 n3 c3), (2, pV B4 0), (4, .slice none 0 0), (5, .slice A8 n8 c8), (6, iV p9)] ∧ L = [kS5 A3 n3 c3 a1, kO2 A8 n8 c8 p8, kS0 A1 n1 c1 a0.Slots, kS0 A2 n2 c2 a0.More, boxC B4 32 [iV a0.Kind, iV a0.Shape, iV a0.Flags, iV a0.Age, .slice A1 n1 c1, .slice A2 n2 c2]]) N _ _ ⟨[], 0, none, 0, 0, h, rfl, rfl⟩ sA ((cv_nil (rInt .i64) 3 _).trans (cv_sel [4, 0, 2, 3, 1] 5 rfl rfl)) ?_
  rintro (_ | m7) _ _ ⟨p8, p9, A8, n8, c8, h, rfl, rfl⟩
  ·exact none_some h
  rw [r17_Opens_l7_s] at h
  refine G_seq ?_
  refine run ?_
  refine gR (rd_boxS (us := [iV a0.Kind, iV a0.Shape, iV a0.Flags, iV a0.Age, .slice A1 n1 c1, .slice A2 n2 c2]) 4 rfl rfl agg32 rfl) ?_
  obtain ⟨y11, hy11, h⟩ := bind_elim h
  refine gD (op_callR (r17_Is_ok hy11) call123 rfl (mem_cons (lent_ro (i := 2) rfl rfl) (mem_cons (lent_ro (i := 3) rfl rfl) mem_nil)) r17_Is_free) ?_
  rintro _ _ ⟨_, ⟨rfl, rfl⟩, rfl⟩
  refine run ?_
  obtain ⟨b12, hb12, h⟩ := bind_elim h
  refine G_segb 6 16 b12 ?_ ?_
  ·clear h
   refine G_case 10 rfl (fun g12 => ?_) (fun g12 => ?_)
   ·have h := cond_t g12 hb12
    refine run ?_
    refine G_rd (rd_len 3 rfl els_sl rfl Tryz.underlying25) rfl (g_tt g12 rfl) rfl ?_
    refine run ?_
    obtain rfl := Option.some.inj h
    exact G_joined sA (cv_sel [0, 1, 2, 3, 4] 5 rfl rfl)
   ·have h := cond_f g12 hb12
    refine run ?_
    obtain rfl := Option.some.inj h
    exact G_joined sA (cv_sel [0, 1, 2, 3, 4] 5 rfl rfl)
  refine run ?_
  refine G_cond rfl (fun g13 => ?_) (fun g13 => ?_)
  ·replace h := cond_t g13 h
   refine run ?_
   refine G_joinF (fun s L => ∃ (p15 : (List Int)) (A15 : Option Addr) (n15 c15 : Nat), r17_Opens_j14 N (r17_Opens_l7 N a1 a0 m7) p9 a1 a0 p15 = some r ∧ s = [(1, .slice A3 n3 c3), (2, pV B4 0), (4, .slice none 0 0), (5, .slice A15 n15 c15), (6, iV p9)] ∧ L = [kS5 A3 n3 c3 a1, kO2 A15 n15 c15 p15, kS0 A1 n1 c1 a0.Slots, kS0 A2 n2 c2 a0.More, boxC B4 32 [iV a0.Kind, iV a0.Shape, iV a0.Flags, iV a0.Age, .slice A1 n1 c1, .slice A2 n2 c2]]) ?_ ?_
   ·refine run ?_
    obtain ⟨q16, h⟩ := req_elim h
    refine gE (ev_add rfl rfl q16.1 q16.2) ?_
    obtain ⟨x17, hx17, h⟩ := bind_elim h
    obtain ⟨lx17, ux17, hx17⟩ := getE_elim hx17
    refine gR (rd_idx 3 rfl els_sl rfl rfl Tryz.underlying25 size38 lx17 ux17) ?_
    refine gR (rd_elemS (us := [iV x17.Kind, iV x17.N, .string x17.S]) 3 rfl els_sl rfl hx17 agg38 (fun _ _ _ h => by rw [show _ = _ from h]; rfl)) ?_
    refine gD (op_alloc zero38 rfl) ?_
    rintro _ _ ⟨B18, rfl, rfl⟩
    refine gO (op_store (us := [iV x17.Kind, iV x17.N, .string x17.S]) (cs' := [iV x17.Kind, iV x17.N, .string x17.S]) 0 rfl rfl rfl rfl size38 rfl rfl rfl) ?_
    rintro _ _ rfl
    refine run ?_
    obtain ⟨x19, hx19, h⟩ := bind_elim h
    obtain ⟨lx19, ux19, hx19⟩ := getE_elim hx19
    refine gR (rd_idx 4 rfl els_sl rfl rfl Tryz.underlying25 size38 lx19 ux19) ?_
    refine gR (rd_fa 4 rfl els_sl rfl (toNat_lt lx19 ux19) fa_38_1) ?_
    refine gR (rd_elem1 (u := iV x19.N) 4 rfl els_sl rfl hx19 one3 (fun _ _ _ h => by rw [show _ = _ from h]; rfl)) ?_
    refine run ?_
    obtain ⟨y20, hy20, h⟩ := bind_elim h
    refine gD (op_callR (r17_In_ok hy20) call42 rfl (mem_cons (lent_ro (i := 1) rfl rfl) mem_nil) r17_In_free) ?_
    rintro _ _ ⟨_, ⟨rfl, rfl⟩, rfl⟩
    refine run ?_
    obtain ⟨b21, hb21, h⟩ := bind_elim h
    refine G_segb 9 42 b21 ?_ ?_
    ·clear h
     refine G_case 33 rfl (fun g21 => ?_) (fun g21 => ?_)
     ·have h := cond_t g21 hb21
      refine run ?_
      obtain ⟨b22, hb22, h⟩ := bind_elim h
      refine G_segb 4 41 b22 ?_ ?_
      ·clear h
       refine G_case 37 rfl (fun g22 => ?_) (fun g22 => ?_)
       ·have h := cond_t g22 hb22
        refine run ?_
        obtain rfl := Option.some.inj h
        exact G_joined sA (cv_sel [0, 1, 2, 3, 4, 5] 6 rfl rfl)
       ·have h := cond_f g22 hb22
        refine run ?_
        obtain rfl := Option.some.inj h
        exact G_joined sA (cv_sel [0, 1, 2, 3, 4, 5] 6 rfl rfl)
      refine run ?_
      obtain rfl := Option.some.inj h
      exact G_joined sA (cv_sel [0, 1, 2, 3, 4, 5] 6 rfl rfl)
     ·have h := cond_f g21 hb21
      refine run ?_
      obtain rfl := Option.some.inj h
      exact G_joined sA (cv_sel [0, 1, 2, 3, 4, 5] 6 rfl rfl)
    refine run ?_
    refine G_cond rfl (fun g23 => ?_) (fun g23 => ?_)
    ·replace h := cond_t g23 h
     refine run ?_
     refine gD (op_bslice (R := (rInt .i64)) (vss := [[iV x17.N]]) (xs := [x17.N]) rfl (bsl_35_1 _) rfl rfl (fun _ _ hr => .cons rfl All2.nil)) ?_
     rintro _ _ ⟨A24, n24, c24, rfl, rfl⟩
     obtain ⟨q25, h⟩ := req_elim h
     refine gD (op_append 3 0 rfl rfl els_own rfl rfl Tryz.underlying35 zb3 rfl rfl q25) ?_
     rintro _ _ ⟨A26, n26, c26, rfl, rfl⟩
     refine run ?_
     exact ⟨_, _, ⟨p8 ++ ([x17.N] : List Int), A26, n26, c26, h, rfl, rfl⟩, sA, cv_sel [2, 3, 4, 5, 6] 7 rfl rfl⟩
    ·replace h := cond_f g23 h
     refine run ?_
     exact ⟨_, _, ⟨p8, A8, n8, c8, h, rfl, rfl⟩, sA, cv_sel [1, 2, 3, 4, 5] 6 rfl rfl⟩
   ·rintro _ _ ⟨p15, A15, n15, c15, h, rfl, rfl⟩
    refine run ?_
    obtain ⟨q27, h⟩ := req_elim h
    refine gE (ev_add rfl rfl q27.1 q27.2) ?_
    refine run ?_
    exact ⟨m7, _, _, Nat.lt_succ_self _, ⟨p15, p9 + 2, A15, n15, c15, h, rfl, rfl⟩, sA, cv_sel [0, 1, 2, 3, 4] 5 rfl rfl⟩
  ·replace h := cond_f g13 h
   refine run ?_
   exact ⟨_, _, ⟨p8, A8, n8, c8, h, rfl, rfl⟩, sA, cv_sel [1] 5 rfl rfl⟩
 ·rintro _ _ ⟨p6, A6, n6, c6, h, rfl, rfl⟩
  refine run ?_
  obtain rfl := Option.some.inj h
  exact endG1 rfl rfl (cv_sel [0] 1 rfl rfl) ⟨_, _, _, rfl, rfl⟩
theorem r17_Opens_free {r : (List Int)} : ∀ v post, ((fun (u : Value) (post : List Chunk) => ∃ A0 n0 c0, u = .slice A0 n0 c0 ∧ post = [kO2 A0 n0 c0 r])) v post → ∀ c ∈ post, Free c := by
 rintro _ _ ⟨_, _, _, rfl, rfl⟩; exact mem_cons free_own (mem_nil)
def r19_Order_j14 (N : Nat) (kb12 : (List Int) → Option (List Int)) (p13 : (List Int)) (a0 : DMemory) (p15 : (List Int)) : Option (List Int) :=
 bif decide ((p15.length : Int) = (p13.length : Int)) then (some p15) else ((r19_through_O N a0 p15 (p13.length : Int)).bind fun y33 => kb12 y33)
def r19_Order_l16 (N : Nat) (kb12 : (List Int) → Option (List Int)) (p13 : (List Int)) (a0 : DMemory) : Nat → (List Int) → Int → Option (List Int)
 | 0, _, _ => none
 | m16 + 1, p17, p18 => bif decide (p18 < (p13.length : Int)) then ((getE p17 p18).bind fun x20 => (r19_At_O N a0 x20).bind fun y21 => (r17_Opens_O N y21 p17).bind fun y26 => (r19_lay_O N a0 p17 y26).bind fun y29 => req (in64 (p18 + 1)) ((r19_Order_l16 N kb12 p13 a0 m16) y29 (p18 + 1))) else (r19_Order_j14 N kb12 p13 a0 p17)
theorem r19_Order_l16_s {N m16 : Nat} {kb12 : (List Int) → Option (List Int)} {p13 : (List Int)} {a0 : DMemory} {p17 : (List Int)} {p18 : Int} : r19_Order_l16 N kb12 p13 a0 (m16 + 1) p17 p18 = bif decide (p18 < (p13.length : Int)) then ((getE p17 p18).bind fun x20 => (r19_At_O N a0 x20).bind fun y21 => (r17_Opens_O N y21 p17).bind fun y26 => (r19_lay_O N a0 p17 y26).bind fun y29 => req (in64 (p18 + 1)) ((r19_Order_l16 N kb12 p13 a0 m16) y29 (p18 + 1))) else (r19_Order_j14 N kb12 p13 a0 p17) := rfl
def r19_Order_l12 (N : Nat) (a0 : DMemory) : Nat → (List Int) → Option (List Int)
 | 0, _ => none
 | m12 + 1, p13 => r19_Order_l16 N (r19_Order_l12 N a0 m12) p13 a0 N p13 0
theorem r19_Order_l12_s {N m12 : Nat} {a0 : DMemory} {p13 : (List Int)} : r19_Order_l12 N a0 (m12 + 1) p13 = r19_Order_l16 N (r19_Order_l12 N a0 m12) p13 a0 N p13 0 := rfl
def r19_Order_O (N : Nat) (a0 : DMemory) (a1 : (List DValue)) : Option (List Int) :=
 (r19_addresses_O N a1).bind fun y5 => (r19_lay_O N a0 ([] : List Int) y5).bind fun y8 => (r19_through_O N a0 y8 0).bind fun y10 => r19_Order_l12 N a0 N y10
theorem r19_Order_ok {N : Nat} {a0 : DMemory} {a1 : (List DValue)} {r : (List Int)} (h : r19_Order_O N a0 a1 = some r) {A1 : Option Addr} {n1 c1 : Nat} {A2 : Option Addr} {n2 c2 : Nat} {A3 : Option Addr} {n3 c3 : Nat} : Okc Tryz.prog 26 [.agg #[.slice A1 n1 c1, .slice A2 n2 c2], .slice A3 n3 c3] ([kS1 A1 n1 c1 a0.Young, kS1 A2 n2 c2 a0.Old, kS0 A3 n3 c3 a1]) (fun (u : Value) (post : List Chunk) => ∃ A0 n0 c0, u = .slice A0 n0 c0 ∧ post = [kO2 A0 n0 c0 r]) := by
 refine ok_E Tryz.func26 rfl rfl ?_
 simp only [envOf]
 refine run ?_
 refine gD (op_box rfl rfl) ?_
 rintro _ _ ⟨B4, rfl, rfl⟩
 refine run ?_
 refine G_seq ?_
 refine G_drawn (by kernel_rfl) _ (cv_refl _) ?_
 refine T3_rd 0 rfl (by kernel_rfl) (rd_boxS (us := [.slice A1 n1 c1, .slice A2 n2 c2]) 0 rfl rfl agg24 rfl) rfl rfl ?_
 refine T3_rd 1 rfl (by kernel_rfl) (rd_boxS (us := [.slice A1 n1 c1, .slice A2 n2 c2]) 0 rfl rfl agg24 rfl) rfl rfl ?_
 refine T3_ev 2 rfl (by kernel_rfl) (ev_move rfl) rfl rfl ?_
 obtain ⟨y5, hy5, h⟩ := bind_elim h
 refine T3_opd 3 rfl (by kernel_rfl) (op_callR (r19_addresses_ok hy5) call59 rfl (mem_cons (lent_ro (i := 3) rfl rfl) mem_nil) r19_addresses_free) rfl rfl rfl ?_
 rintro _ _ ⟨_, ⟨A6, n6, c6, rfl, rfl⟩, rfl⟩
 refine ⟨[boxC B4 24 [.slice A1 n1 c1, .slice A2 n2 c2], kS1 A1 n1 c1 a0.Young, kS1 A2 n2 c2 a0.Old, kS0 A3 n3 c3 a1], cv_sel [1, 2, 3, 4] 5 rfl rfl, cv_refl _, ?_⟩
 refine T3_cv (cv_nil (rInt .i64) 3 _) (cv_sel [2, 3, 4, 5] 6 rfl rfl) ?_
 refine T3_cv (cv_frz 1 rfl) (cv_sel [2, 3, 4, 5] 6 rfl rfl) ?_
 refine T3_norm ([ownC (rInt .i64) 3 (.slice none 0 0) ([] : List Int), kS5 A6 n6 c6 y5, boxC B4 24 [.slice A1 n1 c1, .slice A2 n2 c2], kS1 A1 n1 c1 a0.Young, kS1 A2 n2 c2 a0.Old, kS0 A3 n3 c3 a1]) rfl ?_
 obtain ⟨y8, hy8, h⟩ := bind_elim h
 refine T3_opd 4 rfl (by kernel_rfl) (op_call (r19_lay_ok hy8) call65 rfl (cv_take [3, 4, 1] [0] [1, 2, 3, 4, 5] 6 rfl)) rfl rfl rfl ?_
 rintro _ _ ⟨_, ⟨A9, n9, c9, rfl, rfl⟩, rfl⟩
 refine ⟨[boxC B4 24 [.slice A1 n1 c1, .slice A2 n2 c2], kS1 A1 n1 c1 a0.Young, kS1 A2 n2 c2 a0.Old, kS0 A3 n3 c3 a1], cv_sel [2, 3, 4, 5] 6 rfl rfl, cv_refl _, ?_⟩
 refine T3_norm ([kO2 A9 n9 c9 y8, kS5 A6 n6 c6 y5, boxC B4 24 [.slice A1 n1 c1, .slice A2 n2 c2], kS1 A1 n1 c1 a0.Young, kS1 A2 n2 c2 a0.Old, kS0 A3 n3 c3 a1]) rfl ?_
 obtain ⟨y10, hy10, h⟩ := bind_elim h
 refine T3_opd 5 rfl (by kernel_rfl) (op_call (r19_through_ok hy10) call64 rfl (cv_take [3, 4] [0] [1, 2, 3, 4, 5] 6 rfl)) rfl rfl rfl ?_
 rintro _ _ ⟨_, ⟨A11, n11, c11, rfl, rfl⟩, rfl⟩
 refine ⟨[boxC B4 24 [.slice A1 n1 c1, .slice A2 n2 c2], kS1 A1 n1 c1 a0.Young, kS1 A2 n2 c2 a0.Old, kS0 A3 n3 c3 a1], cv_sel [2, 3, 4, 5] 6 rfl rfl, cv_refl _, ?_⟩
 refine T3_norm ([kO2 A11 n11 c11 y10, kS5 A6 n6 c6 y5, boxC B4 24 [.slice A1 n1 c1, .slice A2 n2 c2], kS1 A1 n1 c1 a0.Young, kS1 A2 n2 c2 a0.Old, kS0 A3 n3 c3 a1]) rfl ?_
 refine T3_ev 6 rfl (by kernel_rfl) (ev_assign rfl) rfl rfl ?_
 refine T3_done (by kernel_rfl) ?_
 refine run ?_
 refine G_loopF (fun m s L => ∃ (p13 : (List Int)) (A13 : Option Addr) (n13 c13 : Nat), r19_Order_l12 N a0 m p13 = some r ∧ s = [(2, pV B4 0), (4, .slice none 0 0), (5, .slice A13 n13 c13)] ∧ L = [kO2 A13 n13 c13 p13, kS1 A1 n1 c1 a0.Young, kS1 A2 n2 c2 a0.Old, boxC B4 24 [.slice A1 n1 c1, .slice A2 n2 c2]]) N _ _ ⟨y10, A11, n11, c11, h, rfl, rfl⟩ sA (cv_sel [0, 3, 4, 2] 6 rfl rfl) ?_
 rintro (_ | m12) _ _ ⟨p13, A13, n13, c13, h, rfl, rfl⟩
 ·exact none_some h
 rw [r19_Order_l12_s] at h
 refine run ?_
 refine gR (rd_len 0 rfl els_own rfl Tryz.underlying35) ?_
 refine run ?_
 refine G_joinF (fun s L => ∃ (p15 : (List Int)) (A15 : Option Addr) (n15 c15 : Nat), r19_Order_j14 N (r19_Order_l12 N a0 m12) p13 a0 p15 = some r ∧ s = [(2, pV B4 0), (4, .slice none 0 0), (5, .slice A15 n15 c15), (6, iV (p13.length : Int))] ∧ L = [kO2 A15 n15 c15 p15, kS1 A1 n1 c1 a0.Young, kS1 A2 n2 c2 a0.Old, boxC B4 24 [.slice A1 n1 c1, .slice A2 n2 c2]]) ?_ ?_
 ·refine run ?_
  refine G_loopF (fun m s L => ∃ (p17 : (List Int)) (p18 : Int) (A17 : Option Addr) (n17 c17 : Nat), r19_Order_l16 N (r19_Order_l12 N a0 m12) p13 a0 m p17 p18 = some r ∧ s = [(2, pV B4 0), (4, .slice none 0 0), (5, .slice A17 n17 c17), (6, iV (p13.length : Int)), (7, iV p18)] ∧ L = [kO2 A17 n17 c17 p17, kS1 A1 n1 c1 a0.Young, kS1 A2 n2 c2 a0.Old, boxC B4 24 [.slice A1 n1 c1, .slice A2 n2 c2]]) N _ _ ⟨p13, 0, A13, n13, c13, h, rfl, rfl⟩ sA (cv_sel [0, 1, 2, 3] 4 rfl rfl) ?_
  rintro (_ | m16) _ _ ⟨p17, p18, A17, n17, c17, h, rfl, rfl⟩
  ·exact none_some h
  rw [r19_Order_l16_s] at h
  refine G_seq ?_
  refine run ?_
  refine G_cond rfl (fun g19 => ?_) (fun g19 => ?_)
  ·replace h := cond_t g19 h
   refine run ?_
   refine G_seq ?_
   refine G_block ?_
   obtain ⟨x20, hx20, h⟩ := bind_elim h
   obtain ⟨lx20, ux20, hx20⟩ := getE_elim hx20
   obtain ⟨y21, hy21, h⟩ := bind_elim h
   obtain ⟨y26, hy26, h⟩ := bind_elim h
   refine G_sub (t := [(2, pV B4 0), (4, .slice none 0 0), (5, .slice A17 n17 c17), (6, iV (p13.length : Int)), (7, iV p18)]) ?_ subT (cv_refl _)
   refine G_monoX (by kernel_rfl) 10 [] [0, 1, 9] [21, 22, 23, 24, 25, 26, 27, 28, 29, 30] [[], [], [], [], [], [3, 4], [5], [2, 6], [], [7, 8]] [aV (.agg #[.slice A1 n1 c1, .slice A2 n2 c2]),
 aV (.slice A17 n17 c17),
 aV (.agg #[.slice A1 n1 c1, .slice A2 n2 c2]),
 aV (.slice A17 n17 c17),
 aV (iV p18),
 aV (elemQ (.slice A17 n17 c17) p18.toNat 1 0),
 aV (iV x20),
 aX6 (fun (A24 : Option Addr) (n24 c24 : Nat) (A25 : Option Addr) (n25 c25 : Nat) => .agg #[iV y21.Kind, iV y21.Shape, iV y21.Flags, iV y21.Age, .slice A24 n24 c24, .slice A25 n25 c25]) (fun A24 n24 c24 A25 n25 c25 => [kS0 A24 n24 c24 y21.Slots, kS0 A25 n25 c25 y21.More]),
 aV (.slice A17 n17 c17),
 aX3 (fun (A28 : Option Addr) (n28 c28 : Nat) => .slice A28 n28 c28) (fun A28 n28 c28 => [kO2 A28 n28 c28 y26])] [] (cv_refl _) (qB_nil) (by kernel_rfl) rfl rfl ?_ ?_ ?_
   ·exact qs_nil
   ·refine steps_cons rfl ?_ ?_
    ·intro A24 n24 c24 A25 n25 c25
     refine X_op (op_callR (r17_Opens_ok hy26) call69 rfl (mem_cons (lent_ro (i := 0) rfl rfl) (mem_cons (lent_ro (i := 1) rfl rfl) (mem_cons (lent_own (i := 2) rfl) mem_nil))) r17_Opens_free) rfl ?_
     rintro _ _ ⟨_, ⟨A27, n27, c27, rfl, rfl⟩, rfl⟩
     exact cvp3 A27 n27 c27 (cv_refl _)
    refine steps_cons rfl ?_ ?_
    ·exact X_ev (ev_move rfl) rfl (cvpV rfl (cv_refl _))
    refine steps_cons rfl ?_ ?_
    ·refine X_op (op_call (r19_At_ok hy21) call17 rfl (cv_take [1, 2] [] [0, 1, 2, 3] 4 rfl)) rfl ?_
     rintro _ _ ⟨_, ⟨A22, n22, c22, A23, n23, c23, rfl, rfl⟩, rfl⟩
     exact cvp6 A22 n22 c22 A23 n23 c23 (cv_refl _)
    refine steps_cons rfl ?_ ?_
    ·exact X_rd (rd_elem1 (u := iV x20) 0 rfl els_own rfl hx20 one3 (fun _ _ _ h => by rw [show _ = _ from h]; rfl)) rfl (cvpV rfl (cv_refl _))
    refine steps_cons rfl ?_ ?_
    ·exact X_rd (rd_idx 0 rfl els_own rfl rfl Tryz.underlying35 size3 lx20 ux20) rfl (cvpV rfl (cv_refl _))
    refine steps_cons rfl ?_ ?_
    ·exact X_ev (ev_move rfl) rfl (cvpV rfl (cv_refl _))
    refine steps_cons rfl ?_ ?_
    ·exact X_ev (ev_move rfl) rfl (cvpV rfl (cv_refl _))
    refine steps_cons rfl ?_ ?_
    ·exact X_rd (rd_boxS (us := [.slice A1 n1 c1, .slice A2 n2 c2]) 3 rfl rfl agg24 rfl) rfl (cvpV rfl (cv_refl _))
    refine steps_cons rfl ?_ ?_
    ·exact X_ev (ev_move rfl) rfl (cvpV rfl (cv_refl _))
    refine steps_cons rfl ?_ ?_
    ·exact X_rd (rd_boxS (us := [.slice A1 n1 c1, .slice A2 n2 c2]) 3 rfl rfl agg24 rfl) rfl (cvpV rfl (cv_refl _))
    exact steps_nil
   ·intro A28 n28 c28
    refine N_sub (t := [(21, .agg #[.slice A1 n1 c1, .slice A2 n2 c2]), (22, .slice A17 n17 c17), (30, .slice A28 n28 c28), (2, pV B4 0), (4, .slice none 0 0), (5, .slice A17 n17 c17), (6, iV (p13.length : Int)), (7, iV p18)]) (L' := [kO2 A28 n28 c28 y26, kO2 A17 n17 c17 p17, kS1 A1 n1 c1 a0.Young, kS1 A2 n2 c2 a0.Old, boxC B4 24 [.slice A1 n1 c1, .slice A2 n2 c2]]) ?_ subT (cv_refl _)
    refine N_sub ?_ sub_refl (cv_frz 0 rfl)
    obtain ⟨y29, hy29, h⟩ := bind_elim h
    refine N_opd 10 rfl (by kernel_rfl) (op_call (r19_lay_ok hy29) call65 rfl (cv_take [2, 3, 0] [1] [0, 2, 3, 4] 5 rfl)) rfl rfl rfl ?_
    rintro _ _ ⟨_, ⟨A30, n30, c30, rfl, rfl⟩, rfl⟩
    refine N_ev 11 rfl (by kernel_rfl) (ev_assign rfl) rfl rfl rfl ?_
    refine N_done (by kernel_rfl) ?_
    refine run ?_
    obtain ⟨q31, h⟩ := req_elim h
    refine gE (ev_add rfl rfl q31.1 q31.2) ?_
    refine run ?_
    exact ⟨m16, _, _, Nat.lt_succ_self _, ⟨y29, p18 + 1, A30, n30, c30, h, rfl, rfl⟩, sA, cv_sel [0, 2, 3, 4] 5 rfl rfl⟩
  ·replace h := cond_f g19 h
   refine run ?_
   exact ⟨_, _, ⟨p17, A17, n17, c17, h, rfl, rfl⟩, sA, cv_sel [0, 1, 2, 3] 4 rfl rfl⟩
 ·rintro _ _ ⟨p15, A15, n15, c15, h, rfl, rfl⟩
  refine G_seq ?_
  refine run ?_
  refine gR (rd_len 0 rfl els_own rfl Tryz.underlying35) ?_
  refine run ?_
  refine G_cond rfl (fun g32 => ?_) (fun g32 => ?_)
  ·replace h := cond_t g32 h
   refine run ?_
   obtain rfl := Option.some.inj h
   exact endG1 rfl rfl (cv_sel [0] 4 rfl rfl) ⟨_, _, _, rfl, rfl⟩
  ·replace h := cond_f g32 h
   refine run ?_
   refine gR (rd_boxS (us := [.slice A1 n1 c1, .slice A2 n2 c2]) 3 rfl rfl agg24 rfl) ?_
   refine run ?_
   obtain ⟨y33, hy33, h⟩ := bind_elim h
   refine gD (op_call (r19_through_ok hy33) call64 rfl (cv_take [1, 2] [0] [1, 2, 3] 4 rfl)) ?_
   rintro _ _ ⟨_, ⟨A34, n34, c34, rfl, rfl⟩, rfl⟩
   refine G_norm ([kO2 A34 n34 c34 y33, kS1 A1 n1 c1 a0.Young, kS1 A2 n2 c2 a0.Old, boxC B4 24 [.slice A1 n1 c1, .slice A2 n2 c2]]) rfl ?_
   refine run ?_
   exact ⟨m12, _, _, Nat.lt_succ_self _, ⟨y33, A34, n34, c34, h, rfl, rfl⟩, sA, cv_sel [0, 1, 2, 3] 4 rfl rfl⟩
theorem r19_Order_free {r : (List Int)} : ∀ v post, ((fun (u : Value) (post : List Chunk) => ∃ A0 n0 c0, u = .slice A0 n0 c0 ∧ post = [kO2 A0 n0 c0 r])) v post → ∀ c ∈ post, Free c := by
 rintro _ _ ⟨_, _, _, rfl, rfl⟩; exact mem_cons free_own (mem_nil)
def r19_Live_O (N : Nat) (a0 : DMemory) (a1 : (List DValue)) : Option (List Int) :=
 (r19_Order_O N a0 a1).bind fun y5 => (r19_rising_O N y5).bind fun y7 => some y7
theorem r19_Live_ok {N : Nat} {a0 : DMemory} {a1 : (List DValue)} {r : (List Int)} (h : r19_Live_O N a0 a1 = some r) {A1 : Option Addr} {n1 c1 : Nat} {A2 : Option Addr} {n2 c2 : Nat} {A3 : Option Addr} {n3 c3 : Nat} : Okc Tryz.prog 24 [.agg #[.slice A1 n1 c1, .slice A2 n2 c2], .slice A3 n3 c3] ([kS1 A1 n1 c1 a0.Young, kS1 A2 n2 c2 a0.Old, kS0 A3 n3 c3 a1]) (fun (u : Value) (post : List Chunk) => ∃ A0 n0 c0, u = .slice A0 n0 c0 ∧ post = [kO2 A0 n0 c0 r]) := by
 refine ok_E Tryz.func24 rfl rfl ?_
 simp only [envOf]
 refine run ?_
 refine gD (op_box rfl rfl) ?_
 rintro _ _ ⟨B4, rfl, rfl⟩
 refine run ?_
 refine gR (rd_boxS (us := [.slice A1 n1 c1, .slice A2 n2 c2]) 0 rfl rfl agg24 rfl) ?_
 refine run ?_
 obtain ⟨y5, hy5, h⟩ := bind_elim h
 refine gD (op_callR (r19_Order_ok hy5) call26 rfl (mem_cons (lent_ro (i := 1) rfl rfl) (mem_cons (lent_ro (i := 2) rfl rfl) (mem_cons (lent_ro (i := 3) rfl rfl) mem_nil))) r19_Order_free) ?_
 rintro _ _ ⟨_, ⟨A6, n6, c6, rfl, rfl⟩, rfl⟩
 obtain ⟨y7, hy7, h⟩ := bind_elim h
 refine gD (op_callR (r19_rising_ok hy7) call63 rfl (mem_cons (lent_own (i := 0) rfl) mem_nil) r19_rising_free) ?_
 rintro _ _ ⟨_, ⟨A8, n8, c8, rfl, rfl⟩, rfl⟩
 refine run ?_
 obtain rfl := Option.some.inj h
 exact endG1 rfl rfl (cv_sel [0] 6 rfl rfl) ⟨_, _, _, rfl, rfl⟩
theorem r19_Live_free {r : (List Int)} : ∀ v post, ((fun (u : Value) (post : List Chunk) => ∃ A0 n0 c0, u = .slice A0 n0 c0 ∧ post = [kO2 A0 n0 c0 r])) v post → ∀ c ∈ post, Free c := by
 rintro _ _ ⟨_, _, _, rfl, rfl⟩; exact mem_cons free_own (mem_nil)
def r19_Cells_j4 (N : Nat) : Option Bool :=
 some true
def r19_Cells_l5 (N : Nat) (a0 : (List DCell)) (a1 : (List DCell)) : Nat → Int → Option Bool
 | 0, _ => none
 | m5 + 1, p6 => bif decide (p6 < (a0.length : Int)) then ((getE a0 p6).bind fun x8 => (getE a1 p6).bind fun x12 => (r15_Same_O N x8 x12).bind fun y16 => bif !y16 then (some false) else (req (in64 (p6 + 1)) ((r19_Cells_l5 N a0 a1 m5) (p6 + 1)))) else (r19_Cells_j4 N)
theorem r19_Cells_l5_s {N m5 : Nat} {a0 : (List DCell)} {a1 : (List DCell)} {p6 : Int} : r19_Cells_l5 N a0 a1 (m5 + 1) p6 = bif decide (p6 < (a0.length : Int)) then ((getE a0 p6).bind fun x8 => (getE a1 p6).bind fun x12 => (r15_Same_O N x8 x12).bind fun y16 => bif !y16 then (some false) else (req (in64 (p6 + 1)) ((r19_Cells_l5 N a0 a1 m5) (p6 + 1)))) else (r19_Cells_j4 N) := rfl
def r19_Cells_O (N : Nat) (a0 : (List DCell)) (a1 : (List DCell)) : Option Bool :=
 bif !decide ((a0.length : Int) = (a1.length : Int)) then (some false) else (r19_Cells_l5 N a0 a1 N 0)
theorem r19_Cells_ok {N : Nat} {a0 : (List DCell)} {a1 : (List DCell)} {r : Bool} (h : r19_Cells_O N a0 a1 = some r) {A1 : Option Addr} {n1 c1 : Nat} {A2 : Option Addr} {n2 c2 : Nat} : Okc Tryz.prog 27 [.slice A1 n1 c1, .slice A2 n2 c2] ([kS1 A1 n1 c1 a0, kS1 A2 n2 c2 a1]) (fun (u : Value) (post : List Chunk) => u = .bool r ∧ post = []) := by
 refine ok_E Tryz.func27 rfl rfl ?_
 simp only [envOf]
 refine run ?_
 refine G_seq ?_
 refine run ?_
 refine gR (rd_len 0 rfl els_sl rfl Tryz.underlying22) ?_
 refine run ?_
 refine gR (rd_len 1 rfl els_sl rfl Tryz.underlying22) ?_
 refine run ?_
 refine G_cond rfl (fun g3 => ?_) (fun g3 => ?_)
 ·replace h := cond_t g3 h
  refine run ?_
  obtain rfl := Option.some.inj h
  exact endG1 rfl rfl (cv_sel [] 2 rfl rfl) ⟨rfl, rfl⟩
 ·replace h := cond_f g3 h
  refine run ?_
  refine G_joinF (fun s L => r19_Cells_j4 N = some r ∧ s = [(4, .bool false)] ∧ L = []) ?_ ?_
  ·refine run ?_
   refine G_loopF (fun m s L => ∃ (p6 : Int), r19_Cells_l5 N a0 a1 m p6 = some r ∧ s = [(0, .slice A1 n1 c1), (1, .slice A2 n2 c2), (4, .bool false), (5, iV p6)] ∧ L = [kS1 A1 n1 c1 a0, kS1 A2 n2 c2 a1]) N _ _ ⟨0, h, rfl, rfl⟩ sA (cv_sel [0, 1] 2 rfl rfl) ?_
   rintro (_ | m5) _ _ ⟨p6, h, rfl, rfl⟩
   ·exact none_some h
   rw [r19_Cells_l5_s] at h
   refine G_seq ?_
   refine run ?_
   refine gR (rd_len 0 rfl els_sl rfl Tryz.underlying22) ?_
   refine run ?_
   refine G_cond rfl (fun g7 => ?_) (fun g7 => ?_)
   ·replace h := cond_t g7 h
    refine run ?_
    refine G_seq ?_
    refine G_block ?_
    refine G_seq ?_
    refine G_drawn (by kernel_rfl) _ (cv_refl _) ?_
    refine T3_ev 0 rfl (by kernel_rfl) (ev_move rfl) rfl rfl ?_
    refine T3_ev 1 rfl (by kernel_rfl) (ev_move rfl) rfl rfl ?_
    obtain ⟨x8, hx8, h⟩ := bind_elim h
    obtain ⟨lx8, ux8, hx8⟩ := getE_elim hx8
    refine T3_rd 2 rfl (by kernel_rfl) (rd_idx 0 rfl els_sl rfl rfl Tryz.underlying22 size32 lx8 ux8) rfl rfl ?_
    refine T3_row 0 rfl hx8 (open_DCell x8) ?_
    rintro _ _ ⟨A9, n9, c9, A10, n10, c10, rfl, rfl⟩
    refine T3_rd 3 rfl (by kernel_rfl) (rd_rowS (us := [iV x8.Kind, iV x8.Shape, iV x8.Flags, iV x8.Age, .slice A9 n9 c9, .slice A10 n10 c10]) 0 rfl rfl agg32 rfl) rfl rfl ?_
    refine T3_ev 4 rfl (by kernel_rfl) (ev_move rfl) rfl rfl ?_
    refine T3_ev 5 rfl (by kernel_rfl) (ev_move rfl) rfl rfl ?_
    obtain ⟨x12, hx12, h⟩ := bind_elim h
    obtain ⟨lx12, ux12, hx12⟩ := getE_elim hx12
    refine T3_rd 6 rfl (by kernel_rfl) (rd_idx 4 rfl els_sl rfl rfl Tryz.underlying22 size32 lx12 ux12) rfl rfl ?_
    refine T3_row 4 rfl hx12 (open_DCell x12) ?_
    rintro _ _ ⟨A13, n13, c13, A14, n14, c14, rfl, rfl⟩
    refine T3_rd 7 rfl (by kernel_rfl) (rd_rowS (us := [iV x12.Kind, iV x12.Shape, iV x12.Flags, iV x12.Age, .slice A13 n13 c13, .slice A14 n14 c14]) 0 rfl rfl agg32 rfl) rfl rfl ?_
    obtain ⟨y16, hy16, h⟩ := bind_elim h
    refine T3_opd 8 rfl (by kernel_rfl) (op_callR (r15_Same_ok hy16) call15 rfl (mem_cons (lent_ro (i := 4) rfl rfl) (mem_cons (lent_ro (i := 5) rfl rfl) (mem_cons (lent_ro (i := 1) rfl rfl) (mem_cons (lent_ro (i := 2) rfl rfl) mem_nil)))) r15_Same_free) rfl rfl rfl ?_
    rintro _ _ ⟨_, ⟨rfl, rfl⟩, rfl⟩
    refine ⟨_, cv_refl _, cv_refl _, ?_⟩
    refine T3_ev 9 rfl (by kernel_rfl) (ev_not rfl) rfl rfl ?_
    refine T3_done (by kernel_rfl) ?_
    refine nx_n ?_
    refine G_cond rfl (fun g17 => ?_) (fun g17 => ?_)
    ·replace h := cond_t g17 h
     refine run ?_
     obtain rfl := Option.some.inj h
     exact endG1 rfl rfl (cv_sel [] 8 rfl rfl) ⟨rfl, rfl⟩
    ·replace h := cond_f g17 h
     refine run ?_
     obtain ⟨q18, h⟩ := req_elim h
     refine gE (ev_add rfl rfl q18.1 q18.2) ?_
     refine run ?_
     exact ⟨m5, _, _, Nat.lt_succ_self _, ⟨p6 + 1, h, rfl, rfl⟩, sA, cv_sel [6, 7] 8 rfl rfl⟩
   ·replace h := cond_f g7 h
    refine run ?_
    exact ⟨_, _, ⟨h, rfl, rfl⟩, sA, cv_sel [] 2 rfl rfl⟩
  ·rintro _ _ ⟨h, rfl, rfl⟩
   refine run ?_
   obtain rfl := Option.some.inj h
   exact endG1 rfl rfl (cv_sel [] 0 rfl rfl) ⟨rfl, rfl⟩
theorem r19_Cells_free {r : Bool} : ∀ v post, ((fun (u : Value) (post : List Chunk) => u = .bool r ∧ post = [])) v post → ∀ c ∈ post, Free c := by
 rintro _ _ ⟨rfl, rfl⟩; exact mem_nil
end Go.Proofs.YtmbaennilhdieaaGreat
/- Pure functions and contracts of Go functions (printed by all3.py). -/
namespace Go.Proofs.YtmbaennilhdieaaGreat
open Go.RowKit Asn
set_option maxRecDepth 20000
def weak_Clean_c1_O (N : Nat) (a0 : DValue) (a1 : (List Int)) : Option Bool :=
 (slices_Contains_O N a1 a0.N).bind fun y4 => some y4
theorem weak_Clean_c1_ok {N : Nat} {a0 : DValue} {a1 : (List Int)} {r : Bool} (h : weak_Clean_c1_O N a0 a1 = some r) {B1 : Nat} {A2 : Option Addr} {n2 c2 : Nat} : Okc Tryz.prog 134 [.agg #[iV a0.Kind, iV a0.N, .string a0.S], pV B1 0] ([rboxC B1 35 [.slice A2 n2 c2], kS5 A2 n2 c2 a1]) (fun (u : Value) (post : List Chunk) => u = .bool r ∧ post = []) := by
 refine ok_E Tryz.func134 rfl rfl ?_
 simp only [envOf]
 refine run ?_
 refine gD (op_box rfl rfl) ?_
 rintro _ _ ⟨B3, rfl, rfl⟩
 refine run ?_
 refine gR (rd_rbox1 1 rfl rfl one35 rfl) ?_
 refine run ?_
 obtain ⟨y4, hy4, h⟩ := bind_elim h
 refine gD (op_callR (slices_Contains_ok hy4) call101 rfl (mem_cons (lent_ro (i := 2) rfl rfl) mem_nil) slices_Contains_free) ?_
 rintro _ _ ⟨_, ⟨rfl, rfl⟩, rfl⟩
 refine run ?_
 obtain rfl := Option.some.inj h
 exact endG1 rfl rfl (cv_sel [] 3 rfl rfl) ⟨rfl, rfl⟩
def weak_kept_b12 (N : Nat) (ff : DValue → Option Bool) (y6 : (DCell)) (x12 : DValue × DValue) : ((List DValue)) → Option (Option Exit × (List DValue))
 | p13 => (ff x12.1).bind fun y18 => bif y18 then (req (fitsL (p13.length + ([x12.1, x12.2] : List DValue).length)) (some (none, p13 ++ ([x12.1, x12.2] : List DValue)))) else (some (none, p13))
def weak_kept_O (N : Nat) (a0 : DCell) (ff : DValue → Option Bool) : Option DCell :=
 (cell_Copy_O N a0).bind fun y6 => (weak_entries_O N a0).bind fun y10 => (weak_entries_c1_O N a0 (liftR (fun x st => weak_kept_b12 N ff y6 x st)) (none, [])).bind fun y14 => caseX y14.1 (some (⟨y6.Kind, y6.Shape, y6.Flags, y6.Age, y6.Slots, y14.2⟩ : DCell)) none (fun _ => none)
theorem weak_kept_ok {N : Nat} {a0 : DCell} {ff : DValue → Option Bool} {r : DCell} (h : weak_kept_O N a0 ff = some r) {A1 : Option Addr} {n1 c1 : Nat} {A2 : Option Addr} {n2 c2 : Nat} {vf : Value} {G : List Chunk} (hf : FnOk Tryz.prog vf G (fun x => [.agg #[iV x.Kind, iV x.N, .string x.S]]) (fun r => .bool r) ff) : Okc Tryz.prog 133 [.agg #[iV a0.Kind, iV a0.Shape, iV a0.Flags, iV a0.Age, .slice A1 n1 c1, .slice A2 n2 c2], vf] (kS0 A1 n1 c1 a0.Slots :: kS0 A2 n2 c2 a0.More :: G) (fun (u : Value) (post : List Chunk) => ∃ A0 n0 c0 A1 n1 c1, u = .agg #[iV r.Kind, iV r.Shape, iV r.Flags, iV r.Age, .slice A0 n0 c0, .slice A1 n1 c1] ∧ post = [kO3 A0 n0 c0 r.Slots, kO3 A1 n1 c1 r.More]) := by
 refine ok_E Tryz.func133 rfl rfl ?_
 simp only [envOf]
 refine run ?_
 refine gD (op_box rfl rfl) ?_
 rintro _ _ ⟨B3, rfl, rfl⟩
 refine gD (op_box rfl (fn_cells hf)) ?_
 rintro _ _ ⟨B4, rfl, rfl⟩
 refine gD (op_alloc zero32 rfl) ?_
 rintro _ _ ⟨B5, rfl, rfl⟩
 refine run ?_
 refine gR (rd_boxS (us := [iV a0.Kind, iV a0.Shape, iV a0.Flags, iV a0.Age, .slice A1 n1 c1, .slice A2 n2 c2]) 2 rfl rfl agg32 rfl) ?_
 obtain ⟨y6, hy6, h⟩ := bind_elim h
 refine gD (op_callR (cell_Copy_ok hy6) call50 rfl (mem_cons (lent_ro (i := 3) rfl rfl) (mem_cons (lent_ro (i := 4) rfl rfl) mem_nil)) cell_Copy_free) ?_
 rintro _ _ ⟨_, ⟨A7, n7, c7, A8, n8, c8, rfl, rfl⟩, rfl⟩
 refine gD (op_alloc zero32 rfl) ?_
 rintro _ _ ⟨B9, rfl, rfl⟩
 refine gO (op_store (us := [iV y6.Kind, iV y6.Shape, iV y6.Flags, iV y6.Age, .slice A7 n7 c7, .slice A8 n8 c8]) (cs' := [iV y6.Kind, iV y6.Shape, iV y6.Flags, iV y6.Age, .slice A7 n7 c7, .slice A8 n8 c8]) 0 rfl rfl rfl rfl size32 rfl rfl rfl) ?_
 rintro _ _ rfl
 refine run ?_
 refine gO (op_store (us := [.slice none 0 0]) (cs' := [iV y6.Kind, iV y6.Shape, iV y6.Flags, iV y6.Age, .slice A7 n7 c7, .slice none 0 0]) 0 rfl rfl rfl rfl size25 rfl rfl rfl) ?_
 rintro _ _ rfl
 refine run ?_
 refine G_seq ?_
 refine run ?_
 refine gR (rd_boxS (us := [iV a0.Kind, iV a0.Shape, iV a0.Flags, iV a0.Age, .slice A1 n1 c1, .slice A2 n2 c2]) 5 rfl rfl agg32 rfl) ?_
 obtain ⟨y10, hy10, h⟩ := bind_elim h
 refine gD (op_callR (weak_entries_ok hy10) call179 rfl (mem_cons (lent_ro (i := 6) rfl rfl) (mem_cons (lent_ro (i := 7) rfl rfl) mem_nil)) weak_entries_free) ?_
 rintro _ _ ⟨_, ⟨B11, rfl, rfl⟩, rfl⟩
 refine G_nil ?_
 refine nx_n ?_
 refine G_sub ?_ sub_refl (cv_frzbox 0 rfl)
 refine Wq_norm (rboxC B11 32 [iV a0.Kind, iV a0.Shape, iV a0.Flags, iV a0.Age, .slice A1 n1 c1, .slice A2 n2 c2] :: boxC B9 32 [iV y6.Kind, iV y6.Shape, iV y6.Flags, iV y6.Age, .slice A7 n7 c7, .slice none 0 0] :: kO3 A7 n7 c7 y6.Slots :: kO3 A8 n8 c8 y6.More :: boxC B5 32 [iV 0, iV 0, iV 0, iV 0, .slice none 0 0, .slice none 0 0] :: boxC B4 123 [vf] :: boxC B3 32 [iV a0.Kind, iV a0.Shape, iV a0.Flags, iV a0.Age, .slice A1 n1 c1, .slice A2 n2 c2] :: kS0 A1 n1 c1 a0.Slots :: kS0 A2 n2 c2 a0.More :: G) rfl ?_
 obtain ⟨y14, hy14, h⟩ := bind_elim h
 refine G_rangeX (en := (fun x => [.agg #[iV x.1.Kind, iV x.1.N, .string x.1.S], .agg #[iV x.2.Kind, iV x.2.N, .string x.2.S]])) (fun x st => weak_kept_b12 N ff y6 x st) (fun (st : (List DValue)) (mz : ((Option Addr × Nat × Nat))) => [boxC B4 123 [vf], boxC B5 32 [iV 0, iV 0, iV 0, iV 0, .slice none 0 0, .slice none 0 0], kO3 A7 n7 c7 y6.Slots, ownC rDValue 38 (.slice mz.1 mz.2.1 mz.2.2) st, boxC B9 32 [iV y6.Kind, iV y6.Shape, iV y6.Flags, iV y6.Age, .slice A7 n7 c7, .slice mz.1 mz.2.1 mz.2.2]] ++ G) [rboxC B11 32 [iV a0.Kind, iV a0.Shape, iV a0.Flags, iV a0.Age, .slice A1 n1 c1, .slice A2 n2 c2], kS0 A1 n1 c1 a0.Slots, kS0 A2 n2 c2 a0.More] ([]) ((none, 0, 0)) rfl rfl call198 rfl (fun _ => rfl) (fun l G hY => (weak_entries_c1_ok hy14 hY).mono fun _ _ hh => hh.2) ((cv_nil rDValue 38 _).trans (cv_take [1, 8, 9] [] [6, 5, 3, 0, 2] 10 rfl)) h ?_ ?_ ?_ ?_
 ·rintro l x12 p13 je sr12 ⟨A13, n13, c13⟩ h
  replace h : weak_kept_b12 N ff y6 x12 p13 = some (je, sr12) := h
  simp only [envR, List.zip_cons_cons, List.zip_nil_left, List.zip_nil_right, List.reverse_cons, List.reverse_nil, List.nil_append, List.cons_append]
  refine run ?_
  refine gD (op_alloc zero38 rfl) ?_
  rintro _ _ ⟨B16, rfl, rfl⟩
  refine gO (op_store (us := [iV x12.1.Kind, iV x12.1.N, .string x12.1.S]) (cs' := [iV x12.1.Kind, iV x12.1.N, .string x12.1.S]) 0 rfl rfl rfl rfl size38 rfl rfl rfl) ?_
  rintro _ _ rfl
  refine run ?_
  refine gD (op_alloc zero38 rfl) ?_
  rintro _ _ ⟨B17, rfl, rfl⟩
  refine gO (op_store (us := [iV x12.2.Kind, iV x12.2.N, .string x12.2.S]) (cs' := [iV x12.2.Kind, iV x12.2.N, .string x12.2.S]) 0 rfl rfl rfl rfl size38 rfl rfl rfl) ?_
  rintro _ _ rfl
  refine run ?_
  refine gR (rd_boxS (us := [iV x12.1.Kind, iV x12.1.N, .string x12.1.S]) 1 rfl rfl agg38 rfl) ?_
  obtain ⟨y18, hy18, h⟩ := bind_elim h
  refine gD (op_callf (a := x12.1) [boxC B17 38 [iV x12.2.Kind, iV x12.2.N, .string x12.2.S], boxC B16 38 [iV x12.1.Kind, iV x12.1.N, .string x12.1.S], boxC B4 123 [vf], boxC B5 32 [iV 0, iV 0, iV 0, iV 0, .slice none 0 0, .slice none 0 0], kO3 A7 n7 c7 y6.Slots, kO3 A13 n13 c13 p13, boxC B9 32 [iV y6.Kind, iV y6.Shape, iV y6.Flags, iV y6.Age, .slice A7 n7 c7, .slice A13 n13 c13]] hf hy18 rfl rfl) ?_
  rintro _ _ ⟨rfl, rfl⟩
  refine G_norm (boxC B17 38 [iV x12.2.Kind, iV x12.2.N, .string x12.2.S] :: boxC B16 38 [iV x12.1.Kind, iV x12.1.N, .string x12.1.S] :: boxC B4 123 [vf] :: boxC B5 32 [iV 0, iV 0, iV 0, iV 0, .slice none 0 0, .slice none 0 0] :: kO3 A7 n7 c7 y6.Slots :: kO3 A13 n13 c13 p13 :: boxC B9 32 [iV y6.Kind, iV y6.Shape, iV y6.Flags, iV y6.Age, .slice A7 n7 c7, .slice A13 n13 c13] :: G) rfl ?_
  refine run ?_
  refine G_cond rfl (fun g19 => ?_) (fun g19 => ?_)
  ·replace h := cond_t g19 h
   refine run ?_
   refine gR (rd_boxS (us := [iV x12.1.Kind, iV x12.1.N, .string x12.1.S]) 1 rfl rfl agg38 rfl) ?_
   refine gR (rd_boxS (us := [iV x12.2.Kind, iV x12.2.N, .string x12.2.S]) 0 rfl rfl agg38 rfl) ?_
   refine gD (op_bslice (R := rDValue) (vss := [[iV x12.1.Kind, iV x12.1.N, .string x12.1.S], [iV x12.2.Kind, iV x12.2.N, .string x12.2.S]]) (xs := [x12.1, x12.2]) rfl (bsl_25_2 _ _ _ _ _ _) rfl rfl (fun _ _ hr => .cons rfl (.cons rfl All2.nil))) ?_
   rintro _ _ ⟨A20, n20, c20, rfl, rfl⟩
   obtain ⟨q21, h⟩ := req_elim h
   refine gD (op_append 6 0 rfl rfl els_own rfl rfl Tryz.underlying25 zb38 rfl rfl q21) ?_
   rintro _ _ ⟨A22, n22, c22, rfl, rfl⟩
   refine run ?_
   refine gO (op_store (us := [.slice A22 n22 c22]) (cs' := [iV y6.Kind, iV y6.Shape, iV y6.Flags, iV y6.Age, .slice A7 n7 c7, .slice A22 n22 c22]) 7 rfl rfl rfl rfl size25 rfl rfl rfl) ?_
   rintro _ _ rfl
   refine run ?_
   obtain ⟨rfl, rfl⟩ := Prod.mk.inj (Option.some.inj h)
   exact RK_n ((cv_sel [3, 4, 5, 6, 7] 8 rfl rfl).trans (cv_pack1 (A22, n22, c22) rfl))
  ·replace h := cond_f g19 h
   refine run ?_
   obtain ⟨rfl, rfl⟩ := Prod.mk.inj (Option.some.inj h)
   exact RK_n ((cv_sel [2, 3, 4, 5, 6] 7 rfl rfl).trans (cv_pack1 (A13, n13, c13) rfl))
 ·rintro ⟨A13, n13, c13⟩ h
  refine K3_norm (boxC B4 123 [vf] :: boxC B5 32 [iV 0, iV 0, iV 0, iV 0, .slice none 0 0, .slice none 0 0] :: kO3 A7 n7 c7 y6.Slots :: kO3 A13 n13 c13 y14.2 :: boxC B9 32 [iV y6.Kind, iV y6.Shape, iV y6.Flags, iV y6.Age, .slice A7 n7 c7, .slice A13 n13 c13] :: G) rfl ?_
  refine run ?_
  refine gR (rd_boxS (us := [iV y6.Kind, iV y6.Shape, iV y6.Flags, iV y6.Age, .slice A7 n7 c7, .slice A13 n13 c13]) 4 rfl rfl agg32 rfl) ?_
  refine gO (op_store (us := [iV y6.Kind, iV y6.Shape, iV y6.Flags, iV y6.Age, .slice A7 n7 c7, .slice A13 n13 c13]) (cs' := [iV y6.Kind, iV y6.Shape, iV y6.Flags, iV y6.Age, .slice A7 n7 c7, .slice A13 n13 c13]) 1 rfl rfl rfl rfl size32 rfl rfl rfl) ?_
  rintro _ _ rfl
  refine G_norm (boxC B4 123 [vf] :: boxC B5 32 [iV y6.Kind, iV y6.Shape, iV y6.Flags, iV y6.Age, .slice A7 n7 c7, .slice A13 n13 c13] :: kO3 A7 n7 c7 y6.Slots :: kO3 A13 n13 c13 y14.2 :: boxC B9 32 [iV y6.Kind, iV y6.Shape, iV y6.Flags, iV y6.Age, .slice A7 n7 c7, .slice A13 n13 c13] :: G) rfl ?_
  refine run ?_
  obtain rfl := Option.some.inj h
  exact endGl (rs := [.cell 4 32]) (vs := [.agg #[iV y6.Kind, iV y6.Shape, iV y6.Flags, iV y6.Age, .slice A7 n7 c7, .slice A13 n13 c13]]) rfl (.cons (rv_boxS 1 rfl rfl agg32) .nil) rfl (cv_selD [2, 3] 5 rfl rfl) ⟨_, _, _, _, _, _, rfl, rfl⟩
 ·rintro ⟨A13, n13, c13⟩ h
  exact none_some h
 ·rintro i ⟨A13, n13, c13⟩ h
  exact none_some h
theorem weak_kept_free {r : DCell} : ∀ v post, ((fun (u : Value) (post : List Chunk) => ∃ A0 n0 c0 A1 n1 c1, u = .agg #[iV r.Kind, iV r.Shape, iV r.Flags, iV r.Age, .slice A0 n0 c0, .slice A1 n1 c1] ∧ post = [kO3 A0 n0 c0 r.Slots, kO3 A1 n1 c1 r.More])) v post → ∀ c ∈ post, Free c := by
 rintro _ _ ⟨_, _, _, _, _, _, rfl, rfl⟩; exact mem_cons free_own (mem_cons free_own (mem_nil))
def weak_Clean_O (N : Nat) (a0 : DCell) (a1 : (List Int)) : Option DCell :=
 (weak_is_O N a0).bind fun y7 => bif !y7 then (some (⟨0, 0, 0, 0, [], []⟩ : DCell)) else ((weak_kept_O N a0 (fun x => weak_Clean_c1_O N x a1)).bind fun y11 => some y11)
theorem weak_Clean_ok {N : Nat} {a0 : DCell} {a1 : (List Int)} {r : DCell} (h : weak_Clean_O N a0 a1 = some r) {A1 : Option Addr} {n1 c1 : Nat} {A2 : Option Addr} {n2 c2 : Nat} {A3 : Option Addr} {n3 c3 : Nat} : Okc Tryz.prog 80 [.agg #[iV a0.Kind, iV a0.Shape, iV a0.Flags, iV a0.Age, .slice A1 n1 c1, .slice A2 n2 c2], .slice A3 n3 c3] ([kS0 A1 n1 c1 a0.Slots, kS0 A2 n2 c2 a0.More, kS5 A3 n3 c3 a1]) (fun (u : Value) (post : List Chunk) => ∃ A0 n0 c0 A1 n1 c1, u = .agg #[iV r.Kind, iV r.Shape, iV r.Flags, iV r.Age, .slice A0 n0 c0, .slice A1 n1 c1] ∧ post = [kO3 A0 n0 c0 r.Slots, kO3 A1 n1 c1 r.More]) := by
 refine ok_E Tryz.func80 rfl rfl ?_
 simp only [envOf]
 refine run ?_
 refine gD (op_box rfl rfl) ?_
 rintro _ _ ⟨B4, rfl, rfl⟩
 refine gD (op_box rfl rfl) ?_
 rintro _ _ ⟨B5, rfl, rfl⟩
 refine gD (op_alloc zero32 rfl) ?_
 rintro _ _ ⟨B6, rfl, rfl⟩
 refine run ?_
 refine G_seq ?_
 refine run ?_
 refine gR (rd_boxS (us := [iV a0.Kind, iV a0.Shape, iV a0.Flags, iV a0.Age, .slice A1 n1 c1, .slice A2 n2 c2]) 2 rfl rfl agg32 rfl) ?_
 obtain ⟨y7, hy7, h⟩ := bind_elim h
 refine gD (op_callR (weak_is_ok hy7) call132 rfl (mem_cons (lent_ro (i := 3) rfl rfl) (mem_cons (lent_ro (i := 4) rfl rfl) mem_nil)) weak_is_free) ?_
 rintro _ _ ⟨_, ⟨rfl, rfl⟩, rfl⟩
 refine run ?_
 refine G_cond rfl (fun g8 => ?_) (fun g8 => ?_)
 ·replace h := cond_t g8 h
  refine run ?_
  refine gE (ev_build rfl (bld_32_)) ?_
  refine gO (op_store (us := [iV 0, iV 0, iV 0, iV 0, .slice none 0 0, .slice none 0 0]) (cs' := [iV 0, iV 0, iV 0, iV 0, .slice none 0 0, .slice none 0 0]) 0 rfl rfl rfl rfl size32 rfl rfl rfl) ?_
  rintro _ _ rfl
  refine run ?_
  obtain rfl := Option.some.inj h
  exact endGl (rs := [.cell 4 32]) (vs := [.agg #[iV 0, iV 0, iV 0, iV 0, .slice none 0 0, .slice none 0 0]]) rfl (.cons (rv_boxS 0 rfl rfl agg32) .nil) rfl ((cv_nil rDValue 38 _).trans ((cv_nil rDValue 38 _).trans (cv_sel [1, 0] 8 rfl rfl))) ⟨_, _, _, _, _, _, rfl, rfl⟩
 ·replace h := cond_f g8 h
  refine run ?_
  refine gR (rd_boxS (us := [iV a0.Kind, iV a0.Shape, iV a0.Flags, iV a0.Age, .slice A1 n1 c1, .slice A2 n2 c2]) 2 rfl rfl agg32 rfl) ?_
  refine gE (ev_makeFunc rfl) ?_
  obtain ⟨y11, hy11, h⟩ := bind_elim h
  refine gD (op_callR (weak_kept_ok hy11 ⟨mem_cons rfl (mem_cons rfl mem_nil), 134, #[], #[pV B5 0], rfl, call134, fun _ _ hh => weak_Clean_c1_ok hh⟩) call133 rfl (mem_cons (lent_ro (i := 3) rfl rfl) (mem_cons (lent_ro (i := 4) rfl rfl) (mem_cons (lent_box (i := 1) rfl) (mem_cons (lent_ro (i := 5) rfl rfl) mem_nil)))) weak_kept_free) ?_
  rintro _ _ ⟨_, ⟨A12, n12, c12, A13, n13, c13, rfl, rfl⟩, rfl⟩
  refine gO (op_store (us := [iV y11.Kind, iV y11.Shape, iV y11.Flags, iV y11.Age, .slice A12 n12 c12, .slice A13 n13 c13]) (cs' := [iV y11.Kind, iV y11.Shape, iV y11.Flags, iV y11.Age, .slice A12 n12 c12, .slice A13 n13 c13]) 2 rfl rfl rfl rfl size32 rfl rfl rfl) ?_
  rintro _ _ rfl
  refine run ?_
  obtain rfl := Option.some.inj h
  exact endGl (rs := [.cell 4 32]) (vs := [.agg #[iV y11.Kind, iV y11.Shape, iV y11.Flags, iV y11.Age, .slice A12 n12 c12, .slice A13 n13 c13]]) rfl (.cons (rv_boxS 2 rfl rfl agg32) .nil) rfl (cv_sel [0, 1] 8 rfl rfl) ⟨_, _, _, _, _, _, rfl, rfl⟩
theorem weak_Clean_free {r : DCell} : ∀ v post, ((fun (u : Value) (post : List Chunk) => ∃ A0 n0 c0 A1 n1 c1, u = .agg #[iV r.Kind, iV r.Shape, iV r.Flags, iV r.Age, .slice A0 n0 c0, .slice A1 n1 c1] ∧ post = [kO3 A0 n0 c0 r.Slots, kO3 A1 n1 c1 r.More])) v post → ∀ c ∈ post, Free c := by
 rintro _ _ ⟨_, _, _, _, _, _, rfl, rfl⟩; exact mem_cons free_own (mem_cons free_own (mem_nil))
end Go.Proofs.YtmbaennilhdieaaGreat
/- Pure functions and contracts of Go functions (printed by all3.py). -/
namespace Go.Proofs.YtmbaennilhdieaaGreat
open Go.RowKit Asn
set_option maxRecDepth 20000
def w22_goes_c1_O (N : Nat) (a0 : (List DValue)) : Option DCell :=
 some (⟨11, 0, 0, 0, [], a0⟩ : DCell)
theorem w22_goes_c1_ok {N : Nat} {a0 : (List DValue)} {r : DCell} (h : w22_goes_c1_O N a0 = some r) {A1 : Option Addr} {n1 c1 : Nat} : Okc Tryz.prog 76 [.slice A1 n1 c1] ([kS0 A1 n1 c1 a0]) (fun (u : Value) (post : List Chunk) => ∃ A0 n0 c0 A1 n1 c1, u = .agg #[iV r.Kind, iV r.Shape, iV r.Flags, iV r.Age, .slice A0 n0 c0, .slice A1 n1 c1] ∧ post = [kS0 A0 n0 c0 r.Slots, kS0 A1 n1 c1 r.More]) := by
 refine ok_E Tryz.func76 rfl rfl ?_
 simp only [envOf]
 refine run ?_
 refine gD (op_alloc zero32 rfl) ?_
 rintro _ _ ⟨B2, rfl, rfl⟩
 refine run ?_
 refine gE (ev_build rfl (bld_32_0_5 _ _ _ _)) ?_
 refine gO (op_store (us := [iV 11, iV 0, iV 0, iV 0, .slice none 0 0, .slice A1 n1 c1]) (cs' := [iV 11, iV 0, iV 0, iV 0, .slice none 0 0, .slice A1 n1 c1]) 0 rfl rfl rfl rfl size32 rfl rfl rfl) ?_
 rintro _ _ rfl
 refine run ?_
 obtain rfl := Option.some.inj h
 exact endGl (rs := [.cell 2 32]) (vs := [.agg #[iV 11, iV 0, iV 0, iV 0, .slice none 0 0, .slice A1 n1 c1]]) rfl (.cons (rv_boxS 0 rfl rfl agg32) .nil) rfl ((cv_nilS rDValue _).trans (cv_sel [0, 2] 3 rfl rfl)) ⟨_, _, _, _, _, _, rfl, rfl⟩
def w22_object_O (N : Nat) (a0 : Int) : Option DValue :=
 some (⟨7, a0, ⟨#[]⟩⟩ : DValue)
theorem w22_object_ok {N : Nat} {a0 : Int} {r : DValue} (h : w22_object_O N a0 = some r) : Okc Tryz.prog 77 [iV a0] ([]) (fun (u : Value) (post : List Chunk) => u = .agg #[iV r.Kind, iV r.N, .string r.S] ∧ post = []) := by
 refine ok_E Tryz.func77 rfl rfl ?_
 simp only [envOf]
 refine run ?_
 refine gD (op_alloc zero38 rfl) ?_
 rintro _ _ ⟨B1, rfl, rfl⟩
 refine run ?_
 refine gE (ev_build rfl (bld_38_0_1 _ _)) ?_
 refine gO (op_store (us := [iV 7, iV a0, .string (⟨#[]⟩)]) (cs' := [iV 7, iV a0, .string (⟨#[]⟩)]) 0 rfl rfl rfl rfl size38 rfl rfl rfl) ?_
 rintro _ _ rfl
 refine run ?_
 obtain rfl := Option.some.inj h
 exact endGl (rs := [.cell 2 38]) (vs := [.agg #[iV 7, iV a0, .string (⟨#[]⟩)]]) rfl (.cons (rv_boxS 0 rfl rfl agg38) .nil) rfl (cv_sel [] 1 rfl rfl) ⟨rfl, rfl⟩
theorem w22_object_free {r : DValue} : ∀ v post, ((fun (u : Value) (post : List Chunk) => u = .agg #[iV r.Kind, iV r.N, .string r.S] ∧ post = [])) v post → ∀ c ∈ post, Free c := by
 rintro _ _ ⟨rfl, rfl⟩; exact mem_nil
def major_order_c1_j9 (N : Nat) {σ : Type} (kb4 : Int → Int → σ → Option σ) (fy : (Int × Int) → σ → Option (Bool × σ)) (p6 : Int) (a1 : (List Int)) (p10 : Int) (p11 : σ) : Option σ :=
 req (in64 (p6 + 1)) (kb4 p10 (p6 + 1) p11)
def major_order_c1_j18 (N : Nat) {σ : Type} (kb4 : Int → Int → σ → Option σ) (kb13 : Int → Int → σ → Option σ) (fy : (Int × Int) → σ → Option (Bool × σ)) (x12 : Int) (p6 : Int) (a1 : (List Int)) (p15 : Int) (p19 : Int) (p20 : σ) : Option σ :=
 req (in64 (p15 + 1)) (kb13 p19 (p15 + 1) p20)
def major_order_c1_l13 (N : Nat) {σ : Type} (kb4 : Int → Int → σ → Option σ) (fy : (Int × Int) → σ → Option (Bool × σ)) (x12 : Int) (p6 : Int) (a1 : (List Int)) : Nat → Int → Int → σ → Option σ
 | 0, _, _, _ => none
 | m13 + 1, p14, p15, p16 => bif decide (p15 < (a1.length : Int)) then ((getE a1 p15).bind fun x21 => bif !decide (x21.tmod 2 = x12) then (major_order_c1_j18 N kb4 (major_order_c1_l13 N kb4 fy x12 p6 a1 m13) fy x12 p6 a1 p15 p14 p16) else ((fy (p14, x21) p16).bind fun y23 => bif !y23.1 then (some y23.2) else (req (in64 (p14 + 1)) (major_order_c1_j18 N kb4 (major_order_c1_l13 N kb4 fy x12 p6 a1 m13) fy x12 p6 a1 p15 (p14 + 1) y23.2)))) else (major_order_c1_j9 N kb4 fy p6 a1 p14 p16)
theorem major_order_c1_l13_s {N m13 : Nat} {σ : Type} {kb4 : Int → Int → σ → Option σ} {fy : (Int × Int) → σ → Option (Bool × σ)} {x12 : Int} {p6 : Int} {a1 : (List Int)} {p14 : Int} {p15 : Int} {p16 : σ} : major_order_c1_l13 N kb4 fy x12 p6 a1 (m13 + 1) p14 p15 p16 = bif decide (p15 < (a1.length : Int)) then ((getE a1 p15).bind fun x21 => bif !decide (x21.tmod 2 = x12) then (major_order_c1_j18 N kb4 (major_order_c1_l13 N kb4 fy x12 p6 a1 m13) fy x12 p6 a1 p15 p14 p16) else ((fy (p14, x21) p16).bind fun y23 => bif !y23.1 then (some y23.2) else (req (in64 (p14 + 1)) (major_order_c1_j18 N kb4 (major_order_c1_l13 N kb4 fy x12 p6 a1 m13) fy x12 p6 a1 p15 (p14 + 1) y23.2)))) else (major_order_c1_j9 N kb4 fy p6 a1 p14 p16) := rfl
def major_order_c1_l4 (N : Nat) {σ : Type} (fy : (Int × Int) → σ → Option (Bool × σ)) (a1 : (List Int)) : Nat → Int → Int → σ → Option σ
 | 0, _, _, _ => none
 | m4 + 1, p5, p6, p7 => bif decide (p6 < (([0, 1] : List Int).length : Int)) then ((getE ([0, 1] : List Int) p6).bind fun x12 => major_order_c1_l13 N (major_order_c1_l4 N fy a1 m4) fy x12 p6 a1 N p5 0 p7) else (some p7)
theorem major_order_c1_l4_s {N m4 : Nat} {σ : Type} {fy : (Int × Int) → σ → Option (Bool × σ)} {a1 : (List Int)} {p5 : Int} {p6 : Int} {p7 : σ} : major_order_c1_l4 N fy a1 (m4 + 1) p5 p6 p7 = bif decide (p6 < (([0, 1] : List Int).length : Int)) then ((getE ([0, 1] : List Int) p6).bind fun x12 => major_order_c1_l13 N (major_order_c1_l4 N fy a1 m4) fy x12 p6 a1 N p5 0 p7) else (some p7) := rfl
def major_order_c1_O (N : Nat) {σ : Type} (a1 : (List Int)) (fy : (Int × Int) → σ → Option (Bool × σ)) (s0 : σ) : Option σ :=
 major_order_c1_l4 N fy a1 N 0 0 s0
theorem major_order_c1_ok {N : Nat} {σ : Type} {a1 : (List Int)} {fy : (Int × Int) → σ → Option (Bool × σ)} {s0 : σ} {r : σ} (h : major_order_c1_O N a1 fy s0 = some r) {B1 : Nat} {A2 : Option Addr} {n2 c2 : Nat} {l : Nat} {G : σ → List Chunk} (hY : YieldOk Tryz.prog l G (fun x => [iV x.1, iV x.2]) fy) : Okc Tryz.prog 131 [.func (.yield l) #[] #[], pV B1 0] (rboxC B1 35 [.slice A2 n2 c2] :: kS5 A2 n2 c2 a1 :: (G s0)) (fun (u : Value) (post : List Chunk) => u = .tuple #[] ∧ post = G r) := by
 refine ok_E Tryz.func131 rfl rfl ?_
 simp only [envOf]
 refine run ?_
 refine gD (op_bslice (R := (rInt .i64)) (vss := [[iV 0], [iV 1]]) (xs := [0, 1]) rfl (bsl_35_2 _ _) rfl rfl (fun _ _ hr => .cons rfl (.cons rfl All2.nil))) ?_
 rintro _ _ ⟨A3, n3, c3, rfl, rfl⟩
 refine gR (rd_len 0 rfl els_own rfl Tryz.underlying35) ?_
 refine run ?_
 refine G_loopF (fun m s L => ∃ (p5 : Int) (p6 : Int) (p7 : σ), major_order_c1_l4 N fy a1 m p5 p6 p7 = some r ∧ s = [(0, .func (.yield l) #[] #[]), (1, pV B1 0), (3, iV p5), (8, .slice A3 n3 c3), (9, iV (([0, 1] : List Int).length : Int)), (10, iV p6)] ∧ L = kO2 A3 n3 c3 ([0, 1] : List Int) :: kS5 A2 n2 c2 a1 :: rboxC B1 35 [.slice A2 n2 c2] :: (G p7)) N _ _ ⟨0, 0, s0, h, rfl, rfl⟩ sA (cv_sel [0, 2, 1] 3 rfl rfl) ?_
 rintro (_ | m4) _ _ ⟨p5, p6, p7, h, rfl, rfl⟩
 ·exact none_some h
 rw [major_order_c1_l4_s] at h
 refine run ?_
 refine G_seq ?_
 refine G_cond rfl (fun g8 => ?_) (fun g8 => ?_)
 ·replace h := cond_t g8 h
  refine run ?_
  refine G_joinF (fun s L => ∃ (p10 : Int) (p11 : σ), major_order_c1_j9 N (major_order_c1_l4 N fy a1 m4) fy p6 a1 p10 p11 = some r ∧ s = [(0, .func (.yield l) #[] #[]), (1, pV B1 0), (3, iV p10), (8, .slice A3 n3 c3), (9, iV (([0, 1] : List Int).length : Int)), (10, iV p6)] ∧ L = kO2 A3 n3 c3 ([0, 1] : List Int) :: kS5 A2 n2 c2 a1 :: rboxC B1 35 [.slice A2 n2 c2] :: (G p11)) ?_ ?_
  ·refine run ?_
   obtain ⟨x12, hx12, h⟩ := bind_elim h
   obtain ⟨lx12, ux12, hx12⟩ := getE_elim hx12
   refine gR (rd_idx 0 rfl els_own rfl rfl Tryz.underlying35 size3 lx12 ux12) ?_
   refine gR (rd_elem1 (u := iV x12) 0 rfl els_own rfl hx12 one3 (fun _ _ _ h => by rw [show _ = _ from h]; rfl)) ?_
   refine run ?_
   refine gR (rd_rbox1 2 rfl rfl one35 rfl) ?_
   refine gR (rd_len 1 rfl els_sl rfl Tryz.underlying35) ?_
   refine run ?_
   refine G_loopF (fun m s L => ∃ (p14 : Int) (p15 : Int) (p16 : σ), major_order_c1_l13 N (major_order_c1_l4 N fy a1 m4) fy x12 p6 a1 m p14 p15 p16 = some r ∧ s = [(0, .func (.yield l) #[] #[]), (1, pV B1 0), (3, iV p14), (5, iV x12), (8, .slice A3 n3 c3), (9, iV (([0, 1] : List Int).length : Int)), (10, iV p6), (14, .slice A2 n2 c2), (15, iV (a1.length : Int)), (16, iV p15)] ∧ L = kO2 A3 n3 c3 ([0, 1] : List Int) :: kS5 A2 n2 c2 a1 :: rboxC B1 35 [.slice A2 n2 c2] :: (G p16)) N _ _ ⟨p5, 0, p7, h, rfl, rfl⟩ sA (cv_sel [0, 1, 2] 3 rfl rfl) ?_
   rintro (_ | m13) _ _ ⟨p14, p15, p16, h, rfl, rfl⟩
   ·exact none_some h
   rw [major_order_c1_l13_s] at h
   refine run ?_
   refine G_seq ?_
   refine G_cond rfl (fun g17 => ?_) (fun g17 => ?_)
   ·replace h := cond_t g17 h
    refine run ?_
    refine G_joinF (fun s L => ∃ (p19 : Int) (p20 : σ), major_order_c1_j18 N (major_order_c1_l4 N fy a1 m4) (major_order_c1_l13 N (major_order_c1_l4 N fy a1 m4) fy x12 p6 a1 m13) fy x12 p6 a1 p15 p19 p20 = some r ∧ s = [(0, .func (.yield l) #[] #[]), (1, pV B1 0), (3, iV p19), (5, iV x12), (8, .slice A3 n3 c3), (9, iV (([0, 1] : List Int).length : Int)), (10, iV p6), (14, .slice A2 n2 c2), (15, iV (a1.length : Int)), (16, iV p15)] ∧ L = kO2 A3 n3 c3 ([0, 1] : List Int) :: kS5 A2 n2 c2 a1 :: rboxC B1 35 [.slice A2 n2 c2] :: (G p20)) ?_ ?_
    ·refine run ?_
     obtain ⟨x21, hx21, h⟩ := bind_elim h
     obtain ⟨lx21, ux21, hx21⟩ := getE_elim hx21
     refine gR (rd_idx 1 rfl els_sl rfl rfl Tryz.underlying35 size3 lx21 ux21) ?_
     refine gR (rd_elem1 (u := iV x21) 1 rfl els_sl rfl hx21 one3 (fun _ _ _ h => by rw [show _ = _ from h]; rfl)) ?_
     refine run ?_
     refine G_seq ?_
     refine run ?_
     refine gE (ev_rem rfl rfl (by decide)) ?_
     refine run ?_
     refine G_cond rfl (fun g22 => ?_) (fun g22 => ?_)
     ·replace h := cond_t g22 h
      refine run ?_
      exact ⟨_, _, ⟨p14, p16, h, rfl, rfl⟩, sA, cv_sel [0, 1, 2] 3 rfl rfl⟩
     ·replace h := cond_f g22 h
      refine run ?_
      refine G_seq ?_
      refine run ?_
      obtain ⟨y23, hy23, h⟩ := bind_elim h
      refine gD (op_yieldE (a := (p14, x21)) [kO2 A3 n3 c3 ([0, 1] : List Int), kS5 A2 n2 c2 a1, rboxC B1 35 [.slice A2 n2 c2]] hY hy23 rfl rfl) ?_
      rintro _ _ ⟨rfl, rfl⟩
      refine run ?_
      refine G_cond rfl (fun g24 => ?_) (fun g24 => ?_)
      ·replace h := cond_t g24 h
       refine run ?_
       obtain rfl := Option.some.inj h
       exact endG0 rfl (cv_sel [] 3 rfl rfl) ⟨rfl, rfl⟩
      ·replace h := cond_f g24 h
       refine run ?_
       obtain ⟨q25, h⟩ := req_elim h
       refine gE (ev_add rfl rfl q25.1 q25.2) ?_
       refine run ?_
       exact ⟨_, _, ⟨p14 + 1, y23.2, h, rfl, rfl⟩, sA, cv_sel [0, 1, 2] 3 rfl rfl⟩
    ·rintro _ _ ⟨p19, p20, h, rfl, rfl⟩
     refine G_region ?_
     obtain ⟨q26, h⟩ := req_elim h
     refine gE (ev_add rfl rfl q26.1 q26.2) ?_
     refine run ?_
     exact ⟨m13, _, _, Nat.lt_succ_self _, ⟨p19, p15 + 1, p20, h, rfl, rfl⟩, sA, cv_sel [0, 1, 2] 3 rfl rfl⟩
   ·replace h := cond_f g17 h
    refine run ?_
    exact ⟨_, _, ⟨p14, p16, h, rfl, rfl⟩, sA, cv_sel [0, 1, 2] 3 rfl rfl⟩
  ·rintro _ _ ⟨p10, p11, h, rfl, rfl⟩
   refine G_region ?_
   obtain ⟨q27, h⟩ := req_elim h
   refine gE (ev_add rfl rfl q27.1 q27.2) ?_
   refine run ?_
   exact ⟨m4, _, _, Nat.lt_succ_self _, ⟨p10, p6 + 1, p11, h, rfl, rfl⟩, sA, cv_sel [0, 1, 2] 3 rfl rfl⟩
 ·replace h := cond_f g8 h
  refine run ?_
  obtain rfl := Option.some.inj h
  exact endG0n rfl (cv_sel [] 3 rfl rfl) ⟨rfl, rfl⟩
def major_order_O (N : Nat) (a0 : (List Int)) : Option Unit :=
 some ()
theorem major_order_ok {N : Nat} {a0 : (List Int)} {r : Unit} (h : major_order_O N a0 = some r) {A1 : Option Addr} {n1 c1 : Nat} : Okc Tryz.prog 79 [.slice A1 n1 c1] ([kS5 A1 n1 c1 a0]) (fun (u : Value) (post : List Chunk) => ∃ B900, u = .func (.func 131) #[] #[pV B900 0] ∧ post = [boxC B900 35 [.slice A1 n1 c1]]) := by
 refine ok_E Tryz.func79 rfl rfl ?_
 simp only [envOf]
 refine run ?_
 refine gD (op_box rfl rfl) ?_
 rintro _ _ ⟨B2, rfl, rfl⟩
 refine run ?_
 refine gE (ev_makeFunc rfl) ?_
 refine run ?_
 obtain rfl := Option.some.inj h
 exact endG1 rfl rfl (cv_sel [0] 2 rfl rfl) ⟨_, rfl, rfl⟩
theorem major_order_free {A1 : Option Addr} {n1 : Nat} {c1 : Nat} : ∀ v post, ((fun (u : Value) (post : List Chunk) => ∃ B900, u = .func (.func 131) #[] #[pV B900 0] ∧ post = [boxC B900 35 [.slice A1 n1 c1]])) v post → ∀ c ∈ post, Free c := by
 rintro _ _ ⟨_, rfl, rfl⟩; exact mem_cons free_box (mem_nil)
def major_Places_b11 (N : Nat) (x11 : Int × Int) : ((List Int) × (List Int)) → Option (Option Exit × ((List Int) × (List Int)))
 |(p12, p13) => req (fitsL (p12.length + ([x11.2] : List Int).length)) (req (in64 (2 * x11.1)) (req (in64 ((2 * x11.1) + 2)) (req (fitsL (p13.length + ([(2 * x11.1) + 2] : List Int).length)) (some (none, (p12 ++ ([x11.2] : List Int), p13 ++ ([(2 * x11.1) + 2] : List Int)))))))
def major_Places_O (N : Nat) (a0 : DMemory) (a1 : (List DValue)) : Option ((List Int) × (List Int)) :=
 (reach_Live_O N a0 a1).bind fun y7 => (major_order_O N y7).bind fun y9 => (major_order_c1_O N y7 (liftR (fun x st => major_Places_b11 N x st)) (none, ([], []))).bind fun y14 => caseX y14.1 (some (y14.2.1, y14.2.2)) none (fun _ => none)
theorem major_Places_ok {N : Nat} {a0 : DMemory} {a1 : (List DValue)} {r : ((List Int) × (List Int))} (h : major_Places_O N a0 a1 = some r) {A1 : Option Addr} {n1 c1 : Nat} {A2 : Option Addr} {n2 c2 : Nat} {A3 : Option Addr} {n3 c3 : Nat} : Okc Tryz.prog 33 [.agg #[.slice A1 n1 c1, .slice A2 n2 c2], .slice A3 n3 c3] ([kS1 A1 n1 c1 a0.Young, kS1 A2 n2 c2 a0.Old, kS0 A3 n3 c3 a1]) (fun (u : Value) (post : List Chunk) => ∃ A0 n0 c0 A1 n1 c1, u = .tuple #[.slice A0 n0 c0, .slice A1 n1 c1] ∧ post = [kO2 A0 n0 c0 r.1, kO2 A1 n1 c1 r.2]) := by
 refine ok_E Tryz.func33 rfl rfl ?_
 simp only [envOf]
 refine run ?_
 refine gD (op_box rfl rfl) ?_
 rintro _ _ ⟨B4, rfl, rfl⟩
 refine gD (op_alloc zero35 rfl) ?_
 rintro _ _ ⟨B5, rfl, rfl⟩
 refine gD (op_alloc zero35 rfl) ?_
 rintro _ _ ⟨B6, rfl, rfl⟩
 refine run ?_
 refine G_seq ?_
 refine run ?_
 refine gR (rd_boxS (us := [.slice A1 n1 c1, .slice A2 n2 c2]) 2 rfl rfl agg24 rfl) ?_
 refine run ?_
 obtain ⟨y7, hy7, h⟩ := bind_elim h
 refine gD (op_callR (reach_Live_ok hy7) call23 rfl (mem_cons (lent_ro (i := 3) rfl rfl) (mem_cons (lent_ro (i := 4) rfl rfl) (mem_cons (lent_ro (i := 5) rfl rfl) mem_nil))) reach_Live_free) ?_
 rintro _ _ ⟨_, ⟨A8, n8, c8, rfl, rfl⟩, rfl⟩
 obtain ⟨y9, hy9, h⟩ := bind_elim h
 refine gD (op_callR (major_order_ok hy9) call79 rfl (mem_cons (lent_own (i := 0) rfl) mem_nil) major_order_free) ?_
 rintro _ _ ⟨_, ⟨B10, rfl, rfl⟩, rfl⟩
 refine G_nil ?_
 refine nx_n ?_
 refine G_sub ?_ sub_refl (cv_frzbox 0 rfl)
 refine G_sub ?_ sub_refl (cv_frz 1 rfl)
 obtain ⟨y14, hy14, h⟩ := bind_elim h
 refine G_rangeX (en := (fun x => [iV x.1, iV x.2])) (fun x st => major_Places_b11 N x st) (fun (st : (List Int) × (List Int)) (mz : ((Option Addr × Nat × Nat) × (Option Addr × Nat × Nat))) => [ownC (rInt .i64) 3 (.slice mz.1.1 mz.1.2.1 mz.1.2.2) st.1, boxC B5 35 [.slice mz.1.1 mz.1.2.1 mz.1.2.2], ownC (rInt .i64) 3 (.slice mz.2.1 mz.2.2.1 mz.2.2.2) st.2, boxC B6 35 [.slice mz.2.1 mz.2.2.1 mz.2.2.2]]) [rboxC B10 35 [.slice A8 n8 c8], kS5 A8 n8 c8 y7] (([], [])) (((none, 0, 0), (none, 0, 0))) rfl rfl call131 rfl (fun _ => rfl) (fun l G hY => (major_order_c1_ok hy14 hY).mono fun _ _ hh => hh.2) ((cv_nil (rInt .i64) 3 _).trans ((cv_nil (rInt .i64) 3 _).trans (cv_take [2, 3] [] [1, 5, 0, 4] 10 rfl))) h ?_ ?_ ?_ ?_
 ·rintro l x11 ⟨p12, p13⟩ je sr11 ⟨⟨A12, n12, c12⟩, ⟨A13, n13, c13⟩⟩ h
  replace h : major_Places_b11 N x11 (p12, p13) = some (je, sr11) := h
  simp only [envR, List.zip_cons_cons, List.zip_nil_left, List.zip_nil_right, List.reverse_cons, List.reverse_nil, List.nil_append, List.cons_append]
  refine run ?_
  obtain ⟨q19, h⟩ := req_elim h
  obtain ⟨q22, h⟩ := req_elim h
  obtain ⟨q23, h⟩ := req_elim h
  refine G_sub (t := [(4, pV B5 0), (5, pV B6 0), (6, iV x11.1), (7, iV x11.2)]) ?_ subT (cv_refl _)
  refine G_monoX (L := [boxC B5 35 [.slice A12 n12 c12], kO2 A13 n13 c13 p13, boxC B6 35 [.slice A13 n13 c13]]) (by kernel_rfl) 9 [] [3, 4, 8] [14, 15, 16, 17, 18, 19, 20, 21, 22] [[], [], [1], [0, 2], [], [], [5], [6], [7]] [aV (.slice A12 n12 c12),
 aV (iV x11.2),
 aX3 (fun (A18 : Option Addr) (n18 c18 : Nat) => .slice A18 n18 c18) (fun A18 n18 c18 => [kO2 A18 n18 c18 ([x11.2] : List Int)]),
 aX3 (fun (A21 : Option Addr) (n21 c21 : Nat) => .slice A21 n21 c21) (fun A21 n21 c21 => [kO2 A21 n21 c21 (p12 ++ ([x11.2] : List Int))]),
 aV (.slice A13 n13 c13),
 aV (iV x11.1),
 aV (iV (2 * x11.1)),
 aV (iV ((2 * x11.1) + 2)),
 aX3 (fun (A25 : Option Addr) (n25 c25 : Nat) => .slice A25 n25 c25) (fun A25 n25 c25 => [kO2 A25 n25 c25 ([(2 * x11.1) + 2] : List Int)])] [[], [], [], [kO2 A12 n12 c12 p12]] (cv_sel [0, 1, 2, 3] 4 rfl rfl) (qB_nil) (by kernel_rfl) rfl rfl ?_ ?_ ?_
  ·exact qs_nil
  ·refine steps_cons rfl ?_ ?_
   ·refine X_op (op_bslice (R := (rInt .i64)) (vss := [[iV ((2 * x11.1) + 2)]]) (xs := [(2 * x11.1) + 2]) rfl (bsl_35_1 _) rfl rfl (fun _ _ hr => .cons rfl All2.nil)) rfl ?_
    rintro _ _ ⟨A24, n24, c24, rfl, rfl⟩
    exact cvp3 A24 n24 c24 (cv_refl _)
   refine steps_cons rfl ?_ ?_
   ·exact X_ev (ev_add rfl rfl q23.1 q23.2) rfl (cvpV rfl (cv_refl _))
   refine steps_cons rfl ?_ ?_
   ·exact X_ev (ev_mul rfl rfl q22.1 q22.2) rfl (cvpV rfl (cv_refl _))
   refine steps_cons rfl ?_ ?_
   ·exact X_ev (ev_move rfl) rfl (cvpV rfl (cv_refl _))
   refine steps_cons rfl ?_ ?_
   ·exact X_rd (rd_box1 2 rfl rfl one35 rfl) rfl (cvpV rfl (cv_refl _))
   refine steps_cons rfl ?_ ?_
   ·intro A18 n18 c18
    refine X_op (op_append 1 0 rfl rfl els_own rfl rfl Tryz.underlying35 zb3 rfl rfl q19) rfl ?_
    rintro _ _ ⟨A20, n20, c20, rfl, rfl⟩
    exact cvp3 A20 n20 c20 (cv_sel [1, 0, 2, 3, 4] 5 rfl rfl)
   refine steps_cons rfl ?_ ?_
   ·refine X_op (op_bslice (R := (rInt .i64)) (vss := [[iV x11.2]]) (xs := [x11.2]) rfl (bsl_35_1 _) rfl rfl (fun _ _ hr => .cons rfl All2.nil)) rfl ?_
    rintro _ _ ⟨A17, n17, c17, rfl, rfl⟩
    exact cvp3 A17 n17 c17 (cv_refl _)
   refine steps_cons rfl ?_ ?_
   ·exact X_ev (ev_move rfl) rfl (cvpV rfl (cv_refl _))
   refine steps_cons rfl ?_ ?_
   ·exact X_rd (rd_box1 0 rfl rfl one35 rfl) rfl (cvpV rfl (cv_refl _))
   exact steps_nil
  ·intro A21 n21 c21 A25 n25 c25
   refine N_sub (t := [(17, .slice A21 n21 c21), (18, .slice A13 n13 c13), (22, .slice A25 n25 c25), (4, pV B5 0), (5, pV B6 0), (6, iV x11.1), (7, iV x11.2)]) (L' := [kO2 A21 n21 c21 (p12 ++ ([x11.2] : List Int)), kO2 A25 n25 c25 ([(2 * x11.1) + 2] : List Int), boxC B5 35 [.slice A12 n12 c12], kO2 A13 n13 c13 p13, boxC B6 35 [.slice A13 n13 c13]]) ?_ subT (cv_refl _)
   obtain ⟨q26, h⟩ := req_elim h
   refine N_opd 9 rfl (by kernel_rfl) (op_append 3 1 rfl rfl els_own rfl rfl Tryz.underlying35 zb3 rfl rfl q26) rfl rfl rfl ?_
   rintro _ _ ⟨A27, n27, c27, rfl, rfl⟩
   refine N_norm ([kO2 A21 n21 c21 (p12 ++ ([x11.2] : List Int)), kO2 A25 n25 c25 ([(2 * x11.1) + 2] : List Int), boxC B5 35 [.slice A12 n12 c12], kO2 A27 n27 c27 (p13 ++ ([(2 * x11.1) + 2] : List Int)), boxC B6 35 [.slice A13 n13 c13]]) rfl ?_
   refine N_opn 10 rfl (by kernel_rfl) (op_store (us := [.slice A21 n21 c21]) (cs' := [.slice A21 n21 c21]) 2 rfl rfl rfl rfl size35 rfl rfl rfl) rfl rfl ?_
   rintro _ _ rfl
   refine N_opn 11 rfl (by kernel_rfl) (op_store (us := [.slice A27 n27 c27]) (cs' := [.slice A27 n27 c27]) 4 rfl rfl rfl rfl size35 rfl rfl rfl) rfl rfl ?_
   rintro _ _ rfl
   refine N_done (by kernel_rfl) ?_
   refine bk_n ?_
   obtain ⟨rfl, rfl⟩ := Prod.mk.inj (Option.some.inj h)
   exact RK_n ((cv_sel [0, 2, 3, 4] 5 rfl rfl).trans (cv_pack1 ((A21, n21, c21), (A27, n27, c27)) rfl))
 ·rintro ⟨⟨A12, n12, c12⟩, ⟨A13, n13, c13⟩⟩ h
  refine K3_norm ([kO2 A12 n12 c12 y14.2.1, boxC B5 35 [.slice A12 n12 c12], kO2 A13 n13 c13 y14.2.2, boxC B6 35 [.slice A13 n13 c13]]) rfl ?_
  refine run ?_
  refine G_seq ?_
  refine G_drawn (by kernel_rfl) _ (cv_refl _) ?_
  refine T3_rd 0 rfl (by kernel_rfl) (rd_box1 1 rfl rfl one35 rfl) rfl rfl ?_
  refine T3_rd 1 rfl (by kernel_rfl) (rd_box1 3 rfl rfl one35 rfl) rfl rfl ?_
  refine T3_opn 2 rfl (by kernel_rfl) (op_store (us := [.slice A12 n12 c12]) (cs' := [.slice A12 n12 c12]) 1 rfl rfl rfl rfl size35 rfl rfl rfl) rfl rfl ?_
  rintro _ _ rfl
  refine ⟨_, cv_refl _, cv_refl _, ?_⟩
  refine T3_norm ([kO2 A12 n12 c12 y14.2.1, boxC B5 35 [.slice A12 n12 c12], kO2 A13 n13 c13 y14.2.2, boxC B6 35 [.slice A13 n13 c13]]) rfl ?_
  refine T3_opn 3 rfl (by kernel_rfl) (op_store (us := [.slice A13 n13 c13]) (cs' := [.slice A13 n13 c13]) 3 rfl rfl rfl rfl size35 rfl rfl rfl) rfl rfl ?_
  rintro _ _ rfl
  refine ⟨_, cv_refl _, cv_refl _, ?_⟩
  refine T3_norm ([kO2 A12 n12 c12 y14.2.1, boxC B5 35 [.slice A12 n12 c12], kO2 A13 n13 c13 y14.2.2, boxC B6 35 [.slice A13 n13 c13]]) rfl ?_
  refine T3_done (by kernel_rfl) ?_
  refine run ?_
  obtain rfl := Option.some.inj h
  exact endGl (rs := [.cell 4 35, .cell 5 35]) (vs := [.slice A12 n12 c12, .slice A13 n13 c13]) rfl (.cons (rv_box1 1 rfl rfl one35) (.cons (rv_box1 3 rfl rfl one35) .nil)) rfl (cv_sel [0, 2] 4 rfl rfl) ⟨_, _, _, _, _, _, rfl, rfl⟩
 ·rintro ⟨⟨A12, n12, c12⟩, ⟨A13, n13, c13⟩⟩ h
  exact none_some h
 ·rintro i ⟨⟨A12, n12, c12⟩, ⟨A13, n13, c13⟩⟩ h
  exact none_some h
theorem major_Places_free {r : ((List Int) × (List Int))} : ∀ v post, ((fun (u : Value) (post : List Chunk) => ∃ A0 n0 c0 A1 n1 c1, u = .tuple #[.slice A0 n0 c0, .slice A1 n1 c1] ∧ post = [kO2 A0 n0 c0 r.1, kO2 A1 n1 c1 r.2])) v post → ∀ c ∈ post, Free c := by
 rintro _ _ ⟨_, _, _, _, _, _, rfl, rfl⟩; exact mem_cons free_own (mem_cons free_own (mem_nil))
def major_check_c1_O (N : Nat) (a0 : Int) (a1 : DMemory) : Option Bool :=
 (reach_Has_O N a1 a0).bind fun y4 => some (!y4)
theorem major_check_c1_ok {N : Nat} {a0 : Int} {a1 : DMemory} {r : Bool} (h : major_check_c1_O N a0 a1 = some r) {B1 : Nat} {A2 : Option Addr} {n2 c2 : Nat} {A3 : Option Addr} {n3 c3 : Nat} : Okc Tryz.prog 130 [iV a0, pV B1 0] ([rboxC B1 24 [.slice A2 n2 c2, .slice A3 n3 c3], kS1 A2 n2 c2 a1.Young, kS1 A3 n3 c3 a1.Old]) (fun (u : Value) (post : List Chunk) => u = .bool r ∧ post = []) := by
 refine ok_E Tryz.func130 rfl rfl ?_
 simp only [envOf]
 refine run ?_
 refine gR (rd_rboxS (us := [.slice A2 n2 c2, .slice A3 n3 c3]) 0 rfl rfl agg24 rfl) ?_
 refine run ?_
 obtain ⟨y4, hy4, h⟩ := bind_elim h
 refine gD (op_callR (reach_Has_ok hy4) call13 rfl (mem_cons (lent_ro (i := 1) rfl rfl) (mem_cons (lent_ro (i := 2) rfl rfl) mem_nil)) reach_Has_free) ?_
 rintro _ _ ⟨_, ⟨rfl, rfl⟩, rfl⟩
 refine run ?_
 obtain rfl := Option.some.inj h
 exact endG1 rfl rfl (cv_sel [] 3 rfl rfl) ⟨rfl, rfl⟩
end Go.Proofs.YtmbaennilhdieaaGreat