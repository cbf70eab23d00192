/- Merged texts: part 4. No conditions of their own. -/
import Derived.Test.YtmbaennilhdieaaGreatG3
/- Pure functions and contracts of Go functions (printed by all3.py). -/
namespace Go.Proofs.YtmbaennilhdieaaGreat
open Go.RowKit Asn
set_option maxRecDepth 20000
def cell_slotsRight_O (N : Nat) (a0 : DCell) : Option Bool :=
 (cell_has_O N a0.Kind).bind fun y4 => (bif y4 then (some true) else ((bif decide (a0.Kind = 7) then (some (decide (0 < (a0.Slots.length : Int)))) else (some false)).bind fun b6 => some b6)).bind fun b5 => bif b5 then ((bif decide (1 ≤ (a0.Slots.length : Int)) then (some (decide ((a0.Slots.length : Int) ≤ 1025))) else (some false)).bind fun b8 => (bif b8 then ((getE a0.Slots 0).bind fun x10 => (bif decide (x10.Kind = 1) then (some true) else ((getE a0.Slots 0).bind fun x12 => some (decide (x12.Kind = 7)))).bind fun b11 => some b11) else (some false)).bind fun b9 => some b9) else (bif decide (a0.Kind = 7) then (some (decide (a0.Shape = 0))) else ((bif !decide (a0.Shape = 0) then (some true) else (some (!decide (a0.Flags = 0)))).bind fun b14 => bif b14 then (some false) else (bif decide (a0.Kind = 5) then ((bif decide ((a0.Slots.length : Int) = 2) then ((getE a0.Slots 0).bind fun x18 => (cell_orNone_O N x18 7).bind fun y19 => some y19) else (some false)).bind fun b17 => (bif b17 then ((getE a0.Slots 1).bind fun x21 => (cell_orNone_O N x21 7).bind fun y22 => some y22) else (some false)).bind fun b20 => some b20) else (some (decide ((a0.Slots.length : Int) = 0))))))
theorem cell_slotsRight_ok {N : Nat} {a0 : DCell} {r : Bool} (h : cell_slotsRight_O N a0 = some r) {A1 : Option Addr} {n1 c1 : Nat} {A2 : Option Addr} {n2 c2 : Nat} : Okc Tryz.prog 111 [.agg #[iV a0.Kind, iV a0.Shape, iV a0.Flags, iV a0.Age, .slice A1 n1 c1, .slice A2 n2 c2]] ([kS0 A1 n1 c1 a0.Slots, kS0 A2 n2 c2 a0.More]) (fun (u : Value) (post : List Chunk) => u = .bool r ∧ post = []) := by
 refine ok_E Tryz.func111 rfl rfl ?_
 simp only [envOf]
 refine run ?_
 refine gD (op_box rfl rfl) ?_
 rintro _ _ ⟨B3, rfl, rfl⟩
 refine run ?_
 refine G_seq ?_
 refine run ?_
 obtain ⟨y4, hy4, h⟩ := bind_elim h
 refine gD (op_callR (cell_has_ok hy4) call163 rfl (mem_nil) cell_has_free) ?_
 rintro _ _ ⟨_, ⟨rfl, rfl⟩, rfl⟩
 refine run ?_
 obtain ⟨b5, hb5, h⟩ := bind_elim h
 refine G_segb 10 16 b5 ?_ ?_
 ·clear h
  refine G_case 6 rfl (fun g5 => ?_) (fun g5 => ?_)
  ·have h := cond_t g5 hb5
   refine run ?_
   obtain rfl := Option.some.inj h
   exact G_joined sA (cv_sel [0, 1, 2] 3 rfl rfl)
  ·have h := cond_f g5 hb5
   refine run ?_
   obtain ⟨b6, hb6, h⟩ := bind_elim h
   refine G_segb 5 15 b6 ?_ ?_
   ·clear h
    refine G_case 10 rfl (fun g6 => ?_) (fun g6 => ?_)
    ·have h := cond_t g6 hb6
     refine run ?_
     refine G_rd (rd_len 1 rfl els_sl rfl Tryz.underlying25) rfl (g_tt g6 rfl) rfl ?_
     refine run ?_
     obtain rfl := Option.some.inj h
     exact G_joined sA (cv_sel [0, 1, 2] 3 rfl rfl)
    ·have h := cond_f g6 hb6
     refine run ?_
     obtain rfl := Option.some.inj h
     exact G_joined sA (cv_sel [0, 1, 2] 3 rfl rfl)
   refine run ?_
   obtain rfl := Option.some.inj h
   exact G_joined sA (cv_sel [0, 1, 2] 3 rfl rfl)
 refine run ?_
 refine G_cond rfl (fun g7 => ?_) (fun g7 => ?_)
 ·replace h := cond_t g7 h
  refine run ?_
  refine gR (rd_len 1 rfl els_sl rfl Tryz.underlying25) ?_
  refine run ?_
  obtain ⟨b8, hb8, h⟩ := bind_elim h
  refine G_segb 5 26 b8 ?_ ?_
  ·clear h
   refine G_case 21 rfl (fun g8 => ?_) (fun g8 => ?_)
   ·have h := cond_t g8 hb8
    refine run ?_
    refine G_rd (rd_len 1 rfl els_sl rfl Tryz.underlying25) rfl (g_tt g8 rfl) rfl ?_
    refine run ?_
    obtain rfl := Option.some.inj h
    exact G_joined sA (cv_sel [0, 1, 2] 3 rfl rfl)
   ·have h := cond_f g8 hb8
    refine run ?_
    obtain rfl := Option.some.inj h
    exact G_joined sA (cv_sel [0, 1, 2] 3 rfl rfl)
  refine run ?_
  obtain ⟨b9, hb9, h⟩ := bind_elim h
  refine G_segb 15 42 b9 ?_ ?_
  ·clear h
   refine G_case 27 rfl (fun g9 => ?_) (fun g9 => ?_)
   ·have h := cond_t g9 hb9
    refine run ?_
    obtain ⟨x10, hx10, h⟩ := bind_elim h
    obtain ⟨lx10, ux10, hx10⟩ := getE_elim hx10
    refine G_rd (rd_idx 1 rfl els_sl rfl rfl Tryz.underlying25 size38 lx10 ux10) rfl (g_tt g9 rfl) rfl ?_
    refine G_rd (rd_fa0 1 rfl els_sl rfl (toNat_lt lx10 ux10) fa_38_0) rfl (g_tt g9 rfl) rfl ?_
    refine G_rd (rd_elem1 (u := iV x10.Kind) 1 rfl els_sl rfl hx10 one3 (fun _ _ _ h => by rw [show _ = _ from h]; rfl)) rfl (g_tt g9 rfl) rfl ?_
    refine run ?_
    obtain ⟨b11, hb11, h⟩ := bind_elim h
    refine G_segb 7 41 b11 ?_ ?_
    ·clear h
     refine G_case 34 rfl (fun g11 => ?_) (fun g11 => ?_)
     ·have h := cond_t g11 hb11
      refine run ?_
      obtain rfl := Option.some.inj h
      exact G_joined sA (cv_sel [0, 1, 2] 3 rfl rfl)
     ·have h := cond_f g11 hb11
      refine run ?_
      obtain ⟨x12, hx12, h⟩ := bind_elim h
      obtain ⟨lx12, ux12, hx12⟩ := getE_elim hx12
      refine G_rd (rd_idx 1 rfl els_sl rfl rfl Tryz.underlying25 size38 lx12 ux12) rfl (g_ff g11 rfl) rfl ?_
      refine G_rd (rd_fa0 1 rfl els_sl rfl (toNat_lt lx12 ux12) fa_38_0) rfl (g_ff g11 rfl) rfl ?_
      refine G_rd (rd_elem1 (u := iV x12.Kind) 1 rfl els_sl rfl hx12 one3 (fun _ _ _ h => by rw [show _ = _ from h]; rfl)) rfl (g_ff g11 rfl) rfl ?_
      refine run ?_
      obtain rfl := Option.some.inj h
      exact G_joined sA (cv_sel [0, 1, 2] 3 rfl rfl)
    refine run ?_
    obtain rfl := Option.some.inj h
    exact G_joined sA (cv_sel [0, 1, 2] 3 rfl rfl)
   ·have h := cond_f g9 hb9
    refine run ?_
    obtain rfl := Option.some.inj h
    exact G_joined sA (cv_sel [0, 1, 2] 3 rfl rfl)
  refine run ?_
  obtain rfl := Option.some.inj h
  exact endG1 rfl rfl (cv_sel [] 3 rfl rfl) ⟨rfl, rfl⟩
 ·replace h := cond_f g7 h
  refine run ?_
  refine G_seq ?_
  refine run ?_
  refine G_cond rfl (fun g13 => ?_) (fun g13 => ?_)
  ·replace h := cond_t g13 h
   refine run ?_
   obtain rfl := Option.some.inj h
   exact endG1 rfl rfl (cv_sel [] 3 rfl rfl) ⟨rfl, rfl⟩
  ·replace h := cond_f g13 h
   refine run ?_
   refine G_seq ?_
   refine run ?_
   obtain ⟨b14, hb14, h⟩ := bind_elim h
   refine G_segb 4 56 b14 ?_ ?_
   ·clear h
    refine G_case 52 rfl (fun g14 => ?_) (fun g14 => ?_)
    ·have h := cond_t g14 hb14
     refine run ?_
     obtain rfl := Option.some.inj h
     exact G_joined sA (cv_sel [0, 1, 2] 3 rfl rfl)
    ·have h := cond_f g14 hb14
     refine run ?_
     obtain rfl := Option.some.inj h
     exact G_joined sA (cv_sel [0, 1, 2] 3 rfl rfl)
   refine run ?_
   refine G_cond rfl (fun g15 => ?_) (fun g15 => ?_)
   ·replace h := cond_t g15 h
    refine run ?_
    obtain rfl := Option.some.inj h
    exact endG1 rfl rfl (cv_sel [] 3 rfl rfl) ⟨rfl, rfl⟩
   ·replace h := cond_f g15 h
    refine run ?_
    refine G_seq ?_
    refine run ?_
    refine G_cond rfl (fun g16 => ?_) (fun g16 => ?_)
    ·replace h := cond_t g16 h
     refine run ?_
     refine gR (rd_len 1 rfl els_sl rfl Tryz.underlying25) ?_
     refine run ?_
     obtain ⟨b17, hb17, h⟩ := bind_elim h
     refine G_segb 6 70 b17 ?_ ?_
     ·clear h
      refine G_case 64 rfl (fun g17 => ?_) (fun g17 => ?_)
      ·have h := cond_t g17 hb17
       refine run ?_
       obtain ⟨x18, hx18, h⟩ := bind_elim h
       obtain ⟨lx18, ux18, hx18⟩ := getE_elim hx18
       refine G_rd (rd_idx 1 rfl els_sl rfl rfl Tryz.underlying25 size38 lx18 ux18) rfl (g_tt g17 rfl) rfl ?_
       refine G_rd (rd_elemS (us := [iV x18.Kind, iV x18.N, .string x18.S]) 1 rfl els_sl rfl hx18 agg38 (fun _ _ _ h => by rw [show _ = _ from h]; rfl)) rfl (g_tt g17 rfl) rfl ?_
       obtain ⟨y19, hy19, h⟩ := bind_elim h
       refine G_opd (op_callR (cell_orNone_ok hy19) call164 rfl (mem_nil) cell_orNone_free) rfl (g_tt g17 rfl) rfl ?_
       rintro _ _ ⟨_, ⟨rfl, rfl⟩, rfl⟩
       refine run ?_
       obtain rfl := Option.some.inj h
       exact G_joined sA (cv_sel [0, 1, 2] 3 rfl rfl)
      ·have h := cond_f g17 hb17
       refine run ?_
       obtain rfl := Option.some.inj h
       exact G_joined sA (cv_sel [0, 1, 2] 3 rfl rfl)
     refine run ?_
     obtain ⟨b20, hb20, h⟩ := bind_elim h
     refine G_segb 6 77 b20 ?_ ?_
     ·clear h
      refine G_case 71 rfl (fun g20 => ?_) (fun g20 => ?_)
      ·have h := cond_t g20 hb20
       refine run ?_
       obtain ⟨x21, hx21, h⟩ := bind_elim h
       obtain ⟨lx21, ux21, hx21⟩ := getE_elim hx21
       refine G_rd (rd_idx 1 rfl els_sl rfl rfl Tryz.underlying25 size38 lx21 ux21) rfl (g_tt g20 rfl) rfl ?_
       refine G_rd (rd_elemS (us := [iV x21.Kind, iV x21.N, .string x21.S]) 1 rfl els_sl rfl hx21 agg38 (fun _ _ _ h => by rw [show _ = _ from h]; rfl)) rfl (g_tt g20 rfl) rfl ?_
       obtain ⟨y22, hy22, h⟩ := bind_elim h
       refine G_opd (op_callR (cell_orNone_ok hy22) call164 rfl (mem_nil) cell_orNone_free) rfl (g_tt g20 rfl) rfl ?_
       rintro _ _ ⟨_, ⟨rfl, rfl⟩, rfl⟩
       refine run ?_
       obtain rfl := Option.some.inj h
       exact G_joined sA (cv_sel [0, 1, 2] 3 rfl rfl)
      ·have h := cond_f g20 hb20
       refine run ?_
       obtain rfl := Option.some.inj h
       exact G_joined sA (cv_sel [0, 1, 2] 3 rfl rfl)
     refine run ?_
     obtain rfl := Option.some.inj h
     exact endG1 rfl rfl (cv_sel [] 3 rfl rfl) ⟨rfl, rfl⟩
    ·replace h := cond_f g16 h
     refine run ?_
     refine gR (rd_len 1 rfl els_sl rfl Tryz.underlying25) ?_
     refine run ?_
     obtain rfl := Option.some.inj h
     exact endG1 rfl rfl (cv_sel [] 3 rfl rfl) ⟨rfl, rfl⟩
theorem cell_slotsRight_free {r : Bool} : ∀ v post, ((fun (u : Value) (post : List Chunk) => u = .bool r ∧ post = [])) v post → ∀ c ∈ post, Free c := by
 rintro _ _ ⟨rfl, rfl⟩; exact mem_nil
def cell_number_O (N : Nat) (a0 : DValue) (a1 : Int) (a2 : Int) : Option Bool :=
 (bif decide (a0.Kind = 3) then (some (decide (a1 ≤ a0.N))) else (some false)).bind fun b2 => (bif b2 then (some (decide (a0.N ≤ a2))) else (some false)).bind fun b3 => some b3
theorem cell_number_ok {N : Nat} {a0 : DValue} {a1 : Int} {a2 : Int} {r : Bool} (h : cell_number_O N a0 a1 a2 = some r) : Okc Tryz.prog 165 [.agg #[iV a0.Kind, iV a0.N, .string a0.S], iV a1, iV a2] ([]) (fun (u : Value) (post : List Chunk) => u = .bool r ∧ post = []) := by
 refine ok_E Tryz.func165 rfl rfl ?_
 simp only [envOf]
 refine run ?_
 refine gD (op_box rfl rfl) ?_
 rintro _ _ ⟨B1, rfl, rfl⟩
 refine run ?_
 obtain ⟨b2, hb2, h⟩ := bind_elim h
 refine G_segb 5 15 b2 ?_ ?_
 ·clear h
  refine G_case 10 rfl (fun g2 => ?_) (fun g2 => ?_)
  ·have h := cond_t g2 hb2
   refine run ?_
   obtain rfl := Option.some.inj h
   exact G_joined sA (cv_sel [0] 1 rfl rfl)
  ·have h := cond_f g2 hb2
   refine run ?_
   obtain rfl := Option.some.inj h
   exact G_joined sA (cv_sel [0] 1 rfl rfl)
 refine run ?_
 obtain ⟨b3, hb3, h⟩ := bind_elim h
 refine G_segb 5 21 b3 ?_ ?_
 ·clear h
  refine G_case 16 rfl (fun g3 => ?_) (fun g3 => ?_)
  ·have h := cond_t g3 hb3
   refine run ?_
   obtain rfl := Option.some.inj h
   exact G_joined sA (cv_sel [0] 1 rfl rfl)
  ·have h := cond_f g3 hb3
   refine run ?_
   obtain rfl := Option.some.inj h
   exact G_joined sA (cv_sel [0] 1 rfl rfl)
 refine run ?_
 obtain rfl := Option.some.inj h
 exact endG1 rfl rfl (cv_sel [] 1 rfl rfl) ⟨rfl, rfl⟩
theorem cell_number_free {r : Bool} : ∀ v post, ((fun (u : Value) (post : List Chunk) => u = .bool r ∧ post = [])) v post → ∀ c ∈ post, Free c := by
 rintro _ _ ⟨rfl, rfl⟩; exact mem_nil
def slices_Chunk_l4 (N : Nat) {σ : Type} (fy : (List DValue) → σ → Option (Bool × σ)) (a1 : (List DValue)) (a2 : Int) : Nat → Int → σ → Option σ
 | 0, _, _ => none
 | m4 + 1, p5, p6 => bif decide (p5 < (a1.length : Int)) then (req ((0 : Int) ≤ p5 ∧ p5.toNat ≤ a1.length ∧ a1.length ≤ a1.length) (req (in64 (p5 + (min a2 (((a1.drop p5.toNat).take (a1.length - p5.toNat)).length : Int)))) (req (in64 (p5 + (min a2 (((a1.drop p5.toNat).take (a1.length - p5.toNat)).length : Int)))) (req ((0 : Int) ≤ p5 ∧ (0 : Int) ≤ p5 + (min a2 (((a1.drop p5.toNat).take (a1.length - p5.toNat)).length : Int)) ∧ p5.toNat ≤ (p5 + (min a2 (((a1.drop p5.toNat).take (a1.length - p5.toNat)).length : Int))).toNat ∧ (p5 + (min a2 (((a1.drop p5.toNat).take (a1.length - p5.toNat)).length : Int))).toNat ≤ a1.length) ((fy ((a1.drop p5.toNat).take ((p5 + (min a2 (((a1.drop p5.toNat).take (a1.length - p5.toNat)).length : Int))).toNat - p5.toNat)) p6).bind fun y14 => bif !y14.1 then (some y14.2) else (req (in64 (p5 + a2)) ((slices_Chunk_l4 N fy a1 a2 m4) (p5 + a2) y14.2))))))) else (some p6)
theorem slices_Chunk_l4_s {N m4 : Nat} {σ : Type} {fy : (List DValue) → σ → Option (Bool × σ)} {a1 : (List DValue)} {a2 : Int} {p5 : Int} {p6 : σ} : slices_Chunk_l4 N fy a1 a2 (m4 + 1) p5 p6 = bif decide (p5 < (a1.length : Int)) then (req ((0 : Int) ≤ p5 ∧ p5.toNat ≤ a1.length ∧ a1.length ≤ a1.length) (req (in64 (p5 + (min a2 (((a1.drop p5.toNat).take (a1.length - p5.toNat)).length : Int)))) (req (in64 (p5 + (min a2 (((a1.drop p5.toNat).take (a1.length - p5.toNat)).length : Int)))) (req ((0 : Int) ≤ p5 ∧ (0 : Int) ≤ p5 + (min a2 (((a1.drop p5.toNat).take (a1.length - p5.toNat)).length : Int)) ∧ p5.toNat ≤ (p5 + (min a2 (((a1.drop p5.toNat).take (a1.length - p5.toNat)).length : Int))).toNat ∧ (p5 + (min a2 (((a1.drop p5.toNat).take (a1.length - p5.toNat)).length : Int))).toNat ≤ a1.length) ((fy ((a1.drop p5.toNat).take ((p5 + (min a2 (((a1.drop p5.toNat).take (a1.length - p5.toNat)).length : Int))).toNat - p5.toNat)) p6).bind fun y14 => bif !y14.1 then (some y14.2) else (req (in64 (p5 + a2)) ((slices_Chunk_l4 N fy a1 a2 m4) (p5 + a2) y14.2))))))) else (some p6) := rfl
def slices_Chunk_O (N : Nat) {σ : Type} (a1 : (List DValue)) (a2 : Int) (fy : (List DValue) → σ → Option (Bool × σ)) (s0 : σ) : Option σ :=
 slices_Chunk_l4 N fy a1 a2 N 0 s0
theorem slices_Chunk_ok {N : Nat} {σ : Type} {a1 : (List DValue)} {a2 : Int} {fy : (List DValue) → σ → Option (Bool × σ)} {s0 : σ} {r : σ} (h : slices_Chunk_O N a1 a2 fy s0 = some r) {B1 : Nat} {A2 : Option Addr} {n2 c2 : Nat} {B3 : Nat} {l : Nat} {G : σ → List Chunk} (hY : YieldOkR Tryz.prog l G (fun (x : (List DValue)) vs cs => ∃ A0 n0 c0, vs = [.slice A0 n0 c0] ∧ cs = [kS0 A0 n0 c0 x]) fy) : Okc Tryz.prog 201 [.func (.yield l) #[] #[], pV B1 0, pV B3 0] (rboxC B1 25 [.slice A2 n2 c2] :: kS0 A2 n2 c2 a1 :: rboxC B3 3 [iV a2] :: (G s0)) (fun (u : Value) (post : List Chunk) => u = .tuple #[] ∧ post = G r) := by
 refine ok_E Tryz.func201 rfl rfl ?_
 simp only [envOf]
 refine run ?_
 refine G_loopF (fun m s L => ∃ (p5 : Int) (p6 : σ), slices_Chunk_l4 N fy a1 a2 m p5 p6 = some r ∧ s = [(0, .func (.yield l) #[] #[]), (1, pV B1 0), (2, pV B3 0), (4, iV p5)] ∧ L = kS0 A2 n2 c2 a1 :: rboxC B1 25 [.slice A2 n2 c2] :: rboxC B3 3 [iV a2] :: (G p6)) N _ _ ⟨0, s0, h, rfl, rfl⟩ sA (cv_sel [1, 0, 2] 3 rfl rfl) ?_
 rintro (_ | m4) _ _ ⟨p5, p6, h, rfl, rfl⟩
 ·exact none_some h
 rw [slices_Chunk_l4_s] at h
 refine G_seq ?_
 refine run ?_
 refine gR (rd_rbox1 1 rfl rfl one25 rfl) ?_
 refine gR (rd_len 0 rfl els_sl rfl Tryz.underlying25) ?_
 refine run ?_
 refine G_cond rfl (fun g7 => ?_) (fun g7 => ?_)
 ·replace h := cond_t g7 h
  refine run ?_
  refine G_seq ?_
  refine G_block ?_
  refine G_seq ?_
  refine G_drawn (by kernel_rfl) _ (cv_refl _) ?_
  refine T3_rd 0 rfl (by kernel_rfl) (rd_rbox1 2 rfl rfl one3 rfl) rfl rfl ?_
  refine T3_rd 1 rfl (by kernel_rfl) (rd_rbox1 1 rfl rfl one25 rfl) rfl rfl ?_
  refine T3_ev 2 rfl (by kernel_rfl) (ev_move rfl) rfl rfl ?_
  obtain ⟨q8, h⟩ := req_elim h
  refine T3_cut 0 rfl (l := p5.toNat) (h := a1.length) q8.2.1 q8.2.2 ?_
  rintro A9 n9 c9 e9
  refine T3_rd 3 rfl (by kernel_rfl) (rd_cutN 1 rfl e9 rfl Tryz.underlying25 size38 rfl (by rw [Int.toNat_of_nonneg q8.1]; rfl) q8.2.1) rfl rfl ?_
  refine T3_rd 4 rfl (by kernel_rfl) (rd_len 0 rfl els_sl rfl Tryz.underlying25) rfl rfl ?_
  refine T3_ev 5 rfl (by kernel_rfl) (ev_min rfl rfl Tryz.underlying3 Tryz.underlying3) rfl rfl ?_
  refine T3_ev 6 rfl (by kernel_rfl) (ev_assign rfl) rfl rfl ?_
  refine T3_done (by kernel_rfl) ?_
  refine run ?_
  refine gR (rd_rbox1 2 rfl rfl one25 rfl) ?_
  refine run ?_
  obtain ⟨q10, h⟩ := req_elim h
  refine gE (ev_add rfl rfl q10.1 q10.2) ?_
  refine run ?_
  obtain ⟨q11, h⟩ := req_elim h
  refine gE (ev_add rfl rfl q11.1 q11.2) ?_
  obtain ⟨q12, h⟩ := req_elim h
  refine G_cut3 1 rfl (l := p5.toNat) (h := (p5 + (min a2 (((a1.drop p5.toNat).take (a1.length - p5.toNat)).length : Int))).toNat) q12.2.2.1 q12.2.2.2 ?_
  rintro A13 n13 c13 e13
  refine gR (rd_cut3 2 rfl e13 rfl Tryz.underlying25 size38 rfl (by rw [Int.toNat_of_nonneg q12.1]; rfl) (by rw [Int.toNat_of_nonneg q12.2.1]; rfl) (by rw [Int.toNat_of_nonneg q12.2.1]; rfl) q12.2.2.1 q12.2.2.2) ?_
  obtain ⟨y14, hy14, h⟩ := bind_elim h
  refine gD (op_yieldR (a := (a1.drop p5.toNat).take ((p5 + (min a2 (((a1.drop p5.toNat).take (a1.length - p5.toNat)).length : Int))).toNat - p5.toNat)) [kS0 A13 n13 c13 ((a1.drop p5.toNat).take ((p5 + (min a2 (((a1.drop p5.toNat).take (a1.length - p5.toNat)).length : Int))).toNat - p5.toNat)), kS0 A9 n9 c9 ((a1.drop p5.toNat).take (a1.length - p5.toNat)), kS0 A2 n2 c2 a1, rboxC B1 25 [.slice A2 n2 c2], rboxC B3 3 [iV a2]] hY hy14 rfl rfl ⟨_, _, _, rfl, rfl⟩ (cv_dup 0 rfl rfl)) ?_
  rintro _ _ ⟨rfl, rfl⟩
  refine run ?_
  refine G_cond rfl (fun g15 => ?_) (fun g15 => ?_)
  ·replace h := cond_t g15 h
   refine run ?_
   obtain rfl := Option.some.inj h
   exact endG0 rfl (cv_sel [] 5 rfl rfl) ⟨rfl, rfl⟩
  ·replace h := cond_f g15 h
   refine run ?_
   refine gR (rd_rbox1 4 rfl rfl one3 rfl) ?_
   obtain ⟨q16, h⟩ := req_elim h
   refine gE (ev_add rfl rfl q16.1 q16.2) ?_
   refine run ?_
   exact ⟨m4, _, _, Nat.lt_succ_self _, ⟨p5 + a2, y14.2, h, rfl, rfl⟩, sA, cv_sel [2, 3, 4] 5 rfl rfl⟩
 ·replace h := cond_f g7 h
  refine run ?_
  obtain rfl := Option.some.inj h
  exact endG0n rfl (cv_sel [] 3 rfl rfl) ⟨rfl, rfl⟩
def slices_Chunk_191_O (N : Nat) (a0 : (List DValue)) (a1 : Int) : Option Unit :=
 bif decide (a1 < 1) then none else (some ())
theorem slices_Chunk_191_ok {N : Nat} {a0 : (List DValue)} {a1 : Int} {r : Unit} (h : slices_Chunk_191_O N a0 a1 = some r) {A1 : Option Addr} {n1 c1 : Nat} : Okc Tryz.prog 191 [.slice A1 n1 c1, iV a1] ([kS0 A1 n1 c1 a0]) (fun (u : Value) (post : List Chunk) => ∃ B900 B901, u = .func (.func 201) #[] #[pV B900 0, pV B901 0] ∧ post = [boxC B900 25 [.slice A1 n1 c1], boxC B901 3 [iV a1]]) := by
 refine ok_E Tryz.func191 rfl rfl ?_
 simp only [envOf]
 refine run ?_
 refine gD (op_box rfl rfl) ?_
 rintro _ _ ⟨B2, rfl, rfl⟩
 refine gD (op_box rfl rfl) ?_
 rintro _ _ ⟨B3, rfl, rfl⟩
 refine run ?_
 refine G_seq ?_
 refine run ?_
 refine G_cond rfl (fun g4 => ?_) (fun g4 => ?_)
 ·replace h := cond_t g4 h
  exact none_some h
 ·replace h := cond_f g4 h
  refine run ?_
  refine gE (ev_makeFunc rfl) ?_
  refine run ?_
  obtain rfl := Option.some.inj h
  exact endG1 rfl rfl (cv_sel [1, 0] 3 rfl rfl) ⟨_, _, rfl, rfl⟩
theorem slices_Chunk_191_free {a1 : Int} {A1 : Option Addr} {n1 : Nat} {c1 : Nat} : ∀ v post, ((fun (u : Value) (post : List Chunk) => ∃ B900 B901, u = .func (.func 201) #[] #[pV B900 0, pV B901 0] ∧ post = [boxC B900 25 [.slice A1 n1 c1], boxC B901 3 [iV a1]])) v post → ∀ c ∈ post, Free c := by
 rintro _ _ ⟨_, _, rfl, rfl⟩; exact mem_cons free_box (mem_cons free_box (mem_nil))
def cell_entriesRight_b9 (N : Nat) (a1 : Int) (x9 : (List DValue)) : (Unit) → Option (Option Exit × Unit)
 |() => (getE x9 0).bind fun x12 => (bif !decide (x12.Kind = 7) then (some true) else ((getE x9 1).bind fun x14 => some (decide (x14.Kind = 8)))).bind fun b13 => bif b13 then (some (some .ret, ())) else ((bif decide (a1 = 4) then ((getE x9 2).bind fun x17 => (cell_orNone_O N x17 7).bind fun y18 => (bif !y18 then (some true) else ((getE x9 3).bind fun x20 => (cell_number_O N x20 0 9007199254740992).bind fun y21 => some (!y21))).bind fun b19 => some b19) else (some false)).bind fun b16 => bif b16 then (some (some .ret, ())) else (some (none, ())))
def cell_entriesRight_O (N : Nat) (a0 : (List DValue)) (a1 : Int) : Option Bool :=
 req (a1 ≠ 0) (bif !decide ((a0.length : Int).tmod a1 = 0) then (some false) else ((slices_Chunk_191_O N a0 a1).bind fun y6 => (slices_Chunk_O N a0 a1 (liftR (fun x st => cell_entriesRight_b9 N a1 x st)) (none, ())).bind fun y11 => caseX y11.1 (some true) (some false) (fun _ => none)))
theorem cell_entriesRight_ok {N : Nat} {a0 : (List DValue)} {a1 : Int} {r : Bool} (h : cell_entriesRight_O N a0 a1 = some r) {A1 : Option Addr} {n1 c1 : Nat} : Okc Tryz.prog 166 [.slice A1 n1 c1, iV a1] ([kS0 A1 n1 c1 a0]) (fun (u : Value) (post : List Chunk) => u = .bool r ∧ post = []) := by
 refine ok_E Tryz.func166 rfl rfl ?_
 simp only [envOf]
 refine run ?_
 refine gD (op_box rfl rfl) ?_
 rintro _ _ ⟨B2, rfl, rfl⟩
 refine gD (op_alloc zero4 rfl) ?_
 rintro _ _ ⟨B3, rfl, rfl⟩
 refine run ?_
 refine G_seq ?_
 refine run ?_
 refine gR (rd_len 2 rfl els_sl rfl Tryz.underlying25) ?_
 refine run ?_
 obtain ⟨q4, h⟩ := req_elim h
 refine gE (ev_rem rfl rfl q4) ?_
 refine run ?_
 refine G_cond rfl (fun g5 => ?_) (fun g5 => ?_)
 ·replace h := cond_t g5 h
  refine run ?_
  refine gO (op_store (us := [.bool false]) (cs' := [.bool false]) 0 rfl rfl rfl rfl size4 rfl rfl rfl) ?_
  rintro _ _ rfl
  refine run ?_
  obtain rfl := Option.some.inj h
  exact endGl (rs := [.cell 4 4]) (vs := [.bool false]) rfl (.cons (rv_box1 0 rfl rfl one4) .nil) rfl (cv_sel [] 3 rfl rfl) ⟨rfl, rfl⟩
 ·replace h := cond_f g5 h
  refine run ?_
  refine G_seq ?_
  refine run ?_
  obtain ⟨y6, hy6, h⟩ := bind_elim h
  refine gD (op_callR (slices_Chunk_191_ok hy6) call191 rfl (mem_cons (lent_ro (i := 2) rfl rfl) mem_nil) slices_Chunk_191_free) ?_
  rintro _ _ ⟨_, ⟨B7, B8, rfl, rfl⟩, rfl⟩
  refine G_nil ?_
  refine nx_n ?_
  refine G_sub ?_ sub_refl (cv_frzbox 0 rfl)
  refine G_sub ?_ sub_refl (cv_frzbox 1 rfl)
  refine Wq_norm ([rboxC B7 25 [.slice A1 n1 c1], rboxC B8 3 [iV a1], boxC B3 4 [.bool false], boxC B2 3 [iV a1], kS0 A1 n1 c1 a0]) rfl ?_
  obtain ⟨y11, hy11, h⟩ := bind_elim h
  refine G_rangeXR (R := (fun (x : (List DValue)) vs cs => ∃ A0 n0 c0, vs = [.slice A0 n0 c0] ∧ cs = [kS0 A0 n0 c0 x])) (fun x st => cell_entriesRight_b9 N a1 x st) (fun (st : Unit) (mz : Unit) => [boxC B2 3 [iV a1], boxC B3 4 [.bool false]]) [rboxC B7 25 [.slice A1 n1 c1], kS0 A1 n1 c1 a0, rboxC B8 3 [iV a1]] (()) (()) rfl rfl call201 rfl (by rintro _ _ _ ⟨_, _, _, rfl, rfl⟩; rfl) (fun l G hY => (slices_Chunk_ok hy11 hY).mono fun _ _ hh => hh.2) (cv_take [0, 4, 1] [] [3, 2] 5 rfl) h ?_ ?_ ?_ ?_
  ·rintro l x9 _ je sr9 _ h _ _ ⟨A10, n10, c10, rfl, rfl⟩
   replace h : cell_entriesRight_b9 N a1 x9 () = some (je, sr9) := h
   simp only [envR, List.zip_cons_cons, List.zip_nil_left, List.zip_nil_right, List.reverse_cons, List.reverse_nil, List.nil_append, List.cons_append]
   refine run ?_
   refine G_seq ?_
   refine run ?_
   obtain ⟨x12, hx12, h⟩ := bind_elim h
   obtain ⟨lx12, ux12, hx12⟩ := getE_elim hx12
   refine gR (rd_idx 0 rfl els_sl rfl rfl Tryz.underlying25 size38 lx12 ux12) ?_
   refine gR (rd_fa0 0 rfl els_sl rfl (toNat_lt lx12 ux12) fa_38_0) ?_
   refine gR (rd_elem1 (u := iV x12.Kind) 0 rfl els_sl rfl hx12 one3 (fun _ _ _ h => by rw [show _ = _ from h]; rfl)) ?_
   refine run ?_
   obtain ⟨b13, hb13, h⟩ := bind_elim h
   refine G_segb 6 26 b13 ?_ ?_
   ·clear h
    refine G_case 20 rfl (fun g13 => ?_) (fun g13 => ?_)
    ·have h := cond_t g13 hb13
     refine run ?_
     obtain rfl := Option.some.inj h
     exact G_joined sA (cv_sel [0, 1, 2] 3 rfl rfl)
    ·have h := cond_f g13 hb13
     refine run ?_
     obtain ⟨x14, hx14, h⟩ := bind_elim h
     obtain ⟨lx14, ux14, hx14⟩ := getE_elim hx14
     refine G_rd (rd_idx 0 rfl els_sl rfl rfl Tryz.underlying25 size38 lx14 ux14) rfl (g_ff g13 rfl) rfl ?_
     refine G_rd (rd_fa0 0 rfl els_sl rfl (toNat_lt lx14 ux14) fa_38_0) rfl (g_ff g13 rfl) rfl ?_
     refine G_rd (rd_elem1 (u := iV x14.Kind) 0 rfl els_sl rfl hx14 one3 (fun _ _ _ h => by rw [show _ = _ from h]; rfl)) rfl (g_ff g13 rfl) rfl ?_
     refine run ?_
     obtain rfl := Option.some.inj h
     exact G_joined sA (cv_sel [0, 1, 2] 3 rfl rfl)
   refine run ?_
   refine G_cond rfl (fun g15 => ?_) (fun g15 => ?_)
   ·replace h := cond_t g15 h
    refine run ?_
    refine gO (op_store (us := [.bool false]) (cs' := [.bool false]) 2 rfl rfl rfl rfl size4 rfl rfl rfl) ?_
    rintro _ _ rfl
    refine run ?_
    obtain ⟨rfl, rfl⟩ := Prod.mk.inj (Option.some.inj h)
    exact RK_ret ((cv_sel [1, 2] 3 rfl rfl).trans (cv_pack1 () rfl))
   ·replace h := cond_f g15 h
    refine run ?_
    obtain ⟨b16, hb16, h⟩ := bind_elim h
    refine G_segb 13 42 b16 ?_ ?_
    ·clear h
     refine G_case 29 rfl (fun g16 => ?_) (fun g16 => ?_)
     ·have h := cond_t g16 hb16
      refine run ?_
      obtain ⟨x17, hx17, h⟩ := bind_elim h
      obtain ⟨lx17, ux17, hx17⟩ := getE_elim hx17
      refine G_rd (rd_idx 0 rfl els_sl rfl rfl Tryz.underlying25 size38 lx17 ux17) rfl (g_tt g16 rfl) rfl ?_
      refine G_rd (rd_elemS (us := [iV x17.Kind, iV x17.N, .string x17.S]) 0 rfl els_sl rfl hx17 agg38 (fun _ _ _ h => by rw [show _ = _ from h]; rfl)) rfl (g_tt g16 rfl) rfl ?_
      obtain ⟨y18, hy18, h⟩ := bind_elim h
      refine G_opd (op_callR (cell_orNone_ok hy18) call164 rfl (mem_nil) cell_orNone_free) rfl (g_tt g16 rfl) rfl ?_
      rintro _ _ ⟨_, ⟨rfl, rfl⟩, rfl⟩
      refine run ?_
      obtain ⟨b19, hb19, h⟩ := bind_elim h
      refine G_segb 6 41 b19 ?_ ?_
      ·clear h
       refine G_case 35 rfl (fun g19 => ?_) (fun g19 => ?_)
       ·have h := cond_t g19 hb19
        refine run ?_
        obtain rfl := Option.some.inj h
        exact G_joined sA (cv_sel [0, 1, 2] 3 rfl rfl)
       ·have h := cond_f g19 hb19
        refine run ?_
        obtain ⟨x20, hx20, h⟩ := bind_elim h
        obtain ⟨lx20, ux20, hx20⟩ := getE_elim hx20
        refine G_rd (rd_idx 0 rfl els_sl rfl rfl Tryz.underlying25 size38 lx20 ux20) rfl (g_ff g19 rfl) rfl ?_
        refine G_rd (rd_elemS (us := [iV x20.Kind, iV x20.N, .string x20.S]) 0 rfl els_sl rfl hx20 agg38 (fun _ _ _ h => by rw [show _ = _ from h]; rfl)) rfl (g_ff g19 rfl) rfl ?_
        obtain ⟨y21, hy21, h⟩ := bind_elim h
        refine G_opd (op_callR (cell_number_ok hy21) call165 rfl (mem_nil) cell_number_free) rfl (g_ff g19 rfl) rfl ?_
        rintro _ _ ⟨_, ⟨rfl, rfl⟩, rfl⟩
        refine run ?_
        obtain rfl := Option.some.inj h
        exact G_joined sA (cv_sel [0, 1, 2] 3 rfl rfl)
      refine run ?_
      obtain rfl := Option.some.inj h
      exact G_joined sA (cv_sel [0, 1, 2] 3 rfl rfl)
     ·have h := cond_f g16 hb16
      refine run ?_
      obtain rfl := Option.some.inj h
      exact G_joined sA (cv_sel [0, 1, 2] 3 rfl rfl)
    refine run ?_
    refine G_cond rfl (fun g22 => ?_) (fun g22 => ?_)
    ·replace h := cond_t g22 h
     refine run ?_
     refine gO (op_store (us := [.bool false]) (cs' := [.bool false]) 2 rfl rfl rfl rfl size4 rfl rfl rfl) ?_
     rintro _ _ rfl
     refine run ?_
     obtain ⟨rfl, rfl⟩ := Prod.mk.inj (Option.some.inj h)
     exact RK_ret ((cv_sel [1, 2] 3 rfl rfl).trans (cv_pack1 () rfl))
    ·replace h := cond_f g22 h
     refine run ?_
     obtain ⟨rfl, rfl⟩ := Prod.mk.inj (Option.some.inj h)
     exact RK_n ((cv_sel [1, 2] 3 rfl rfl).trans (cv_pack1 () rfl))
  ·rintro _ h
   refine K3_norm ([boxC B2 3 [iV a1], boxC B3 4 [.bool false]]) rfl ?_
   refine run ?_
   refine gO (op_store (us := [.bool true]) (cs' := [.bool true]) 1 rfl rfl rfl rfl size4 rfl rfl rfl) ?_
   rintro _ _ rfl
   refine G_norm ([boxC B2 3 [iV a1], boxC B3 4 [.bool true]]) rfl ?_
   refine run ?_
   obtain rfl := Option.some.inj h
   exact endGl (rs := [.cell 4 4]) (vs := [.bool true]) rfl (.cons (rv_box1 1 rfl rfl one4) .nil) rfl (cv_sel [] 2 rfl rfl) ⟨rfl, rfl⟩
  ·rintro _ h
   refine K3_norm ([boxC B2 3 [iV a1], boxC B3 4 [.bool false]]) rfl ?_
   refine run ?_
   obtain rfl := Option.some.inj h
   exact endGl (rs := [.cell 4 4]) (vs := [.bool false]) rfl (.cons (rv_box1 1 rfl rfl one4) .nil) rfl (cv_sel [] 2 rfl rfl) ⟨rfl, rfl⟩
  ·rintro i _ h
   exact none_some h
theorem cell_entriesRight_free {r : Bool} : ∀ v post, ((fun (u : Value) (post : List Chunk) => u = .bool r ∧ post = [])) v post → ∀ c ∈ post, Free c := by
 rintro _ _ ⟨rfl, rfl⟩; exact mem_nil
def cell_moreRight_j4 (N : Nat) (a0 : Int) (a1 : (List DValue)) (p5 : Bool) : Option Bool :=
 bif p5 then (some (decide ((a1.length : Int) = 0))) else (bif decide (a0 = 3) then ((bif decide ((a1.length : Int) = 3) then ((getE a1 0).bind fun x10 => (cell_number_O N x10 0 9007199254740992).bind fun y11 => some y11) else (some false)).bind fun b9 => (bif b9 then ((getE a1 1).bind fun x13 => (cell_orNone_O N x13 9).bind fun y14 => some y14) else (some false)).bind fun b12 => some b12) else (bif decide (a0 = 4) then ((bif decide (1 ≤ (a1.length : Int)) then (some (decide ((a1.length : Int) ≤ 4097))) else (some false)).bind fun b16 => (bif b16 then ((getE a1 0).bind fun x18 => (cell_orNone_O N x18 9).bind fun y19 => some y19) else (some false)).bind fun b17 => some b17) else (bif decide (a0 = 6) then ((bif decide ((a1.length : Int) = 2) then ((getE a1 0).bind fun x22 => (cell_number_O N x22 0 3).bind fun y23 => some y23) else (some false)).bind fun b21 => (bif b21 then ((getE a1 1).bind fun x25 => (cell_orNone_O N x25 9).bind fun y26 => some y26) else (some false)).bind fun b24 => some b24) else (bif decide (a0 = 7) then ((bif decide (4 ≤ (a1.length : Int)) then ((getE a1 2).bind fun x29 => (cell_number_O N x29 0 1).bind fun y30 => some y30) else (some false)).bind fun b28 => (bif b28 then ((getE a1 3).bind fun x32 => (cell_number_O N x32 0 9007199254740992).bind fun y33 => some y33) else (some false)).bind fun b31 => some b31) else (bif decide (a0 = 8) then ((cell_entriesRight_O N a1 2).bind fun y35 => some y35) else (bif decide (a0 = 10) then ((bif decide (1 ≤ (a1.length : Int)) then ((getE a1 0).bind fun x38 => some (decide (x38.Kind = 7))) else (some false)).bind fun b37 => (bif b37 then (req ((0 : Int) ≤ 1 ∧ (1 : Int).toNat ≤ a1.length ∧ a1.length ≤ a1.length) ((cell_entriesRight_O N ((a1.drop ((1 : Int).toNat)).take (a1.length - (1 : Int).toNat)) 4).bind fun y42 => some y42)) else (some false)).bind fun b39 => some b39) else (bif decide (a0 = 9) then ((bif decide (2 ≤ (a1.length : Int)) then ((getE a1 0).bind fun x45 => (cell_number_O N x45 0 2).bind fun y46 => some y46) else (some false)).bind fun b44 => some b44) else (some true))))))))
def cell_moreRight_O (N : Nat) (a0 : Int) (a1 : (List DValue)) : Option Bool :=
 bif decide (1048576 < (a1.length : Int)) then (some false) else (bif decide (a0 = 2) then (some (decide ((a1.length : Int) ≤ 4096))) else (bif decide (a0 = 1) then (cell_moreRight_j4 N a0 a1 (decide (a0 = 1))) else (cell_moreRight_j4 N a0 a1 (decide (a0 = 5)))))
set_option maxHeartbeats 4000000 in
theorem cell_moreRight_ok {N : Nat} {a0 : Int} {a1 : (List DValue)} {r : Bool} (h : cell_moreRight_O N a0 a1 = some r) {A1 : Option Addr} {n1 c1 : Nat} : Okc Tryz.prog 112 [iV a0, .slice A1 n1 c1] ([kS0 A1 n1 c1 a1]) (fun (u : Value) (post : List Chunk) => u = .bool r ∧ post = []) := by
 refine ok_E Tryz.func112 rfl rfl ?_
 simp only [envOf]
 refine run ?_
 refine G_seq ?_
 refine run ?_
 refine gR (rd_len 0 rfl els_sl rfl Tryz.underlying25) ?_
 refine run ?_
 refine G_cond rfl (fun g2 => ?_) (fun g2 => ?_)
 ·replace h := cond_t g2 h
  refine run ?_
  obtain rfl := Option.some.inj h
  exact endG1 rfl rfl (cv_sel [] 1 rfl rfl) ⟨rfl, rfl⟩
 ·replace h := cond_f g2 h
  refine run ?_
  refine G_seq ?_
  refine run ?_
  refine G_cond rfl (fun g3 => ?_) (fun g3 => ?_)
  ·replace h := cond_t g3 h
   refine run ?_
   refine gR (rd_len 0 rfl els_sl rfl Tryz.underlying25) ?_
   refine run ?_
   obtain rfl := Option.some.inj h
   exact endG1 rfl rfl (cv_sel [] 1 rfl rfl) ⟨rfl, rfl⟩
  ·replace h := cond_f g3 h
   refine G_joinF (fun s L => ∃ (p5 : Bool), cell_moreRight_j4 N a0 a1 p5 = some r ∧ s = [(1, .slice A1 n1 c1), (4, .bool false), (8, iV a0), (14, .bool p5)] ∧ L = [kS0 A1 n1 c1 a1]) ?_ ?_
   ·refine run ?_
    refine G_cond rfl (fun g6 => ?_) (fun g6 => ?_)
    ·replace h := cond_t g6 h
     refine run ?_
     exact ⟨_, _, ⟨decide (a0 = 1), h, rfl, rfl⟩, sA, cv_sel [0] 1 rfl rfl⟩
    ·replace h := cond_f g6 h
     refine run ?_
     exact ⟨_, _, ⟨decide (a0 = 5), h, rfl, rfl⟩, sA, cv_sel [0] 1 rfl rfl⟩
   ·rintro _ _ ⟨p5, h, rfl, rfl⟩
    refine G_cond rfl (fun g7 => ?_) (fun g7 => ?_)
    ·replace h := cond_t g7 h
     refine run ?_
     refine gR (rd_len 0 rfl els_sl rfl Tryz.underlying25) ?_
     refine run ?_
     obtain rfl := Option.some.inj h
     exact endG1 rfl rfl (cv_sel [] 1 rfl rfl) ⟨rfl, rfl⟩
    ·replace h := cond_f g7 h
     refine run ?_
     refine G_cond rfl (fun g8 => ?_) (fun g8 => ?_)
     ·replace h := cond_t g8 h
      refine run ?_
      refine gR (rd_len 0 rfl els_sl rfl Tryz.underlying25) ?_
      refine run ?_
      obtain ⟨b9, hb9, h⟩ := bind_elim h
      refine G_segb 5 30 b9 ?_ ?_
      ·clear h
       refine G_case 25 rfl (fun g9 => ?_) (fun g9 => ?_)
       ·have h := cond_t g9 hb9
        refine run ?_
        obtain ⟨x10, hx10, h⟩ := bind_elim h
        obtain ⟨lx10, ux10, hx10⟩ := getE_elim hx10
        refine G_rd (rd_idx 0 rfl els_sl rfl rfl Tryz.underlying25 size38 lx10 ux10) rfl (g_tt g9 rfl) rfl ?_
        refine G_rd (rd_elemS (us := [iV x10.Kind, iV x10.N, .string x10.S]) 0 rfl els_sl rfl hx10 agg38 (fun _ _ _ h => by rw [show _ = _ from h]; rfl)) rfl (g_tt g9 rfl) rfl ?_
        obtain ⟨y11, hy11, h⟩ := bind_elim h
        refine G_opd (op_callR (cell_number_ok hy11) call165 rfl (mem_nil) cell_number_free) rfl (g_tt g9 rfl) rfl ?_
        rintro _ _ ⟨_, ⟨rfl, rfl⟩, rfl⟩
        refine run ?_
        obtain rfl := Option.some.inj h
        exact G_joined sA (cv_sel [0] 1 rfl rfl)
       ·have h := cond_f g9 hb9
        refine run ?_
        obtain rfl := Option.some.inj h
        exact G_joined sA (cv_sel [0] 1 rfl rfl)
      refine run ?_
      obtain ⟨b12, hb12, h⟩ := bind_elim h
      refine G_segb 5 36 b12 ?_ ?_
      ·clear h
       refine G_case 31 rfl (fun g12 => ?_) (fun g12 => ?_)
       ·have h := cond_t g12 hb12
        refine run ?_
        obtain ⟨x13, hx13, h⟩ := bind_elim h
        obtain ⟨lx13, ux13, hx13⟩ := getE_elim hx13
        refine G_rd (rd_idx 0 rfl els_sl rfl rfl Tryz.underlying25 size38 lx13 ux13) rfl (g_tt g12 rfl) rfl ?_
        refine G_rd (rd_elemS (us := [iV x13.Kind, iV x13.N, .string x13.S]) 0 rfl els_sl rfl hx13 agg38 (fun _ _ _ h => by rw [show _ = _ from h]; rfl)) rfl (g_tt g12 rfl) rfl ?_
        obtain ⟨y14, hy14, h⟩ := bind_elim h
        refine G_opd (op_callR (cell_orNone_ok hy14) call164 rfl (mem_nil) cell_orNone_free) rfl (g_tt g12 rfl) rfl ?_
        rintro _ _ ⟨_, ⟨rfl, rfl⟩, rfl⟩
        refine run ?_
        obtain rfl := Option.some.inj h
        exact G_joined sA (cv_sel [0] 1 rfl rfl)
       ·have h := cond_f g12 hb12
        refine run ?_
        obtain rfl := Option.some.inj h
        exact G_joined sA (cv_sel [0] 1 rfl rfl)
      refine run ?_
      obtain rfl := Option.some.inj h
      exact endG1 rfl rfl (cv_sel [] 1 rfl rfl) ⟨rfl, rfl⟩
     ·replace h := cond_f g8 h
      refine run ?_
      refine G_cond rfl (fun g15 => ?_) (fun g15 => ?_)
      ·replace h := cond_t g15 h
       refine run ?_
       refine gR (rd_len 0 rfl els_sl rfl Tryz.underlying25) ?_
       refine run ?_
       obtain ⟨b16, hb16, h⟩ := bind_elim h
       refine G_segb 4 46 b16 ?_ ?_
       ·clear h
        refine G_case 42 rfl (fun g16 => ?_) (fun g16 => ?_)
        ·have h := cond_t g16 hb16
         refine run ?_
         refine G_rd (rd_len 0 rfl els_sl rfl Tryz.underlying25) rfl (g_tt g16 rfl) rfl ?_
         refine run ?_
         obtain rfl := Option.some.inj h
         exact G_joined sA (cv_sel [0] 1 rfl rfl)
        ·have h := cond_f g16 hb16
         refine run ?_
         obtain rfl := Option.some.inj h
         exact G_joined sA (cv_sel [0] 1 rfl rfl)
       refine run ?_
       obtain ⟨b17, hb17, h⟩ := bind_elim h
       refine G_segb 5 52 b17 ?_ ?_
       ·clear h
        refine G_case 47 rfl (fun g17 => ?_) (fun g17 => ?_)
        ·have h := cond_t g17 hb17
         refine run ?_
         obtain ⟨x18, hx18, h⟩ := bind_elim h
         obtain ⟨lx18, ux18, hx18⟩ := getE_elim hx18
         refine G_rd (rd_idx 0 rfl els_sl rfl rfl Tryz.underlying25 size38 lx18 ux18) rfl (g_tt g17 rfl) rfl ?_
         refine G_rd (rd_elemS (us := [iV x18.Kind, iV x18.N, .string x18.S]) 0 rfl els_sl rfl hx18 agg38 (fun _ _ _ h => by rw [show _ = _ from h]; rfl)) rfl (g_tt g17 rfl) rfl ?_
         obtain ⟨y19, hy19, h⟩ := bind_elim h
         refine G_opd (op_callR (cell_orNone_ok hy19) call164 rfl (mem_nil) cell_orNone_free) rfl (g_tt g17 rfl) rfl ?_
         rintro _ _ ⟨_, ⟨rfl, rfl⟩, rfl⟩
         refine run ?_
         obtain rfl := Option.some.inj h
         exact G_joined sA (cv_sel [0] 1 rfl rfl)
        ·have h := cond_f g17 hb17
         refine run ?_
         obtain rfl := Option.some.inj h
         exact G_joined sA (cv_sel [0] 1 rfl rfl)
       refine run ?_
       obtain rfl := Option.some.inj h
       exact endG1 rfl rfl (cv_sel [] 1 rfl rfl) ⟨rfl, rfl⟩
      ·replace h := cond_f g15 h
       refine run ?_
       refine G_cond rfl (fun g20 => ?_) (fun g20 => ?_)
       ·replace h := cond_t g20 h
        refine run ?_
        refine gR (rd_len 0 rfl els_sl rfl Tryz.underlying25) ?_
        refine run ?_
        obtain ⟨b21, hb21, h⟩ := bind_elim h
        refine G_segb 5 63 b21 ?_ ?_
        ·clear h
         refine G_case 58 rfl (fun g21 => ?_) (fun g21 => ?_)
         ·have h := cond_t g21 hb21
          refine run ?_
          obtain ⟨x22, hx22, h⟩ := bind_elim h
          obtain ⟨lx22, ux22, hx22⟩ := getE_elim hx22
          refine G_rd (rd_idx 0 rfl els_sl rfl rfl Tryz.underlying25 size38 lx22 ux22) rfl (g_tt g21 rfl) rfl ?_
          refine G_rd (rd_elemS (us := [iV x22.Kind, iV x22.N, .string x22.S]) 0 rfl els_sl rfl hx22 agg38 (fun _ _ _ h => by rw [show _ = _ from h]; rfl)) rfl (g_tt g21 rfl) rfl ?_
          obtain ⟨y23, hy23, h⟩ := bind_elim h
          refine G_opd (op_callR (cell_number_ok hy23) call165 rfl (mem_nil) cell_number_free) rfl (g_tt g21 rfl) rfl ?_
          rintro _ _ ⟨_, ⟨rfl, rfl⟩, rfl⟩
          refine run ?_
          obtain rfl := Option.some.inj h
          exact G_joined sA (cv_sel [0] 1 rfl rfl)
         ·have h := cond_f g21 hb21
          refine run ?_
          obtain rfl := Option.some.inj h
          exact G_joined sA (cv_sel [0] 1 rfl rfl)
        refine run ?_
        obtain ⟨b24, hb24, h⟩ := bind_elim h
        refine G_segb 5 69 b24 ?_ ?_
        ·clear h
         refine G_case 64 rfl (fun g24 => ?_) (fun g24 => ?_)
         ·have h := cond_t g24 hb24
          refine run ?_
          obtain ⟨x25, hx25, h⟩ := bind_elim h
          obtain ⟨lx25, ux25, hx25⟩ := getE_elim hx25
          refine G_rd (rd_idx 0 rfl els_sl rfl rfl Tryz.underlying25 size38 lx25 ux25) rfl (g_tt g24 rfl) rfl ?_
          refine G_rd (rd_elemS (us := [iV x25.Kind, iV x25.N, .string x25.S]) 0 rfl els_sl rfl hx25 agg38 (fun _ _ _ h => by rw [show _ = _ from h]; rfl)) rfl (g_tt g24 rfl) rfl ?_
          obtain ⟨y26, hy26, h⟩ := bind_elim h
          refine G_opd (op_callR (cell_orNone_ok hy26) call164 rfl (mem_nil) cell_orNone_free) rfl (g_tt g24 rfl) rfl ?_
          rintro _ _ ⟨_, ⟨rfl, rfl⟩, rfl⟩
          refine run ?_
          obtain rfl := Option.some.inj h
          exact G_joined sA (cv_sel [0] 1 rfl rfl)
         ·have h := cond_f g24 hb24
          refine run ?_
          obtain rfl := Option.some.inj h
          exact G_joined sA (cv_sel [0] 1 rfl rfl)
        refine run ?_
        obtain rfl := Option.some.inj h
        exact endG1 rfl rfl (cv_sel [] 1 rfl rfl) ⟨rfl, rfl⟩
       ·replace h := cond_f g20 h
        refine run ?_
        refine G_cond rfl (fun g27 => ?_) (fun g27 => ?_)
        ·replace h := cond_t g27 h
         refine run ?_
         refine gR (rd_len 0 rfl els_sl rfl Tryz.underlying25) ?_
         refine run ?_
         obtain ⟨b28, hb28, h⟩ := bind_elim h
         refine G_segb 5 80 b28 ?_ ?_
         ·clear h
          refine G_case 75 rfl (fun g28 => ?_) (fun g28 => ?_)
          ·have h := cond_t g28 hb28
           refine run ?_
           obtain ⟨x29, hx29, h⟩ := bind_elim h
           obtain ⟨lx29, ux29, hx29⟩ := getE_elim hx29
           refine G_rd (rd_idx 0 rfl els_sl rfl rfl Tryz.underlying25 size38 lx29 ux29) rfl (g_tt g28 rfl) rfl ?_
           refine G_rd (rd_elemS (us := [iV x29.Kind, iV x29.N, .string x29.S]) 0 rfl els_sl rfl hx29 agg38 (fun _ _ _ h => by rw [show _ = _ from h]; rfl)) rfl (g_tt g28 rfl) rfl ?_
           obtain ⟨y30, hy30, h⟩ := bind_elim h
           refine G_opd (op_callR (cell_number_ok hy30) call165 rfl (mem_nil) cell_number_free) rfl (g_tt g28 rfl) rfl ?_
           rintro _ _ ⟨_, ⟨rfl, rfl⟩, rfl⟩
           refine run ?_
           obtain rfl := Option.some.inj h
           exact G_joined sA (cv_sel [0] 1 rfl rfl)
          ·have h := cond_f g28 hb28
           refine run ?_
           obtain rfl := Option.some.inj h
           exact G_joined sA (cv_sel [0] 1 rfl rfl)
         refine run ?_
         obtain ⟨b31, hb31, h⟩ := bind_elim h
         refine G_segb 5 86 b31 ?_ ?_
         ·clear h
          refine G_case 81 rfl (fun g31 => ?_) (fun g31 => ?_)
          ·have h := cond_t g31 hb31
           refine run ?_
           obtain ⟨x32, hx32, h⟩ := bind_elim h
           obtain ⟨lx32, ux32, hx32⟩ := getE_elim hx32
           refine G_rd (rd_idx 0 rfl els_sl rfl rfl Tryz.underlying25 size38 lx32 ux32) rfl (g_tt g31 rfl) rfl ?_
           refine G_rd (rd_elemS (us := [iV x32.Kind, iV x32.N, .string x32.S]) 0 rfl els_sl rfl hx32 agg38 (fun _ _ _ h => by rw [show _ = _ from h]; rfl)) rfl (g_tt g31 rfl) rfl ?_
           obtain ⟨y33, hy33, h⟩ := bind_elim h
           refine G_opd (op_callR (cell_number_ok hy33) call165 rfl (mem_nil) cell_number_free) rfl (g_tt g31 rfl) rfl ?_
           rintro _ _ ⟨_, ⟨rfl, rfl⟩, rfl⟩
           refine run ?_
           obtain rfl := Option.some.inj h
           exact G_joined sA (cv_sel [0] 1 rfl rfl)
          ·have h := cond_f g31 hb31
           refine run ?_
           obtain rfl := Option.some.inj h
           exact G_joined sA (cv_sel [0] 1 rfl rfl)
         refine run ?_
         obtain rfl := Option.some.inj h
         exact endG1 rfl rfl (cv_sel [] 1 rfl rfl) ⟨rfl, rfl⟩
        ·replace h := cond_f g27 h
         refine run ?_
         refine G_cond rfl (fun g34 => ?_) (fun g34 => ?_)
         ·replace h := cond_t g34 h
          refine run ?_
          obtain ⟨y35, hy35, h⟩ := bind_elim h
          refine gD (op_callR (cell_entriesRight_ok hy35) call166 rfl (mem_cons (lent_ro (i := 0) rfl rfl) mem_nil) cell_entriesRight_free) ?_
          rintro _ _ ⟨_, ⟨rfl, rfl⟩, rfl⟩
          refine run ?_
          obtain rfl := Option.some.inj h
          exact endG1 rfl rfl (cv_sel [] 1 rfl rfl) ⟨rfl, rfl⟩
         ·replace h := cond_f g34 h
          refine run ?_
          refine G_cond rfl (fun g36 => ?_) (fun g36 => ?_)
          ·replace h := cond_t g36 h
           refine run ?_
           refine gR (rd_len 0 rfl els_sl rfl Tryz.underlying25) ?_
           refine run ?_
           obtain ⟨b37, hb37, h⟩ := bind_elim h
           refine G_segb 6 102 b37 ?_ ?_
           ·clear h
            refine G_case 96 rfl (fun g37 => ?_) (fun g37 => ?_)
            ·have h := cond_t g37 hb37
             refine run ?_
             obtain ⟨x38, hx38, h⟩ := bind_elim h
             obtain ⟨lx38, ux38, hx38⟩ := getE_elim hx38
             refine G_rd (rd_idx 0 rfl els_sl rfl rfl Tryz.underlying25 size38 lx38 ux38) rfl (g_tt g37 rfl) rfl ?_
             refine G_rd (rd_fa0 0 rfl els_sl rfl (toNat_lt lx38 ux38) fa_38_0) rfl (g_tt g37 rfl) rfl ?_
             refine G_rd (rd_elem1 (u := iV x38.Kind) 0 rfl els_sl rfl hx38 one3 (fun _ _ _ h => by rw [show _ = _ from h]; rfl)) rfl (g_tt g37 rfl) rfl ?_
             refine run ?_
             obtain rfl := Option.some.inj h
             exact G_joined sA (cv_sel [0] 1 rfl rfl)
            ·have h := cond_f g37 hb37
             refine run ?_
             obtain rfl := Option.some.inj h
             exact G_joined sA (cv_sel [0] 1 rfl rfl)
           refine run ?_
           obtain ⟨b39, hb39, h⟩ := bind_elim h
           refine G_segb 4 107 b39 ?_ ?_
           ·clear h
            refine G_case 103 rfl (fun g39 => ?_) (fun g39 => ?_)
            ·have h := cond_t g39 hb39
             refine run ?_
             obtain ⟨q40, h⟩ := req_elim h
             refine G_cut 0 rfl (l := (1 : Int).toNat) (h := a1.length) q40.2.1 q40.2.2 ?_
             rintro A41 n41 c41 e41
             refine G_rd (rd_cutN 1 rfl e41 rfl Tryz.underlying25 size38 rfl (by rw [Int.toNat_of_nonneg q40.1]; rfl) q40.2.1) rfl (g_tt g39 rfl) rfl ?_
             obtain ⟨y42, hy42, h⟩ := bind_elim h
             refine G_opd (op_callR (cell_entriesRight_ok hy42) call166 rfl (mem_cons (lent_ro (i := 0) rfl rfl) mem_nil) cell_entriesRight_free) rfl (g_tt g39 rfl) rfl ?_
             rintro _ _ ⟨_, ⟨rfl, rfl⟩, rfl⟩
             refine run ?_
             obtain rfl := Option.some.inj h
             exact G_joined sA (cv_sel [1] 2 rfl rfl)
            ·have h := cond_f g39 hb39
             refine run ?_
             obtain rfl := Option.some.inj h
             exact G_joined sA (cv_sel [0] 1 rfl rfl)
           refine run ?_
           obtain rfl := Option.some.inj h
           exact endG1 rfl rfl (cv_sel [] 1 rfl rfl) ⟨rfl, rfl⟩
          ·replace h := cond_f g36 h
           refine run ?_
           refine G_cond rfl (fun g43 => ?_) (fun g43 => ?_)
           ·replace h := cond_t g43 h
            refine run ?_
            refine gR (rd_len 0 rfl els_sl rfl Tryz.underlying25) ?_
            refine run ?_
            obtain ⟨b44, hb44, h⟩ := bind_elim h
            refine G_segb 5 118 b44 ?_ ?_
            ·clear h
             refine G_case 113 rfl (fun g44 => ?_) (fun g44 => ?_)
             ·have h := cond_t g44 hb44
              refine run ?_
              obtain ⟨x45, hx45, h⟩ := bind_elim h
              obtain ⟨lx45, ux45, hx45⟩ := getE_elim hx45
              refine G_rd (rd_idx 0 rfl els_sl rfl rfl Tryz.underlying25 size38 lx45 ux45) rfl (g_tt g44 rfl) rfl ?_
              refine G_rd (rd_elemS (us := [iV x45.Kind, iV x45.N, .string x45.S]) 0 rfl els_sl rfl hx45 agg38 (fun _ _ _ h => by rw [show _ = _ from h]; rfl)) rfl (g_tt g44 rfl) rfl ?_
              obtain ⟨y46, hy46, h⟩ := bind_elim h
              refine G_opd (op_callR (cell_number_ok hy46) call165 rfl (mem_nil) cell_number_free) rfl (g_tt g44 rfl) rfl ?_
              rintro _ _ ⟨_, ⟨rfl, rfl⟩, rfl⟩
              refine run ?_
              obtain rfl := Option.some.inj h
              exact G_joined sA (cv_sel [0] 1 rfl rfl)
             ·have h := cond_f g44 hb44
              refine run ?_
              obtain rfl := Option.some.inj h
              exact G_joined sA (cv_sel [0] 1 rfl rfl)
            refine run ?_
            obtain rfl := Option.some.inj h
            exact endG1 rfl rfl (cv_sel [] 1 rfl rfl) ⟨rfl, rfl⟩
           ·replace h := cond_f g43 h
            refine run ?_
            obtain rfl := Option.some.inj h
            exact endG1 rfl rfl (cv_sel [] 1 rfl rfl) ⟨rfl, rfl⟩
theorem cell_moreRight_free {r : Bool} : ∀ v post, ((fun (u : Value) (post : List Chunk) => u = .bool r ∧ post = [])) v post → ∀ c ∈ post, Free c := by
 rintro _ _ ⟨rfl, rfl⟩; exact mem_nil
def cell_Right_b14 (N : Nat) (a0 : DCell) (x14 : Bool × DValue) : (Unit) → Option (Option Exit × Unit)
 |() => (cell_may_O N x14.2).bind fun y17 => bif !y17 then (some (some .ret, ())) else (some (none, ()))
def cell_Right_O (N : Nat) (a0 : DCell) : Option Bool :=
 (bif decide (a0.Kind < 1) then (some true) else (some (decide (11 < a0.Kind)))).bind fun b5 => (bif b5 then (some true) else (some (decide (a0.Shape < 0)))).bind fun b6 => (bif b6 then (some true) else (some (decide (a0.Flags < 0)))).bind fun b7 => (bif b7 then (some true) else (some (decide (63 < a0.Flags)))).bind fun b8 => (bif b8 then (some true) else ((bif !decide (a0.Age = 0) then (some (!decide (a0.Age = 1))) else (some false)).bind fun b10 => some b10)).bind fun b9 => bif b9 then (some false) else ((cell_all_O N a0).bind fun y12 => (cell_all_c1_O N a0 (liftR (fun x st => cell_Right_b14 N a0 x st)) (none, ())).bind fun y15 => caseX y15.1 ((cell_slotsRight_O N a0).bind fun y19 => (bif y19 then ((cell_moreRight_O N a0.Kind a0.More).bind fun y21 => some y21) else (some false)).bind fun b20 => some b20) (some false) (fun _ => none))
theorem cell_Right_ok {N : Nat} {a0 : DCell} {r : Bool} (h : cell_Right_O N a0 = some r) {A1 : Option Addr} {n1 c1 : Nat} {A2 : Option Addr} {n2 c2 : Nat} : Okc Tryz.prog 53 [.agg #[iV a0.Kind, iV a0.Shape, iV a0.Flags, iV a0.Age, .slice A1 n1 c1, .slice A2 n2 c2]] ([kS0 A1 n1 c1 a0.Slots, kS0 A2 n2 c2 a0.More]) (fun (u : Value) (post : List Chunk) => u = .bool r ∧ post = []) := by
 refine ok_E Tryz.func53 rfl rfl ?_
 simp only [envOf]
 refine run ?_
 refine gD (op_box rfl rfl) ?_
 rintro _ _ ⟨B3, rfl, rfl⟩
 refine gD (op_alloc zero4 rfl) ?_
 rintro _ _ ⟨B4, rfl, rfl⟩
 refine run ?_
 refine G_seq ?_
 refine run ?_
 obtain ⟨b5, hb5, h⟩ := bind_elim h
 refine G_segb 4 12 b5 ?_ ?_
 ·clear h
  refine G_case 8 rfl (fun g5 => ?_) (fun g5 => ?_)
  ·have h := cond_t g5 hb5
   refine run ?_
   obtain rfl := Option.some.inj h
   exact G_joined sA (cv_sel [0, 1, 2, 3] 4 rfl rfl)
  ·have h := cond_f g5 hb5
   refine run ?_
   obtain rfl := Option.some.inj h
   exact G_joined sA (cv_sel [0, 1, 2, 3] 4 rfl rfl)
 refine run ?_
 obtain ⟨b6, hb6, h⟩ := bind_elim h
 refine G_segb 4 17 b6 ?_ ?_
 ·clear h
  refine G_case 13 rfl (fun g6 => ?_) (fun g6 => ?_)
  ·have h := cond_t g6 hb6
   refine run ?_
   obtain rfl := Option.some.inj h
   exact G_joined sA (cv_sel [0, 1, 2, 3] 4 rfl rfl)
  ·have h := cond_f g6 hb6
   refine run ?_
   obtain rfl := Option.some.inj h
   exact G_joined sA (cv_sel [0, 1, 2, 3] 4 rfl rfl)
 refine run ?_
 obtain ⟨b7, hb7, h⟩ := bind_elim h
 refine G_segb 4 22 b7 ?_ ?_
 ·clear h
  refine G_case 18 rfl (fun g7 => ?_) (fun g7 => ?_)
  ·have h := cond_t g7 hb7
   refine run ?_
   obtain rfl := Option.some.inj h
   exact G_joined sA (cv_sel [0, 1, 2, 3] 4 rfl rfl)
  ·have h := cond_f g7 hb7
   refine run ?_
   obtain rfl := Option.some.inj h
   exact G_joined sA (cv_sel [0, 1, 2, 3] 4 rfl rfl)
 refine run ?_
 obtain ⟨b8, hb8, h⟩ := bind_elim h
 refine G_segb 4 27 b8 ?_ ?_
 ·clear h
  refine G_case 23 rfl (fun g8 => ?_) (fun g8 => ?_)
  ·have h := cond_t g8 hb8
   refine run ?_
   obtain rfl := Option.some.inj h
   exact G_joined sA (cv_sel [0, 1, 2, 3] 4 rfl rfl)
  ·have h := cond_f g8 hb8
   refine run ?_
   obtain rfl := Option.some.inj h
   exact G_joined sA (cv_sel [0, 1, 2, 3] 4 rfl rfl)
 refine run ?_
 obtain ⟨b9, hb9, h⟩ := bind_elim h
 refine G_segb 9 37 b9 ?_ ?_
 ·clear h
  refine G_case 28 rfl (fun g9 => ?_) (fun g9 => ?_)
  ·have h := cond_t g9 hb9
   refine run ?_
   obtain rfl := Option.some.inj h
   exact G_joined sA (cv_sel [0, 1, 2, 3] 4 rfl rfl)
  ·have h := cond_f g9 hb9
   refine run ?_
   obtain ⟨b10, hb10, h⟩ := bind_elim h
   refine G_segb 4 36 b10 ?_ ?_
   ·clear h
    refine G_case 32 rfl (fun g10 => ?_) (fun g10 => ?_)
    ·have h := cond_t g10 hb10
     refine run ?_
     obtain rfl := Option.some.inj h
     exact G_joined sA (cv_sel [0, 1, 2, 3] 4 rfl rfl)
    ·have h := cond_f g10 hb10
     refine run ?_
     obtain rfl := Option.some.inj h
     exact G_joined sA (cv_sel [0, 1, 2, 3] 4 rfl rfl)
   refine run ?_
   obtain rfl := Option.some.inj h
   exact G_joined sA (cv_sel [0, 1, 2, 3] 4 rfl rfl)
 refine run ?_
 refine G_cond rfl (fun g11 => ?_) (fun g11 => ?_)
 ·replace h := cond_t g11 h
  refine run ?_
  refine gO (op_store (us := [.bool false]) (cs' := [.bool false]) 0 rfl rfl rfl rfl size4 rfl rfl rfl) ?_
  rintro _ _ rfl
  refine run ?_
  obtain rfl := Option.some.inj h
  exact endGl (rs := [.cell 2 4]) (vs := [.bool false]) rfl (.cons (rv_box1 0 rfl rfl one4) .nil) rfl (cv_sel [] 4 rfl rfl) ⟨rfl, rfl⟩
 ·replace h := cond_f g11 h
  refine run ?_
  refine G_seq ?_
  refine run ?_
  refine gR (rd_boxS (us := [iV a0.Kind, iV a0.Shape, iV a0.Flags, iV a0.Age, .slice A1 n1 c1, .slice A2 n2 c2]) 1 rfl rfl agg32 rfl) ?_
  obtain ⟨y12, hy12, h⟩ := bind_elim h
  refine gD (op_callR (cell_all_ok hy12) call109 rfl (mem_cons (lent_ro (i := 2) rfl rfl) (mem_cons (lent_ro (i := 3) rfl rfl) mem_nil)) cell_all_free) ?_
  rintro _ _ ⟨_, ⟨B13, rfl, rfl⟩, rfl⟩
  refine G_nil ?_
  refine nx_n ?_
  refine G_sub ?_ sub_refl (cv_frzbox 0 rfl)
  obtain ⟨y15, hy15, h⟩ := bind_elim h
  refine G_rangeX (en := (fun x => [.bool x.1, .agg #[iV x.2.Kind, iV x.2.N, .string x.2.S]])) (fun x st => cell_Right_b14 N a0 x st) (fun (st : Unit) (mz : Unit) => [kS0 A1 n1 c1 a0.Slots, kS0 A2 n2 c2 a0.More, boxC B3 32 [iV a0.Kind, iV a0.Shape, iV a0.Flags, iV a0.Age, .slice A1 n1 c1, .slice A2 n2 c2], boxC B4 4 [.bool false]]) [rboxC B13 32 [iV a0.Kind, iV a0.Shape, iV a0.Flags, iV a0.Age, .slice A1 n1 c1, .slice A2 n2 c2], kS0 A1 n1 c1 a0.Slots, kS0 A2 n2 c2 a0.More] (()) (()) rfl rfl call162 rfl (fun _ => rfl) (fun l G hY => (cell_all_c1_ok hy15 hY).mono fun _ _ hh => hh.2) (cv_take [0, 3, 4] [] [3, 4, 2, 1] 5 rfl) h ?_ ?_ ?_ ?_
  ·rintro l x14 _ je sr14 _ h
   replace h : cell_Right_b14 N a0 x14 () = some (je, sr14) := h
   simp only [envR, List.zip_cons_cons, List.zip_nil_left, List.zip_nil_right, List.reverse_cons, List.reverse_nil, List.nil_append, List.cons_append]
   refine G_region ?_
   refine gD (op_alloc zero38 rfl) ?_
   rintro _ _ ⟨B16, rfl, rfl⟩
   refine gO (op_store (us := [iV x14.2.Kind, iV x14.2.N, .string x14.2.S]) (cs' := [iV x14.2.Kind, iV x14.2.N, .string x14.2.S]) 0 rfl rfl rfl rfl size38 rfl rfl rfl) ?_
   rintro _ _ rfl
   refine G_norm ([boxC B16 38 [iV x14.2.Kind, iV x14.2.N, .string x14.2.S], kS0 A1 n1 c1 a0.Slots, kS0 A2 n2 c2 a0.More, boxC B3 32 [iV a0.Kind, iV a0.Shape, iV a0.Flags, iV a0.Age, .slice A1 n1 c1, .slice A2 n2 c2], boxC B4 4 [.bool false]]) rfl ?_
   refine run ?_
   refine gR (rd_boxS (us := [iV x14.2.Kind, iV x14.2.N, .string x14.2.S]) 0 rfl rfl agg38 rfl) ?_
   obtain ⟨y17, hy17, h⟩ := bind_elim h
   refine gD (op_callR (cell_may_ok hy17) call110 rfl (mem_nil) cell_may_free) ?_
   rintro _ _ ⟨_, ⟨rfl, rfl⟩, rfl⟩
   refine run ?_
   refine G_cond rfl (fun g18 => ?_) (fun g18 => ?_)
   ·replace h := cond_t g18 h
    refine run ?_
    refine gO (op_store (us := [.bool false]) (cs' := [.bool false]) 4 rfl rfl rfl rfl size4 rfl rfl rfl) ?_
    rintro _ _ rfl
    refine run ?_
    obtain ⟨rfl, rfl⟩ := Prod.mk.inj (Option.some.inj h)
    exact RK_ret ((cv_sel [1, 2, 3, 4] 5 rfl rfl).trans (cv_pack1 () rfl))
   ·replace h := cond_f g18 h
    refine run ?_
    obtain ⟨rfl, rfl⟩ := Prod.mk.inj (Option.some.inj h)
    exact RK_n ((cv_sel [1, 2, 3, 4] 5 rfl rfl).trans (cv_pack1 () rfl))
  ·rintro _ h
   refine K3_norm ([kS0 A1 n1 c1 a0.Slots, kS0 A2 n2 c2 a0.More, boxC B3 32 [iV a0.Kind, iV a0.Shape, iV a0.Flags, iV a0.Age, .slice A1 n1 c1, .slice A2 n2 c2], boxC B4 4 [.bool false]]) rfl ?_
   refine run ?_
   refine gR (rd_boxS (us := [iV a0.Kind, iV a0.Shape, iV a0.Flags, iV a0.Age, .slice A1 n1 c1, .slice A2 n2 c2]) 2 rfl rfl agg32 rfl) ?_
   obtain ⟨y19, hy19, h⟩ := bind_elim h
   refine gD (op_callR (cell_slotsRight_ok hy19) call111 rfl (mem_cons (lent_ro (i := 0) rfl rfl) (mem_cons (lent_ro (i := 1) rfl rfl) mem_nil)) cell_slotsRight_free) ?_
   rintro _ _ ⟨_, ⟨rfl, rfl⟩, rfl⟩
   refine run ?_
   obtain ⟨b20, hb20, h⟩ := bind_elim h
   refine G_segb 6 53 b20 ?_ ?_
   ·clear h
    refine G_case 47 rfl (fun g20 => ?_) (fun g20 => ?_)
    ·have h := cond_t g20 hb20
     refine run ?_
     obtain ⟨y21, hy21, h⟩ := bind_elim h
     refine G_opd (op_callR (cell_moreRight_ok hy21) call112 rfl (mem_cons (lent_ro (i := 1) rfl rfl) mem_nil) cell_moreRight_free) rfl (g_tt g20 rfl) rfl ?_
     rintro _ _ ⟨_, ⟨rfl, rfl⟩, rfl⟩
     refine run ?_
     obtain rfl := Option.some.inj h
     exact G_joined sA (cv_sel [0, 1, 2, 3] 4 rfl rfl)
    ·have h := cond_f g20 hb20
     refine run ?_
     obtain rfl := Option.some.inj h
     exact G_joined sA (cv_sel [0, 1, 2, 3] 4 rfl rfl)
   refine gO (op_store (us := [.bool b20]) (cs' := [.bool b20]) 3 rfl rfl rfl rfl size4 rfl rfl rfl) ?_
   rintro _ _ rfl
   refine run ?_
   obtain rfl := Option.some.inj h
   exact endGl (rs := [.cell 2 4]) (vs := [.bool b20]) rfl (.cons (rv_box1 3 rfl rfl one4) .nil) rfl (cv_sel [] 4 rfl rfl) ⟨rfl, rfl⟩
  ·rintro _ h
   refine K3_norm ([kS0 A1 n1 c1 a0.Slots, kS0 A2 n2 c2 a0.More, boxC B3 32 [iV a0.Kind, iV a0.Shape, iV a0.Flags, iV a0.Age, .slice A1 n1 c1, .slice A2 n2 c2], boxC B4 4 [.bool false]]) rfl ?_
   refine run ?_
   obtain rfl := Option.some.inj h
   exact endGl (rs := [.cell 2 4]) (vs := [.bool false]) rfl (.cons (rv_box1 3 rfl rfl one4) .nil) rfl (cv_sel [] 4 rfl rfl) ⟨rfl, rfl⟩
  ·rintro i _ h
   exact none_some h
theorem cell_Right_free {r : Bool} : ∀ v post, ((fun (u : Value) (post : List Chunk) => u = .bool r ∧ post = [])) v post → ∀ c ∈ post, Free c := by
 rintro _ _ ⟨rfl, rfl⟩; exact mem_nil
def weak_is_O (N : Nat) (a0 : DCell) : Option Bool :=
 (bif decide (a0.Kind = 8) then ((cell_Right_O N a0).bind fun y5 => some y5) else (some false)).bind fun b4 => some b4
theorem weak_is_ok {N : Nat} {a0 : DCell} {r : Bool} (h : weak_is_O N a0 = some r) {A1 : Option Addr} {n1 c1 : Nat} {A2 : Option Addr} {n2 c2 : Nat} : Okc Tryz.prog 132 [.agg #[iV a0.Kind, iV a0.Shape, iV a0.Flags, iV a0.Age, .slice A1 n1 c1, .slice A2 n2 c2]] ([kS0 A1 n1 c1 a0.Slots, kS0 A2 n2 c2 a0.More]) (fun (u : Value) (post : List Chunk) => u = .bool r ∧ post = []) := by
 refine ok_E Tryz.func132 rfl rfl ?_
 simp only [envOf]
 refine run ?_
 refine gD (op_box rfl rfl) ?_
 rintro _ _ ⟨B3, rfl, rfl⟩
 refine run ?_
 obtain ⟨b4, hb4, h⟩ := bind_elim h
 refine G_segb 3 9 b4 ?_ ?_
 ·clear h
  refine G_case 6 rfl (fun g4 => ?_) (fun g4 => ?_)
  ·have h := cond_t g4 hb4
   refine G_rd (rd_boxS (us := [iV a0.Kind, iV a0.Shape, iV a0.Flags, iV a0.Age, .slice A1 n1 c1, .slice A2 n2 c2]) 0 rfl rfl agg32 rfl) rfl (g_tt g4 rfl) rfl ?_
   obtain ⟨y5, hy5, h⟩ := bind_elim h
   refine G_opd (op_callR (cell_Right_ok hy5) call53 rfl (mem_cons (lent_ro (i := 1) rfl rfl) (mem_cons (lent_ro (i := 2) rfl rfl) mem_nil)) cell_Right_free) rfl (g_tt g4 rfl) rfl ?_
   rintro _ _ ⟨_, ⟨rfl, rfl⟩, rfl⟩
   refine run ?_
   obtain rfl := Option.some.inj h
   exact G_joined sA (cv_sel [0, 1, 2] 3 rfl rfl)
  ·have h := cond_f g4 hb4
   refine run ?_
   obtain rfl := Option.some.inj h
   exact G_joined sA (cv_sel [0, 1, 2] 3 rfl rfl)
 refine run ?_
 obtain rfl := Option.some.inj h
 exact endG1 rfl rfl (cv_sel [] 3 rfl rfl) ⟨rfl, rfl⟩
theorem weak_is_free {r : Bool} : ∀ v post, ((fun (u : Value) (post : List Chunk) => u = .bool r ∧ post = [])) v post → ∀ c ∈ post, Free c := by
 rintro _ _ ⟨rfl, rfl⟩; exact mem_nil
def weak_entries_c1_l4 (N : Nat) {σ : Type} (fy : (DValue × DValue) → σ → Option (Bool × σ)) (a1 : DCell) : Nat → Int → σ → Option σ
 | 0, _, _ => none
 | m4 + 1, p5, p6 => req (in64 (p5 + 1)) (bif decide (p5 + 1 < (a1.More.length : Int)) then ((getE a1.More p5).bind fun x9 => req (in64 (p5 + 1)) ((getE a1.More (p5 + 1)).bind fun x11 => (fy (x9, x11) p6).bind fun y12 => bif !y12.1 then (some y12.2) else (req (in64 (p5 + 2)) ((weak_entries_c1_l4 N fy a1 m4) (p5 + 2) y12.2)))) else (some p6))
theorem weak_entries_c1_l4_s {N m4 : Nat} {σ : Type} {fy : (DValue × DValue) → σ → Option (Bool × σ)} {a1 : DCell} {p5 : Int} {p6 : σ} : weak_entries_c1_l4 N fy a1 (m4 + 1) p5 p6 = req (in64 (p5 + 1)) (bif decide (p5 + 1 < (a1.More.length : Int)) then ((getE a1.More p5).bind fun x9 => req (in64 (p5 + 1)) ((getE a1.More (p5 + 1)).bind fun x11 => (fy (x9, x11) p6).bind fun y12 => bif !y12.1 then (some y12.2) else (req (in64 (p5 + 2)) ((weak_entries_c1_l4 N fy a1 m4) (p5 + 2) y12.2)))) else (some p6)) := rfl
def weak_entries_c1_O (N : Nat) {σ : Type} (a1 : DCell) (fy : (DValue × DValue) → σ → Option (Bool × σ)) (s0 : σ) : Option σ :=
 weak_entries_c1_l4 N fy a1 N 0 s0
theorem weak_entries_c1_ok {N : Nat} {σ : Type} {a1 : DCell} {fy : (DValue × DValue) → σ → Option (Bool × σ)} {s0 : σ} {r : σ} (h : weak_entries_c1_O N a1 fy s0 = some r) {B1 : Nat} {A2 : Option Addr} {n2 c2 : Nat} {A3 : Option Addr} {n3 c3 : Nat} {l : Nat} {G : σ → List Chunk} (hY : YieldOk Tryz.prog l G (fun x => [.agg #[iV x.1.Kind, iV x.1.N, .string x.1.S], .agg #[iV x.2.Kind, iV x.2.N, .string x.2.S]]) fy) : Okc Tryz.prog 198 [.func (.yield l) #[] #[], pV B1 0] (rboxC B1 32 [iV a1.Kind, iV a1.Shape, iV a1.Flags, iV a1.Age, .slice A2 n2 c2, .slice A3 n3 c3] :: kS0 A2 n2 c2 a1.Slots :: kS0 A3 n3 c3 a1.More :: (G s0)) (fun (u : Value) (post : List Chunk) => u = .tuple #[] ∧ post = G r) := by
 refine ok_E Tryz.func198 rfl rfl ?_
 simp only [envOf]
 refine run ?_
 refine G_loopF (fun m s L => ∃ (p5 : Int) (p6 : σ), weak_entries_c1_l4 N fy a1 m p5 p6 = some r ∧ s = [(0, .func (.yield l) #[] #[]), (1, pV B1 0), (3, iV p5)] ∧ L = kS0 A2 n2 c2 a1.Slots :: kS0 A3 n3 c3 a1.More :: rboxC B1 32 [iV a1.Kind, iV a1.Shape, iV a1.Flags, iV a1.Age, .slice A2 n2 c2, .slice A3 n3 c3] :: (G p6)) N _ _ ⟨0, s0, h, rfl, rfl⟩ sA (cv_sel [1, 2, 0] 3 rfl rfl) ?_
 rintro (_ | m4) _ _ ⟨p5, p6, h, rfl, rfl⟩
 ·exact none_some h
 rw [weak_entries_c1_l4_s] at h
 refine G_seq ?_
 refine run ?_
 obtain ⟨q7, h⟩ := req_elim h
 refine gE (ev_add rfl rfl q7.1 q7.2) ?_
 refine run ?_
 refine gR (rd_rbox1 2 rfl rfl one25 rfl) ?_
 refine gR (rd_len 1 rfl els_sl rfl Tryz.underlying25) ?_
 refine run ?_
 refine G_cond rfl (fun g8 => ?_) (fun g8 => ?_)
 ·replace h := cond_t g8 h
  refine run ?_
  refine G_seq ?_
  refine G_block ?_
  refine G_seq ?_
  obtain ⟨x9, hx9, h⟩ := bind_elim h
  obtain ⟨lx9, ux9, hx9⟩ := getE_elim hx9
  obtain ⟨q10, h⟩ := req_elim h
  obtain ⟨x11, hx11, h⟩ := bind_elim h
  obtain ⟨lx11, ux11, hx11⟩ := getE_elim hx11
  refine G_sub (t := [(0, .func (.yield l) #[] #[]), (1, pV B1 0), (3, iV p5)]) ?_ subT (cv_refl _)
  refine G_monoX (by kernel_rfl) 12 [] [0, 5, 11] [12, 13, 14, 15, 16, 17, 18, 19, 20, 21, 22, 23] [[], [], [1], [], [2, 3], [4], [], [6], [], [8], [7, 9], [10]] [aV (.func (.yield l) #[] #[]),
 aV (pV B1 5),
 aV (.slice A3 n3 c3),
 aV (iV p5),
 aV (elemQ (.slice A3 n3 c3) p5.toNat 3 0),
 aV (.agg #[iV x9.Kind, iV x9.N, .string x9.S]),
 aV (pV B1 5),
 aV (.slice A3 n3 c3),
 aV (iV p5),
 aV (iV (p5 + 1)),
 aV (elemQ (.slice A3 n3 c3) ((p5 + 1).toNat) 3 0),
 aV (.agg #[iV x11.Kind, iV x11.N, .string x11.S])] [] (cv_refl _) (qB_nil) (by kernel_rfl) rfl rfl ?_ ?_ ?_
  ·exact qs_nil
  ·refine steps_cons rfl ?_ ?_
   ·exact X_rd (rd_elemS (us := [iV x11.Kind, iV x11.N, .string x11.S]) 1 rfl els_sl rfl hx11 agg38 (fun _ _ _ h => by rw [show _ = _ from h]; rfl)) rfl (cvpV rfl (cv_refl _))
   refine steps_cons rfl ?_ ?_
   ·exact X_rd (rd_idx 1 rfl els_sl rfl rfl Tryz.underlying25 size38 lx11 ux11) rfl (cvpV rfl (cv_refl _))
   refine steps_cons rfl ?_ ?_
   ·exact X_ev (ev_add rfl rfl q10.1 q10.2) rfl (cvpV rfl (cv_refl _))
   refine steps_cons rfl ?_ ?_
   ·exact X_ev (ev_move rfl) rfl (cvpV rfl (cv_refl _))
   refine steps_cons rfl ?_ ?_
   ·exact X_rd (rd_rbox1 2 rfl rfl one25 rfl) rfl (cvpV rfl (cv_refl _))
   refine steps_cons rfl ?_ ?_
   ·exact X_ev (ev_fa rfl fa_32_5) rfl (cvpV rfl (cv_refl _))
   refine steps_cons rfl ?_ ?_
   ·exact X_rd (rd_elemS (us := [iV x9.Kind, iV x9.N, .string x9.S]) 1 rfl els_sl rfl hx9 agg38 (fun _ _ _ h => by rw [show _ = _ from h]; rfl)) rfl (cvpV rfl (cv_refl _))
   refine steps_cons rfl ?_ ?_
   ·exact X_rd (rd_idx 1 rfl els_sl rfl rfl Tryz.underlying25 size38 lx9 ux9) rfl (cvpV rfl (cv_refl _))
   refine steps_cons rfl ?_ ?_
   ·exact X_ev (ev_move rfl) rfl (cvpV rfl (cv_refl _))
   refine steps_cons rfl ?_ ?_
   ·exact X_rd (rd_rbox1 2 rfl rfl one25 rfl) rfl (cvpV rfl (cv_refl _))
   refine steps_cons rfl ?_ ?_
   ·exact X_ev (ev_fa rfl fa_32_5) rfl (cvpV rfl (cv_refl _))
   refine steps_cons rfl ?_ ?_
   ·exact X_ev (ev_move rfl) rfl (cvpV rfl (cv_refl _))
   exact steps_nil
  ·refine N_sub (t := [(12, .func (.yield l) #[] #[]), (17, .agg #[iV x9.Kind, iV x9.N, .string x9.S]), (23, .agg #[iV x11.Kind, iV x11.N, .string x11.S]), (0, .func (.yield l) #[] #[]), (1, pV B1 0), (3, iV p5)]) (L' := kS0 A2 n2 c2 a1.Slots :: kS0 A3 n3 c3 a1.More :: rboxC B1 32 [iV a1.Kind, iV a1.Shape, iV a1.Flags, iV a1.Age, .slice A2 n2 c2, .slice A3 n3 c3] :: (G p6)) ?_ subT (cv_refl _)
   obtain ⟨y12, hy12, h⟩ := bind_elim h
   refine N_opd 12 rfl (by kernel_rfl) (op_yieldE (a := (x9, x11)) [kS0 A2 n2 c2 a1.Slots, kS0 A3 n3 c3 a1.More, rboxC B1 32 [iV a1.Kind, iV a1.Shape, iV a1.Flags, iV a1.Age, .slice A2 n2 c2, .slice A3 n3 c3]] hY hy12 rfl rfl) rfl rfl rfl ?_
   rintro _ _ ⟨rfl, rfl⟩
   refine N_ev 13 rfl (by kernel_rfl) (ev_not rfl) rfl rfl rfl ?_
   refine N_done (by kernel_rfl) ?_
   refine nx_n ?_
   refine G_cond rfl (fun g13 => ?_) (fun g13 => ?_)
   ·replace h := cond_t g13 h
    refine run ?_
    obtain rfl := Option.some.inj h
    exact endG0 rfl (cv_sel [] 3 rfl rfl) ⟨rfl, rfl⟩
   ·replace h := cond_f g13 h
    refine run ?_
    obtain ⟨q14, h⟩ := req_elim h
    refine gE (ev_add rfl rfl q14.1 q14.2) ?_
    refine run ?_
    exact ⟨m4, _, _, Nat.lt_succ_self _, ⟨p5 + 2, y12.2, h, rfl, rfl⟩, sA, cv_sel [0, 1, 2] 3 rfl rfl⟩
 ·replace h := cond_f g8 h
  refine run ?_
  obtain rfl := Option.some.inj h
  exact endG0n rfl (cv_sel [] 3 rfl rfl) ⟨rfl, rfl⟩
def weak_entries_O (N : Nat) (a0 : DCell) : Option Unit :=
 some ()
theorem weak_entries_ok {N : Nat} {a0 : DCell} {r : Unit} (h : weak_entries_O N a0 = some r) {A1 : Option Addr} {n1 c1 : Nat} {A2 : Option Addr} {n2 c2 : Nat} : Okc Tryz.prog 179 [.agg #[iV a0.Kind, iV a0.Shape, iV a0.Flags, iV a0.Age, .slice A1 n1 c1, .slice A2 n2 c2]] ([kS0 A1 n1 c1 a0.Slots, kS0 A2 n2 c2 a0.More]) (fun (u : Value) (post : List Chunk) => ∃ B900, u = .func (.func 198) #[] #[pV B900 0] ∧ post = [boxC B900 32 [iV a0.Kind, iV a0.Shape, iV a0.Flags, iV a0.Age, .slice A1 n1 c1, .slice A2 n2 c2]]) := by
 refine ok_E Tryz.func179 rfl rfl ?_
 simp only [envOf]
 refine run ?_
 refine gD (op_box rfl rfl) ?_
 rintro _ _ ⟨B3, rfl, rfl⟩
 refine run ?_
 refine gE (ev_makeFunc rfl) ?_
 refine run ?_
 obtain rfl := Option.some.inj h
 exact endG1 rfl rfl (cv_sel [0] 3 rfl rfl) ⟨_, rfl, rfl⟩
theorem weak_entries_free {a0 : DCell} {A1 : Option Addr} {n1 : Nat} {c1 : Nat} {A2 : Option Addr} {n2 : Nat} {c2 : Nat} : ∀ v post, ((fun (u : Value) (post : List Chunk) => ∃ B900, u = .func (.func 198) #[] #[pV B900 0] ∧ post = [boxC B900 32 [iV a0.Kind, iV a0.Shape, iV a0.Flags, iV a0.Age, .slice A1 n1 c1, .slice A2 n2 c2]])) v post → ∀ c ∈ post, Free c := by
 rintro _ _ ⟨_, rfl, rfl⟩; exact mem_cons free_box (mem_nil)
def slices_Index_j2 (N : Nat) : Option Int :=
 some (-1)
def slices_Index_l3 (N : Nat) (a1 : Int) (a0 : (List Int)) : Nat → Int → Option Int
 | 0, _ => none
 | m3 + 1, p4 => bif decide (p4 < (a0.length : Int)) then ((getE a0 p4).bind fun x6 => bif decide (a1 = x6) then (some p4) else (req (in64 (p4 + 1)) ((slices_Index_l3 N a1 a0 m3) (p4 + 1)))) else (slices_Index_j2 N)
theorem slices_Index_l3_s {N m3 : Nat} {a1 : Int} {a0 : (List Int)} {p4 : Int} : slices_Index_l3 N a1 a0 (m3 + 1) p4 = bif decide (p4 < (a0.length : Int)) then ((getE a0 p4).bind fun x6 => bif decide (a1 = x6) then (some p4) else (req (in64 (p4 + 1)) ((slices_Index_l3 N a1 a0 m3) (p4 + 1)))) else (slices_Index_j2 N) := rfl
def slices_Index_O (N : Nat) (a0 : (List Int)) (a1 : Int) : Option Int :=
 slices_Index_l3 N a1 a0 N 0
theorem slices_Index_ok {N : Nat} {a0 : (List Int)} {a1 : Int} {r : Int} (h : slices_Index_O N a0 a1 = some r) {A1 : Option Addr} {n1 c1 : Nat} : Okc Tryz.prog 159 [.slice A1 n1 c1, iV a1] ([kS5 A1 n1 c1 a0]) (fun (u : Value) (post : List Chunk) => u = iV r ∧ post = []) := by
 refine ok_E Tryz.func159 rfl rfl ?_
 simp only [envOf]
 refine run ?_
 refine G_joinF (fun s L => slices_Index_j2 N = some r ∧ s = [(4, iV 0)] ∧ L = []) ?_ ?_
 ·refine run ?_
  refine gR (rd_len 0 rfl els_sl rfl Tryz.underlying35) ?_
  refine run ?_
  refine G_loopF (fun m s L => ∃ (p4 : Int), slices_Index_l3 N a1 a0 m p4 = some r ∧ s = [(0, .slice A1 n1 c1), (1, iV a1), (4, iV 0), (7, iV (a0.length : Int)), (8, iV p4)] ∧ L = [kS5 A1 n1 c1 a0]) N _ _ ⟨0, h, rfl, rfl⟩ sA (cv_sel [0] 1 rfl rfl) ?_
  rintro (_ | m3) _ _ ⟨p4, h, rfl, rfl⟩
  ·exact none_some h
  rw [slices_Index_l3_s] at h
  refine run ?_
  refine G_seq ?_
  refine G_cond rfl (fun g5 => ?_) (fun g5 => ?_)
  ·replace h := cond_t g5 h
   refine run ?_
   refine G_seq ?_
   refine run ?_
   obtain ⟨x6, hx6, h⟩ := bind_elim h
   obtain ⟨lx6, ux6, hx6⟩ := getE_elim hx6
   refine gR (rd_idx 0 rfl els_sl rfl rfl Tryz.underlying35 size3 lx6 ux6) ?_
   refine gR (rd_elem1 (u := iV x6) 0 rfl els_sl rfl hx6 one3 (fun _ _ _ h => by rw [show _ = _ from h]; rfl)) ?_
   refine run ?_
   refine G_cond rfl (fun g7 => ?_) (fun g7 => ?_)
   ·replace h := cond_t g7 h
    refine run ?_
    obtain rfl := Option.some.inj h
    exact endG1 rfl rfl (cv_sel [] 1 rfl rfl) ⟨rfl, rfl⟩
   ·replace h := cond_f g7 h
    refine run ?_
    obtain ⟨q8, h⟩ := req_elim h
    refine gE (ev_add rfl rfl q8.1 q8.2) ?_
    refine run ?_
    exact ⟨m3, _, _, Nat.lt_succ_self _, ⟨p4 + 1, h, rfl, rfl⟩, sA, cv_sel [0] 1 rfl rfl⟩
  ·replace h := cond_f g5 h
   refine run ?_
   exact ⟨_, _, ⟨h, rfl, rfl⟩, sA, cv_sel [] 1 rfl rfl⟩
 ·rintro _ _ ⟨h, rfl, rfl⟩
  refine run ?_
  obtain rfl := Option.some.inj h
  exact endG1 rfl rfl (cv_sel [] 0 rfl rfl) ⟨rfl, rfl⟩
theorem slices_Index_free {r : Int} : ∀ v post, ((fun (u : Value) (post : List Chunk) => u = iV r ∧ post = [])) v post → ∀ c ∈ post, Free c := by
 rintro _ _ ⟨rfl, rfl⟩; exact mem_nil
def slices_Contains_O (N : Nat) (a0 : (List Int)) (a1 : Int) : Option Bool :=
 (slices_Index_O N a0 a1).bind fun y2 => some (decide (0 ≤ y2))
theorem slices_Contains_ok {N : Nat} {a0 : (List Int)} {a1 : Int} {r : Bool} (h : slices_Contains_O N a0 a1 = some r) {A1 : Option Addr} {n1 c1 : Nat} : Okc Tryz.prog 101 [.slice A1 n1 c1, iV a1] ([kS5 A1 n1 c1 a0]) (fun (u : Value) (post : List Chunk) => u = .bool r ∧ post = []) := by
 refine ok_E Tryz.func101 rfl rfl ?_
 simp only [envOf]
 refine run ?_
 obtain ⟨y2, hy2, h⟩ := bind_elim h
 refine gD (op_callR (slices_Index_ok hy2) call159 rfl (mem_cons (lent_ro (i := 0) rfl rfl) mem_nil) slices_Index_free) ?_
 rintro _ _ ⟨_, ⟨rfl, rfl⟩, rfl⟩
 refine run ?_
 obtain rfl := Option.some.inj h
 exact endG1 rfl rfl (cv_sel [] 1 rfl rfl) ⟨rfl, rfl⟩
theorem slices_Contains_free {r : Bool} : ∀ v post, ((fun (u : Value) (post : List Chunk) => u = .bool r ∧ post = [])) v post → ∀ c ∈ post, Free c := by
 rintro _ _ ⟨rfl, rfl⟩; exact mem_nil
def weak_Opens_b12 (N : Nat) (a1 : (List Int)) (x12 : DValue × DValue) : ((List Int)) → Option (Option Exit × (List Int))
 | p13 => (bif decide (x12.2.Kind = 7) then (some true) else (some (decide (x12.2.Kind = 9)))).bind fun b18 => (bif b18 then ((slices_Contains_O N a1 x12.1.N).bind fun y20 => some y20) else (some false)).bind fun b19 => bif b19 then (req (fitsL (p13.length + ([x12.2.N] : List Int).length)) (some (none, p13 ++ ([x12.2.N] : List Int)))) else (some (none, p13))
def weak_Opens_O (N : Nat) (a0 : DCell) (a1 : (List Int)) : Option (List Int) :=
 (weak_is_O N a0).bind fun y6 => bif !y6 then (some []) else ((weak_entries_O N a0).bind fun y10 => (weak_entries_c1_O N a0 (liftR (fun x st => weak_Opens_b12 N a1 x st)) (none, [])).bind fun y14 => caseX y14.1 (some y14.2) none (fun _ => none))
theorem weak_Opens_ok {N : Nat} {a0 : DCell} {a1 : (List Int)} {r : (List Int)} (h : weak_Opens_O N a0 a1 = some r) {A1 : Option Addr} {n1 c1 : Nat} {A2 : Option Addr} {n2 c2 : Nat} {A3 : Option Addr} {n3 c3 : Nat} : Okc Tryz.prog 122 [.agg #[iV a0.Kind, iV a0.Shape, iV a0.Flags, iV a0.Age, .slice A1 n1 c1, .slice A2 n2 c2], .slice A3 n3 c3] ([kS0 A1 n1 c1 a0.Slots, kS0 A2 n2 c2 a0.More, kS5 A3 n3 c3 a1]) (fun (u : Value) (post : List Chunk) => ∃ A0 n0 c0, u = .slice A0 n0 c0 ∧ post = [kO2 A0 n0 c0 r]) := by
 refine ok_E Tryz.func122 rfl rfl ?_
 simp only [envOf]
 refine run ?_
 refine gD (op_box rfl rfl) ?_
 rintro _ _ ⟨B4, rfl, rfl⟩
 refine gD (op_box rfl rfl) ?_
 rintro _ _ ⟨B5, rfl, rfl⟩
 refine run ?_
 refine G_seq ?_
 refine run ?_
 refine gR (rd_boxS (us := [iV a0.Kind, iV a0.Shape, iV a0.Flags, iV a0.Age, .slice A1 n1 c1, .slice A2 n2 c2]) 1 rfl rfl agg32 rfl) ?_
 obtain ⟨y6, hy6, h⟩ := bind_elim h
 refine gD (op_callR (weak_is_ok hy6) call132 rfl (mem_cons (lent_ro (i := 2) rfl rfl) (mem_cons (lent_ro (i := 3) rfl rfl) mem_nil)) weak_is_free) ?_
 rintro _ _ ⟨_, ⟨rfl, rfl⟩, rfl⟩
 refine run ?_
 refine G_cond rfl (fun g7 => ?_) (fun g7 => ?_)
 ·replace h := cond_t g7 h
  refine run ?_
  obtain rfl := Option.some.inj h
  exact endG1 rfl rfl ((cv_nil (rInt .i64) 3 _).trans (cv_sel [0] 6 rfl rfl)) ⟨_, _, _, rfl, rfl⟩
 ·replace h := cond_f g7 h
  refine run ?_
  refine gD (op_alloc zero35 rfl) ?_
  rintro _ _ ⟨B9, rfl, rfl⟩
  refine run ?_
  refine G_seq ?_
  refine run ?_
  refine gR (rd_boxS (us := [iV a0.Kind, iV a0.Shape, iV a0.Flags, iV a0.Age, .slice A1 n1 c1, .slice A2 n2 c2]) 2 rfl rfl agg32 rfl) ?_
  obtain ⟨y10, hy10, h⟩ := bind_elim h
  refine gD (op_callR (weak_entries_ok hy10) call179 rfl (mem_cons (lent_ro (i := 3) rfl rfl) (mem_cons (lent_ro (i := 4) rfl rfl) mem_nil)) weak_entries_free) ?_
  rintro _ _ ⟨_, ⟨B11, rfl, rfl⟩, rfl⟩
  refine G_nil ?_
  refine nx_n ?_
  refine G_sub ?_ sub_refl (cv_frzbox 0 rfl)
  obtain ⟨y14, hy14, h⟩ := bind_elim h
  refine G_rangeX (en := (fun x => [.agg #[iV x.1.Kind, iV x.1.N, .string x.1.S], .agg #[iV x.2.Kind, iV x.2.N, .string x.2.S]])) (fun x st => weak_Opens_b12 N a1 x st) (fun (st : (List Int)) (mz : ((Option Addr × Nat × Nat))) => [kS5 A3 n3 c3 a1, boxC B5 35 [.slice A3 n3 c3], ownC (rInt .i64) 3 (.slice mz.1 mz.2.1 mz.2.2) st, boxC B9 35 [.slice mz.1 mz.2.1 mz.2.2]]) [rboxC B11 32 [iV a0.Kind, iV a0.Shape, iV a0.Flags, iV a0.Age, .slice A1 n1 c1, .slice A2 n2 c2], kS0 A1 n1 c1 a0.Slots, kS0 A2 n2 c2 a0.More] ([]) ((none, 0, 0)) rfl rfl call198 rfl (fun _ => rfl) (fun l G hY => (weak_entries_c1_ok hy14 hY).mono fun _ _ hh => hh.2) ((cv_nil (rInt .i64) 3 _).trans (cv_take [1, 5, 6] [] [7, 3, 0, 2] 8 rfl)) h ?_ ?_ ?_ ?_
  ·rintro l x12 p13 je sr12 ⟨A13, n13, c13⟩ h
   replace h : weak_Opens_b12 N a1 x12 p13 = some (je, sr12) := h
   simp only [envR, List.zip_cons_cons, List.zip_nil_left, List.zip_nil_right, List.reverse_cons, List.reverse_nil, List.nil_append, List.cons_append]
   refine run ?_
   refine gD (op_alloc zero38 rfl) ?_
   rintro _ _ ⟨B16, rfl, rfl⟩
   refine gO (op_store (us := [iV x12.1.Kind, iV x12.1.N, .string x12.1.S]) (cs' := [iV x12.1.Kind, iV x12.1.N, .string x12.1.S]) 0 rfl rfl rfl rfl size38 rfl rfl rfl) ?_
   rintro _ _ rfl
   refine run ?_
   refine gD (op_alloc zero38 rfl) ?_
   rintro _ _ ⟨B17, rfl, rfl⟩
   refine gO (op_store (us := [iV x12.2.Kind, iV x12.2.N, .string x12.2.S]) (cs' := [iV x12.2.Kind, iV x12.2.N, .string x12.2.S]) 0 rfl rfl rfl rfl size38 rfl rfl rfl) ?_
   rintro _ _ rfl
   refine G_norm ([boxC B17 38 [iV x12.2.Kind, iV x12.2.N, .string x12.2.S], boxC B16 38 [iV x12.1.Kind, iV x12.1.N, .string x12.1.S], kS5 A3 n3 c3 a1, boxC B5 35 [.slice A3 n3 c3], kO2 A13 n13 c13 p13, boxC B9 35 [.slice A13 n13 c13]]) rfl ?_
   refine run ?_
   obtain ⟨b18, hb18, h⟩ := bind_elim h
   refine G_segb 4 22 b18 ?_ ?_
   ·clear h
    refine G_case 18 rfl (fun g18 => ?_) (fun g18 => ?_)
    ·have h := cond_t g18 hb18
     refine run ?_
     obtain rfl := Option.some.inj h
     exact G_joined sA (cv_sel [0, 1, 2, 3, 4, 5] 6 rfl rfl)
    ·have h := cond_f g18 hb18
     refine run ?_
     obtain rfl := Option.some.inj h
     exact G_joined sA (cv_sel [0, 1, 2, 3, 4, 5] 6 rfl rfl)
   refine run ?_
   obtain ⟨b19, hb19, h⟩ := bind_elim h
   refine G_segb 5 28 b19 ?_ ?_
   ·clear h
    refine G_case 23 rfl (fun g19 => ?_) (fun g19 => ?_)
    ·have h := cond_t g19 hb19
     refine run ?_
     obtain ⟨y20, hy20, h⟩ := bind_elim h
     refine G_opd (op_callR (slices_Contains_ok hy20) call101 rfl (mem_cons (lent_ro (i := 2) rfl rfl) mem_nil) slices_Contains_free) rfl (g_tt g19 rfl) rfl ?_
     rintro _ _ ⟨_, ⟨rfl, rfl⟩, rfl⟩
     refine run ?_
     obtain rfl := Option.some.inj h
     exact G_joined sA (cv_sel [0, 1, 2, 3, 4, 5] 6 rfl rfl)
    ·have h := cond_f g19 hb19
     refine run ?_
     obtain rfl := Option.some.inj h
     exact G_joined sA (cv_sel [0, 1, 2, 3, 4, 5] 6 rfl rfl)
   refine run ?_
   refine G_cond rfl (fun g21 => ?_) (fun g21 => ?_)
   ·replace h := cond_t g21 h
    refine run ?_
    refine gD (op_bslice (R := (rInt .i64)) (vss := [[iV x12.2.N]]) (xs := [x12.2.N]) rfl (bsl_35_1 _) rfl rfl (fun _ _ hr => .cons rfl All2.nil)) ?_
    rintro _ _ ⟨A22, n22, c22, rfl, rfl⟩
    obtain ⟨q23, h⟩ := req_elim h
    refine gD (op_append 5 0 rfl rfl els_own rfl rfl Tryz.underlying35 zb3 rfl rfl q23) ?_
    rintro _ _ ⟨A24, n24, c24, rfl, rfl⟩
    refine gO (op_store (us := [.slice A24 n24 c24]) (cs' := [.slice A24 n24 c24]) 6 rfl rfl rfl rfl size35 rfl rfl rfl) ?_
    rintro _ _ rfl
    refine run ?_
    obtain ⟨rfl, rfl⟩ := Prod.mk.inj (Option.some.inj h)
    exact RK_n ((cv_sel [3, 4, 5, 6] 7 rfl rfl).trans (cv_pack1 (A24, n24, c24) rfl))
   ·replace h := cond_f g21 h
    refine run ?_
    obtain ⟨rfl, rfl⟩ := Prod.mk.inj (Option.some.inj h)
    exact RK_n ((cv_sel [2, 3, 4, 5] 6 rfl rfl).trans (cv_pack1 (A13, n13, c13) rfl))
  ·rintro ⟨A13, n13, c13⟩ h
   refine K3_norm ([kS5 A3 n3 c3 a1, boxC B5 35 [.slice A3 n3 c3], kO2 A13 n13 c13 y14.2, boxC B9 35 [.slice A13 n13 c13]]) rfl ?_
   refine run ?_
   obtain rfl := Option.some.inj h
   exact endG1 rfl rfl (cv_sel [2] 4 rfl rfl) ⟨_, _, _, rfl, rfl⟩
  ·rintro ⟨A13, n13, c13⟩ h
   exact none_some h
  ·rintro i ⟨A13, n13, c13⟩ h
   exact none_some h
theorem weak_Opens_free {r : (List Int)} : ∀ v post, ((fun (u : Value) (post : List Chunk) => ∃ A0 n0 c0, u = .slice A0 n0 c0 ∧ post = [kO2 A0 n0 c0 r])) v post → ∀ c ∈ post, Free c := by
 rintro _ _ ⟨_, _, _, rfl, rfl⟩; exact mem_cons free_own (mem_nil)
def reach_row_pass_j6 (N : Nat) (a0 : DRow) (p7 : (List DCell)) (p8 : (List DCell)) (p9 : (List Int)) (p10 : (List (Int × Unit))) (p11 : Int) : Option (Bool × DRow) :=
 some (decide ((a0.all_.length : Int) < (p9.length : Int)), (⟨(⟨p7, p8⟩ : DMemory), p9, p10, p11⟩ : DRow))
def reach_row_pass_j21 (N : Nat) (kb13 : Int → (List DCell) → (List DCell) → (List Int) → (List (Int × Unit)) → Int → Option (Bool × DRow)) (a0 : DRow) (p14 : Int) (p22 : (List DCell)) (p23 : (List DCell)) (p24 : (List Int)) (p25 : (List (Int × Unit))) (p26 : Int) : Option (Bool × DRow) :=
 req (in64 (p14 + 1)) (kb13 (p14 + 1) p22 p23 p24 p25 p26)
def reach_row_pass_l13 (N : Nat) (a0 : DRow) : Nat → Int → (List DCell) → (List DCell) → (List Int) → (List (Int × Unit)) → Int → Option (Bool × DRow)
 | 0, _, _, _, _, _, _ => none
 | m13 + 1, p14, p15, p16, p17, p18, p19 => bif decide (p14 < ((List.take a0.all_.length a0.all_).length : Int)) then ((getE (List.take a0.all_.length p17) p14).bind fun x27 => (reach_At_O N (⟨p15, p16⟩ : DMemory) x27).bind fun y28 => bif decide (y28.Kind = 8) then ((weak_Opens_O N y28 p17).bind fun y33 => (reach_row_lay_O N (⟨(⟨p15, p16⟩ : DMemory), p17, p18, p19⟩ : DRow) y33).bind fun y35 => reach_row_pass_j21 N (reach_row_pass_l13 N a0 m13) a0 p14 y35.m_.Young y35.m_.Old y35.all_ y35.met_ y35.done_) else (reach_row_pass_j21 N (reach_row_pass_l13 N a0 m13) a0 p14 p15 p16 p17 p18 p19)) else (reach_row_pass_j6 N a0 p15 p16 p17 p18 p19)
theorem reach_row_pass_l13_s {N m13 : Nat} {a0 : DRow} {p14 : Int} {p15 : (List DCell)} {p16 : (List DCell)} {p17 : (List Int)} {p18 : (List (Int × Unit))} {p19 : Int} : reach_row_pass_l13 N a0 (m13 + 1) p14 p15 p16 p17 p18 p19 = bif decide (p14 < ((List.take a0.all_.length a0.all_).length : Int)) then ((getE (List.take a0.all_.length p17) p14).bind fun x27 => (reach_At_O N (⟨p15, p16⟩ : DMemory) x27).bind fun y28 => bif decide (y28.Kind = 8) then ((weak_Opens_O N y28 p17).bind fun y33 => (reach_row_lay_O N (⟨(⟨p15, p16⟩ : DMemory), p17, p18, p19⟩ : DRow) y33).bind fun y35 => reach_row_pass_j21 N (reach_row_pass_l13 N a0 m13) a0 p14 y35.m_.Young y35.m_.Old y35.all_ y35.met_ y35.done_) else (reach_row_pass_j21 N (reach_row_pass_l13 N a0 m13) a0 p14 p15 p16 p17 p18 p19)) else (reach_row_pass_j6 N a0 p15 p16 p17 p18 p19) := rfl
def reach_row_pass_O (N : Nat) (a0 : DRow) : Option (Bool × DRow) :=
 reach_row_pass_l13 N a0 N 0 a0.m_.Young a0.m_.Old a0.all_ a0.met_ a0.done_
theorem reach_row_pass_ok {N : Nat} {a0 : DRow} {r : (Bool × DRow)} (h : reach_row_pass_O N a0 = some r) {A2 : Option Addr} {n2 c2 : Nat} {A3 : Option Addr} {n3 c3 : Nat} {B1 : Nat} {A4 : Option Addr} {n4 c4 : Nat} {M5 : Nat} : Okc Tryz.prog 67 [pV B1 0] ([kS1 A2 n2 c2 a0.m_.Young, kS1 A3 n3 c3 a0.m_.Old, boxC B1 79 [.slice A2 n2 c2, .slice A3 n3 c3, .slice A4 n4 c4, .map (some M5), iV a0.done_], kO2 A4 n4 c4 a0.all_, mapC ekI evU M5 a0.met_]) (fun (u : Value) (post : List Chunk) => ∃ A0 n0 c0 A1 n1 c1 A2 n2 c2 M3, u = .bool r.1 ∧ post = [boxC B1 79 [.slice A0 n0 c0, .slice A1 n1 c1, .slice A2 n2 c2, .map (some M3), iV r.2.done_], kS1 A0 n0 c0 r.2.m_.Young, kS1 A1 n1 c1 r.2.m_.Old, kO2 A2 n2 c2 r.2.all_, mapC ekI evU M3 r.2.met_]) := by
 refine ok_E Tryz.func67 rfl rfl ?_
 simp only [envOf]
 refine run ?_
 refine gR (rd_len 3 rfl els_own rfl Tryz.underlying35) ?_
 refine run ?_
 refine G_joinF (fun s L => ∃ (p7 : (List DCell)) (p8 : (List DCell)) (p9 : (List Int)) (p10 : (List (Int × Unit))) (p11 : Int) (A7 : Option Addr) (n7 c7 : Nat) (A8 : Option Addr) (n8 c8 : Nat) (A9 : Option Addr) (n9 c9 : Nat) (M10 : Nat), reach_row_pass_j6 N a0 p7 p8 p9 p10 p11 = some r ∧ s = [(0, pV B1 0), (2, .bool false), (3, iV (a0.all_.length : Int))] ∧ L = [kS1 A7 n7 c7 p7, kS1 A8 n8 c8 p8, kO2 A9 n9 c9 p9, mapC ekI evU M10 p10, boxC B1 79 [.slice A7 n7 c7, .slice A8 n8 c8, .slice A9 n9 c9, .map (some M10), iV p11]]) ?_ ?_
 ·refine runS ?_
  refine runE ?_
  refine G_cv (cv_grow0 3 rfl) ?_
  refine gD (op_view (n := a0.all_.length) 3 rfl rfl Tryz.underlying35 size3 rfl rfl rfl (Nat.le_refl _)) ?_
  rintro _ _ ⟨A12, rfl, rfl⟩
  refine gR (rd_len 3 rfl els_view rfl Tryz.underlying35) ?_
  refine run ?_
  refine G_loopF (fun m s L => ∃ (p14 : Int) (p15 : (List DCell)) (p16 : (List DCell)) (p17 : (List Int)) (p18 : (List (Int × Unit))) (p19 : Int) (A15 : Option Addr) (n15 c15 : Nat) (A16 : Option Addr) (n16 c16 : Nat) (A17 : Option Addr) (n17 c17 : Nat) (M18 : Nat), reach_row_pass_l13 N a0 m p14 p15 p16 p17 p18 p19 = some r ∧ s = [(0, pV B1 0), (2, .bool false), (3, iV (a0.all_.length : Int)), (18, .slice A12 a0.all_.length a0.all_.length), (19, iV ((List.take a0.all_.length a0.all_).length : Int)), (20, iV p14)] ∧ L = [kS1 A15 n15 c15 p15, kS1 A16 n16 c16 p16, growC (rInt .i64) 3 (.slice A17 n17 c17) p17 (.slice A12 a0.all_.length a0.all_.length) a0.all_.length, mapC ekI evU M18 p18, boxC B1 79 [.slice A15 n15 c15, .slice A16 n16 c16, .slice A17 n17 c17, .map (some M18), iV p19]]) N _ _ ⟨0, a0.m_.Young, a0.m_.Old, a0.all_, a0.met_, a0.done_, A2, n2, c2, A3, n3, c3, A4, n4, c4, M5, h, rfl, rfl⟩ sA (cv_sel [0, 1, 3, 4, 2] 5 rfl rfl) ?_
  rintro (_ | m13) _ _ ⟨p14, p15, p16, p17, p18, p19, A15, n15, c15, A16, n16, c16, A17, n17, c17, M18, h, rfl, rfl⟩
  ·exact none_some h
  rw [reach_row_pass_l13_s] at h
  refine run ?_
  refine G_seq ?_
  refine G_cond rfl (fun g20 => ?_) (fun g20 => ?_)
  ·replace h := cond_t g20 h
   refine run ?_
   refine G_joinF (fun s L => ∃ (p22 : (List DCell)) (p23 : (List DCell)) (p24 : (List Int)) (p25 : (List (Int × Unit))) (p26 : Int) (A22 : Option Addr) (n22 c22 : Nat) (A23 : Option Addr) (n23 c23 : Nat) (A24 : Option Addr) (n24 c24 : Nat) (M25 : Nat), reach_row_pass_j21 N (reach_row_pass_l13 N a0 m13) a0 p14 p22 p23 p24 p25 p26 = some r ∧ s = [(0, pV B1 0), (2, .bool false), (3, iV (a0.all_.length : Int)), (18, .slice A12 a0.all_.length a0.all_.length), (19, iV ((List.take a0.all_.length a0.all_).length : Int)), (20, iV p14)] ∧ L = [kS1 A22 n22 c22 p22, kS1 A23 n23 c23 p23, growC (rInt .i64) 3 (.slice A24 n24 c24) p24 (.slice A12 a0.all_.length a0.all_.length) a0.all_.length, mapC ekI evU M25 p25, boxC B1 79 [.slice A22 n22 c22, .slice A23 n23 c23, .slice A24 n24 c24, .map (some M25), iV p26]]) ?_ ?_
   ·refine run ?_
    obtain ⟨x27, hx27, h⟩ := bind_elim h
    obtain ⟨lx27, ux27, hx27⟩ := getE_elim hx27
    refine gR (rd_idx 2 rfl els_view rfl rfl Tryz.underlying35 size3 lx27 ux27) ?_
    refine gR (rd_elem1 (u := iV x27) 2 rfl els_view rfl hx27 one3 (fun _ _ _ h => by rw [show _ = _ from h]; rfl)) ?_
    refine run ?_
    refine gR (rd_boxS (us := [.slice A15 n15 c15, .slice A16 n16 c16]) 4 rfl rfl agg24 rfl) ?_
    refine run ?_
    obtain ⟨y28, hy28, h⟩ := bind_elim h
    refine gD (op_callR (reach_At_ok hy28) call16 rfl (mem_cons (lent_ro (i := 0) rfl rfl) (mem_cons (lent_ro (i := 1) rfl rfl) mem_nil)) reach_At_free) ?_
    rintro _ _ ⟨_, ⟨A29, n29, c29, A30, n30, c30, rfl, rfl⟩, rfl⟩
    refine gD (op_alloc zero32 rfl) ?_
    rintro _ _ ⟨B31, rfl, rfl⟩
    refine gO (op_store (us := [iV y28.Kind, iV y28.Shape, iV y28.Flags, iV y28.Age, .slice A29 n29 c29, .slice A30 n30 c30]) (cs' := [iV y28.Kind, iV y28.Shape, iV y28.Flags, iV y28.Age, .slice A29 n29 c29, .slice A30 n30 c30]) 0 rfl rfl rfl rfl size32 rfl rfl rfl) ?_
    rintro _ _ rfl
    refine G_norm ([boxC B31 32 [iV y28.Kind, iV y28.Shape, iV y28.Flags, iV y28.Age, .slice A29 n29 c29, .slice A30 n30 c30], kO3 A29 n29 c29 y28.Slots, kO3 A30 n30 c30 y28.More, kS1 A15 n15 c15 p15, kS1 A16 n16 c16 p16, growC (rInt .i64) 3 (.slice A17 n17 c17) p17 (.slice A12 a0.all_.length a0.all_.length) a0.all_.length, mapC ekI evU M18 p18, boxC B1 79 [.slice A15 n15 c15, .slice A16 n16 c16, .slice A17 n17 c17, .map (some M18), iV p19]]) rfl ?_
    refine run ?_
    refine G_cond rfl (fun g32 => ?_) (fun g32 => ?_)
    ·replace h := cond_t g32 h
     refine G_sub (t := [(0, pV B1 0), (2, .bool false), (3, iV (a0.all_.length : Int)), (6, pV B31 0), (18, .slice A12 a0.all_.length a0.all_.length), (19, iV ((List.take a0.all_.length a0.all_).length : Int)), (20, iV p14)]) ?_ subT (cv_refl _)
     refine G_monoX (by kernel_rfl) 6 [0] [0, 1, 5] [33, 34, 35, 36, 37, 38] [[], [], [], [2], [3], [4]] [aV (pV B1 0),
 aV (.agg #[iV y28.Kind, iV y28.Shape, iV y28.Flags, iV y28.Age, .slice A29 n29 c29, .slice A30 n30 c30]),
 aV (pV B1 0),
 aV (pV B1 0),
 aV (pV B1 2),
 aV (.slice A17 n17 c17)] [] (cv_refl _) (qB_cons rfl qB_nil) (by kernel_rfl) rfl rfl ?_ ?_ ?_
     ·refine qs_cons rfl ?_ ?_
      ·exact QS_ev (ev_move rfl) rfl (cvpV rfl (cv_refl _))
      exact qs_nil
     ·refine steps_cons rfl ?_ ?_
      ·exact X_rd (rd_box1 7 rfl rfl one35 rfl) rfl (cvpV rfl (cv_refl _))
      refine steps_cons rfl ?_ ?_
      ·exact X_ev (ev_fa rfl fa_79_1) rfl (cvpV rfl (cv_refl _))
      refine steps_cons rfl ?_ ?_
      ·exact X_ev (ev_nilCheck rfl) rfl (cvpV rfl (cv_refl _))
      refine steps_cons rfl ?_ ?_
      ·exact X_ev (ev_move rfl) rfl (cvpV rfl (cv_refl _))
      refine steps_cons rfl ?_ ?_
      ·exact X_rd (rd_boxS (us := [iV y28.Kind, iV y28.Shape, iV y28.Flags, iV y28.Age, .slice A29 n29 c29, .slice A30 n30 c30]) 0 rfl rfl agg32 rfl) rfl (cvpV rfl (cv_refl _))
      refine steps_cons rfl ?_ ?_
      ·exact X_ev (ev_move rfl) rfl (cvpV rfl (cv_refl _))
      exact steps_nil
     ·refine N_sub (t := [(33, pV B1 0), (34, .agg #[iV y28.Kind, iV y28.Shape, iV y28.Flags, iV y28.Age, .slice A29 n29 c29, .slice A30 n30 c30]), (38, .slice A17 n17 c17), (0, pV B1 0), (2, .bool false), (3, iV (a0.all_.length : Int)), (6, pV B31 0), (18, .slice A12 a0.all_.length a0.all_.length), (19, iV ((List.take a0.all_.length a0.all_).length : Int)), (20, iV p14)]) (L' := [boxC B31 32 [iV y28.Kind, iV y28.Shape, iV y28.Flags, iV y28.Age, .slice A29 n29 c29, .slice A30 n30 c30], kO3 A29 n29 c29 y28.Slots, kO3 A30 n30 c30 y28.More, kS1 A15 n15 c15 p15, kS1 A16 n16 c16 p16, growC (rInt .i64) 3 (.slice A17 n17 c17) p17 (.slice A12 a0.all_.length a0.all_.length) a0.all_.length, mapC ekI evU M18 p18, boxC B1 79 [.slice A15 n15 c15, .slice A16 n16 c16, .slice A17 n17 c17, .map (some M18), iV p19]]) ?_ subT (cv_refl _)
      obtain ⟨y33, hy33, h⟩ := bind_elim h
      refine N_opd 6 rfl (by kernel_rfl) (op_callR (weak_Opens_ok hy33) call122 rfl (mem_cons (lent_own (i := 1) rfl) (mem_cons (lent_own (i := 2) rfl) (mem_cons (lent_grow (i := 5) rfl) mem_nil))) weak_Opens_free) rfl rfl rfl ?_
      rintro _ _ ⟨_, ⟨A34, n34, c34, rfl, rfl⟩, rfl⟩
      refine N_sub ?_ sub_refl (cv_frz 0 rfl)
      obtain ⟨y35, hy35, h⟩ := bind_elim h
      refine N_opd 7 rfl (by kernel_rfl) (op_call (reach_row_lay_v_ok hy35) call118 rfl (cv_take [4, 5, 0] [8, 6, 7] [0, 1, 2, 3, 4, 5] 9 rfl)) rfl rfl rfl ?_
      rintro _ _ ⟨_, ⟨A36, n36, c36, A37, n37, c37, A38, n38, c38, M39, rfl, rfl⟩, rfl⟩
      refine N_done (by kernel_rfl) ?_
      refine run ?_
      exact ⟨_, _, ⟨y35.m_.Young, y35.m_.Old, y35.all_, y35.met_, y35.done_, A36, n36, c36, A37, n37, c37, A38, n38, c38, M39, h, rfl, rfl⟩, sA, cv_sel [1, 2, 3, 4, 0] 11 rfl rfl⟩
    ·replace h := cond_f g32 h
     refine run ?_
     exact ⟨_, _, ⟨p15, p16, p17, p18, p19, A15, n15, c15, A16, n16, c16, A17, n17, c17, M18, h, rfl, rfl⟩, sA, cv_sel [3, 4, 5, 6, 7] 8 rfl rfl⟩
   ·rintro _ _ ⟨p22, p23, p24, p25, p26, A22, n22, c22, A23, n23, c23, A24, n24, c24, M25, h, rfl, rfl⟩
    refine G_region ?_
    obtain ⟨q40, h⟩ := req_elim h
    refine gE (ev_add rfl rfl q40.1 q40.2) ?_
    refine run ?_
    exact ⟨m13, _, _, Nat.lt_succ_self _, ⟨p14 + 1, p22, p23, p24, p25, p26, A22, n22, c22, A23, n23, c23, A24, n24, c24, M25, h, rfl, rfl⟩, sA, cv_sel [0, 1, 2, 3, 4] 5 rfl rfl⟩
  ·replace h := cond_f g20 h
   refine run ?_
   exact ⟨_, _, ⟨p15, p16, p17, p18, p19, A15, n15, c15, A16, n16, c16, A17, n17, c17, M18, h, rfl, rfl⟩, sA, (cv_ungrow 2 rfl).trans (cv_sel [0, 1, 2, 3, 4] 5 rfl rfl)⟩
 ·rintro _ _ ⟨p7, p8, p9, p10, p11, A7, n7, c7, A8, n8, c8, A9, n9, c9, M10, h, rfl, rfl⟩
  refine run ?_
  refine gR (rd_len 2 rfl els_own rfl Tryz.underlying35) ?_
  refine run ?_
  obtain rfl := Option.some.inj h
  exact endG1 rfl rfl (cv_sel [4, 0, 1, 2, 3] 5 rfl rfl) ⟨_, _, _, _, _, _, _, _, _, _, rfl, rfl⟩
def reach_Order_j11 (N : Nat) (p12 : (List DCell)) (p13 : (List DCell)) (p14 : (List Int)) (p15 : (List (Int × Unit))) (p16 : Int) : Option (List Int) :=
 some p14
def reach_Order_l17 (N : Nat) : Nat → (List DCell) → (List DCell) → (List Int) → (List (Int × Unit)) → Int → Option (List Int)
 | 0, _, _, _, _, _ => none
 | m17 + 1, p18, p19, p20, p21, p22 => (reach_row_pass_O N (⟨(⟨p18, p19⟩ : DMemory), p20, p21, p22⟩ : DRow)).bind fun y23 => bif y23.1 then ((reach_row_through_O N y23.2).bind fun y29 => (reach_Order_l17 N m17) y29.m_.Young y29.m_.Old y29.all_ y29.met_ y29.done_) else (reach_Order_j11 N y23.2.m_.Young y23.2.m_.Old y23.2.all_ y23.2.met_ y23.2.done_)
theorem reach_Order_l17_s {N m17 : Nat} {p18 : (List DCell)} {p19 : (List DCell)} {p20 : (List Int)} {p21 : (List (Int × Unit))} {p22 : Int} : reach_Order_l17 N (m17 + 1) p18 p19 p20 p21 p22 = (reach_row_pass_O N (⟨(⟨p18, p19⟩ : DMemory), p20, p21, p22⟩ : DRow)).bind fun y23 => bif y23.1 then ((reach_row_through_O N y23.2).bind fun y29 => (reach_Order_l17 N m17) y29.m_.Young y29.m_.Old y29.all_ y29.met_ y29.done_) else (reach_Order_j11 N y23.2.m_.Young y23.2.m_.Old y23.2.all_ y23.2.met_ y23.2.done_) := rfl
def reach_Order_O (N : Nat) (a0 : DMemory) (a1 : (List DValue)) : Option (List Int) :=
 (reach_begin_O N a0 a1).bind fun y5 => reach_Order_l17 N N y5.m_.Young y5.m_.Old y5.all_ y5.met_ y5.done_
theorem reach_Order_ok {N : Nat} {a0 : DMemory} {a1 : (List DValue)} {r : (List Int)} (h : reach_Order_O N a0 a1 = some r) {A1 : Option Addr} {n1 c1 : Nat} {A2 : Option Addr} {n2 c2 : Nat} {A3 : Option Addr} {n3 c3 : Nat} : Okc Tryz.prog 25 [.agg #[.slice A1 n1 c1, .slice A2 n2 c2], .slice A3 n3 c3] ([kS1 A1 n1 c1 a0.Young, kS1 A2 n2 c2 a0.Old, kS0 A3 n3 c3 a1]) (fun (u : Value) (post : List Chunk) => ∃ A0 n0 c0, u = .slice A0 n0 c0 ∧ post = [kO2 A0 n0 c0 r]) := by
 refine ok_E Tryz.func25 rfl rfl ?_
 simp only [envOf]
 refine run ?_
 refine gD (op_box rfl rfl) ?_
 rintro _ _ ⟨B4, rfl, rfl⟩
 refine run ?_
 refine gR (rd_boxS (us := [.slice A1 n1 c1, .slice A2 n2 c2]) 0 rfl rfl agg24 rfl) ?_
 refine run ?_
 obtain ⟨y5, hy5, h⟩ := bind_elim h
 refine gD (op_call (reach_begin_ok hy5) call62 rfl (cv_take [1, 2, 3] [] [0, 1, 2, 3] 4 rfl)) ?_
 rintro _ _ ⟨_, ⟨B6, A7, n7, c7, A8, n8, c8, A9, n9, c9, M10, rfl, rfl⟩, rfl⟩
 refine run ?_
 refine G_joinF (fun s L => ∃ (p12 : (List DCell)) (p13 : (List DCell)) (p14 : (List Int)) (p15 : (List (Int × Unit))) (p16 : Int) (A12 : Option Addr) (n12 c12 : Nat) (A13 : Option Addr) (n13 c13 : Nat) (A14 : Option Addr) (n14 c14 : Nat) (M15 : Nat), reach_Order_j11 N p12 p13 p14 p15 p16 = some r ∧ s = [(4, .slice none 0 0), (5, pV B6 0)] ∧ L = [kS1 A12 n12 c12 p12, kS1 A13 n13 c13 p13, kO2 A14 n14 c14 p14, mapC ekI evU M15 p15, boxC B6 79 [.slice A12 n12 c12, .slice A13 n13 c13, .slice A14 n14 c14, .map (some M15), iV p16]]) ?_ ?_
 ·refine G_block ?_
  refine G_loopF (fun m s L => ∃ (p18 : (List DCell)) (p19 : (List DCell)) (p20 : (List Int)) (p21 : (List (Int × Unit))) (p22 : Int) (A18 : Option Addr) (n18 c18 : Nat) (A19 : Option Addr) (n19 c19 : Nat) (A20 : Option Addr) (n20 c20 : Nat) (M21 : Nat), reach_Order_l17 N m p18 p19 p20 p21 p22 = some r ∧ s = [(4, .slice none 0 0), (5, pV B6 0)] ∧ L = [kS1 A18 n18 c18 p18, kS1 A19 n19 c19 p19, kO2 A20 n20 c20 p20, mapC ekI evU M21 p21, boxC B6 79 [.slice A18 n18 c18, .slice A19 n19 c19, .slice A20 n20 c20, .map (some M21), iV p22]]) N _ _ ⟨y5.m_.Young, y5.m_.Old, y5.all_, y5.met_, y5.done_, A7, n7, c7, A8, n8, c8, A9, n9, c9, M10, h, rfl, rfl⟩ sA (cv_sel [1, 2, 3, 4, 0] 9 rfl rfl) ?_
  rintro (_ | m17) _ _ ⟨p18, p19, p20, p21, p22, A18, n18, c18, A19, n19, c19, A20, n20, c20, M21, h, rfl, rfl⟩
  ·exact none_some h
  rw [reach_Order_l17_s] at h
  refine G_seq ?_
  refine run ?_
  obtain ⟨y23, hy23, h⟩ := bind_elim h
  refine gD (op_call (reach_row_pass_ok hy23) call67 rfl (cv_take [0, 1] [4, 2, 3] [0, 1] 5 rfl)) ?_
  rintro _ _ ⟨_, ⟨A24, n24, c24, A25, n25, c25, A26, n26, c26, M27, rfl, rfl⟩, rfl⟩
  refine run ?_
  refine G_cond rfl (fun g28 => ?_) (fun g28 => ?_)
  ·replace h := cond_t g28 h
   refine run ?_
   obtain ⟨y29, hy29, h⟩ := bind_elim h
   refine gD (op_call (reach_row_through_ok hy29) call68 rfl (cv_take [1, 2] [0, 3, 4] [1, 2, 5, 6] 7 rfl)) ?_
   rintro _ _ ⟨_, ⟨A30, n30, c30, A31, n31, c31, A32, n32, c32, M33, rfl, rfl⟩, rfl⟩
   refine G_norm ([boxC B6 79 [.slice A30 n30 c30, .slice A31 n31 c31, .slice A32 n32 c32, .map (some M33), iV y29.done_], kS1 A30 n30 c30 y29.m_.Young, kS1 A31 n31 c31 y29.m_.Old, kO2 A32 n32 c32 y29.all_, mapC ekI evU M33 y29.met_, kS1 A24 n24 c24 y23.2.m_.Young, kS1 A25 n25 c25 y23.2.m_.Old, kS1 A18 n18 c18 p18, kS1 A19 n19 c19 p19]) rfl ?_
   refine run ?_
   exact ⟨m17, _, _, Nat.lt_succ_self _, ⟨y29.m_.Young, y29.m_.Old, y29.all_, y29.met_, y29.done_, A30, n30, c30, A31, n31, c31, A32, n32, c32, M33, h, rfl, rfl⟩, sA, cv_sel [1, 2, 3, 4, 0] 9 rfl rfl⟩
  ·replace h := cond_f g28 h
   refine run ?_
   exact ⟨_, _, ⟨y23.2.m_.Young, y23.2.m_.Old, y23.2.all_, y23.2.met_, y23.2.done_, A24, n24, c24, A25, n25, c25, A26, n26, c26, M27, h, rfl, rfl⟩, sA, cv_sel [1, 2, 3, 4, 0] 7 rfl rfl⟩
 ·rintro _ _ ⟨p12, p13, p14, p15, p16, A12, n12, c12, A13, n13, c13, A14, n14, c14, M15, h, rfl, rfl⟩
  refine run ?_
  obtain rfl := Option.some.inj h
  exact endG1 rfl rfl (cv_sel [2] 5 rfl rfl) ⟨_, _, _, rfl, rfl⟩
theorem reach_Order_free {r : (List Int)} : ∀ v post, ((fun (u : Value) (post : List Chunk) => ∃ A0 n0 c0, u = .slice A0 n0 c0 ∧ post = [kO2 A0 n0 c0 r])) v post → ∀ c ∈ post, Free c := by
 rintro _ _ ⟨_, _, _, rfl, rfl⟩; exact mem_cons free_own (mem_nil)
def r19_Same_j4 (N : Nat) : Option Bool :=
 some true
def r19_Same_l5 (N : Nat) (a0 : (List Int)) (a1 : (List Int)) : Nat → Int → Option Bool
 | 0, _ => none
 | m5 + 1, p6 => bif decide (p6 < (a0.length : Int)) then ((getE a0 p6).bind fun x8 => (getE a1 p6).bind fun x9 => bif !decide (x8 = x9) then (some false) else (req (in64 (p6 + 1)) ((r19_Same_l5 N a0 a1 m5) (p6 + 1)))) else (r19_Same_j4 N)
theorem r19_Same_l5_s {N m5 : Nat} {a0 : (List Int)} {a1 : (List Int)} {p6 : Int} : r19_Same_l5 N a0 a1 (m5 + 1) p6 = bif decide (p6 < (a0.length : Int)) then ((getE a0 p6).bind fun x8 => (getE a1 p6).bind fun x9 => bif !decide (x8 = x9) then (some false) else (req (in64 (p6 + 1)) ((r19_Same_l5 N a0 a1 m5) (p6 + 1)))) else (r19_Same_j4 N) := rfl
def r19_Same_O (N : Nat) (a0 : (List Int)) (a1 : (List Int)) : Option Bool :=
 bif !decide ((a0.length : Int) = (a1.length : Int)) then (some false) else (r19_Same_l5 N a0 a1 N 0)
theorem r19_Same_ok {N : Nat} {a0 : (List Int)} {a1 : (List Int)} {r : Bool} (h : r19_Same_O N a0 a1 = some r) {A1 : Option Addr} {n1 c1 : Nat} {A2 : Option Addr} {n2 c2 : Nat} : Okc Tryz.prog 20 [.slice A1 n1 c1, .slice A2 n2 c2] ([kS5 A1 n1 c1 a0, kS5 A2 n2 c2 a1]) (fun (u : Value) (post : List Chunk) => u = .bool r ∧ post = []) := by
 refine ok_E Tryz.func20 rfl rfl ?_
 simp only [envOf]
 refine run ?_
 refine G_seq ?_
 refine run ?_
 refine gR (rd_len 0 rfl els_sl rfl Tryz.underlying35) ?_
 refine run ?_
 refine gR (rd_len 1 rfl els_sl rfl Tryz.underlying35) ?_
 refine run ?_
 refine G_cond rfl (fun g3 => ?_) (fun g3 => ?_)
 ·replace h := cond_t g3 h
  refine run ?_
  obtain rfl := Option.some.inj h
  exact endG1 rfl rfl (cv_sel [] 2 rfl rfl) ⟨rfl, rfl⟩
 ·replace h := cond_f g3 h
  refine run ?_
  refine G_joinF (fun s L => r19_Same_j4 N = some r ∧ s = [(4, .bool false)] ∧ L = []) ?_ ?_
  ·refine run ?_
   refine G_loopF (fun m s L => ∃ (p6 : Int), r19_Same_l5 N a0 a1 m p6 = some r ∧ s = [(0, .slice A1 n1 c1), (1, .slice A2 n2 c2), (4, .bool false), (5, iV p6)] ∧ L = [kS5 A1 n1 c1 a0, kS5 A2 n2 c2 a1]) N _ _ ⟨0, h, rfl, rfl⟩ sA (cv_sel [0, 1] 2 rfl rfl) ?_
   rintro (_ | m5) _ _ ⟨p6, h, rfl, rfl⟩
   ·exact none_some h
   rw [r19_Same_l5_s] at h
   refine G_seq ?_
   refine run ?_
   refine gR (rd_len 0 rfl els_sl rfl Tryz.underlying35) ?_
   refine run ?_
   refine G_cond rfl (fun g7 => ?_) (fun g7 => ?_)
   ·replace h := cond_t g7 h
    refine run ?_
    refine G_seq ?_
    refine G_block ?_
    refine G_seq ?_
    refine G_drawn (by kernel_rfl) _ (cv_refl _) ?_
    refine T3_ev 0 rfl (by kernel_rfl) (ev_move rfl) rfl rfl ?_
    refine T3_ev 1 rfl (by kernel_rfl) (ev_move rfl) rfl rfl ?_
    obtain ⟨x8, hx8, h⟩ := bind_elim h
    obtain ⟨lx8, ux8, hx8⟩ := getE_elim hx8
    refine T3_rd 2 rfl (by kernel_rfl) (rd_idx 0 rfl els_sl rfl rfl Tryz.underlying35 size3 lx8 ux8) rfl rfl ?_
    refine T3_rd 3 rfl (by kernel_rfl) (rd_elem1 (u := iV x8) 0 rfl els_sl rfl hx8 one3 (fun _ _ _ h => by rw [show _ = _ from h]; rfl)) rfl rfl ?_
    refine T3_ev 4 rfl (by kernel_rfl) (ev_move rfl) rfl rfl ?_
    refine T3_ev 5 rfl (by kernel_rfl) (ev_move rfl) rfl rfl ?_
    obtain ⟨x9, hx9, h⟩ := bind_elim h
    obtain ⟨lx9, ux9, hx9⟩ := getE_elim hx9
    refine T3_rd 6 rfl (by kernel_rfl) (rd_idx 1 rfl els_sl rfl rfl Tryz.underlying35 size3 lx9 ux9) rfl rfl ?_
    refine T3_rd 7 rfl (by kernel_rfl) (rd_elem1 (u := iV x9) 1 rfl els_sl rfl hx9 one3 (fun _ _ _ h => by rw [show _ = _ from h]; rfl)) rfl rfl ?_
    refine T3_ev 8 rfl (by kernel_rfl) (ev_ne rfl rfl) rfl rfl ?_
    refine T3_done (by kernel_rfl) ?_
    refine nx_n ?_
    refine G_cond rfl (fun g10 => ?_) (fun g10 => ?_)
    ·replace h := cond_t g10 h
     refine run ?_
     obtain rfl := Option.some.inj h
     exact endG1 rfl rfl (cv_sel [] 2 rfl rfl) ⟨rfl, rfl⟩
    ·replace h := cond_f g10 h
     refine run ?_
     obtain ⟨q11, h⟩ := req_elim h
     refine gE (ev_add rfl rfl q11.1 q11.2) ?_
     refine run ?_
     exact ⟨m5, _, _, Nat.lt_succ_self _, ⟨p6 + 1, h, rfl, rfl⟩, sA, cv_sel [0, 1] 2 rfl rfl⟩
   ·replace h := cond_f g7 h
    refine run ?_
    exact ⟨_, _, ⟨h, rfl, rfl⟩, sA, cv_sel [] 2 rfl rfl⟩
  ·rintro _ _ ⟨h, rfl, rfl⟩
   refine run ?_
   obtain rfl := Option.some.inj h
   exact endG1 rfl rfl (cv_sel [] 0 rfl rfl) ⟨rfl, rfl⟩
theorem r19_Same_free {r : Bool} : ∀ v post, ((fun (u : Value) (post : List Chunk) => u = .bool r ∧ post = [])) v post → ∀ c ∈ post, Free c := by
 rintro _ _ ⟨rfl, rfl⟩; exact mem_nil
def reach_Live_O (N : Nat) (a0 : DMemory) (a1 : (List DValue)) : Option (List Int) :=
 (reach_Order_O N a0 a1).bind fun y5 => (slices_Sort_O N y5).bind fun y7 => some y7
theorem reach_Live_ok {N : Nat} {a0 : DMemory} {a1 : (List DValue)} {r : (List Int)} (h : reach_Live_O N a0 a1 = some r) {A1 : Option Addr} {n1 c1 : Nat} {A2 : Option Addr} {n2 c2 : Nat} {A3 : Option Addr} {n3 c3 : Nat} : Okc Tryz.prog 23 [.agg #[.slice A1 n1 c1, .slice A2 n2 c2], .slice A3 n3 c3] ([kS1 A1 n1 c1 a0.Young, kS1 A2 n2 c2 a0.Old, kS0 A3 n3 c3 a1]) (fun (u : Value) (post : List Chunk) => ∃ A0 n0 c0, u = .slice A0 n0 c0 ∧ post = [kO2 A0 n0 c0 r]) := by
 refine ok_E Tryz.func23 rfl rfl ?_
 simp only [envOf]
 refine run ?_
 refine gD (op_box rfl rfl) ?_
 rintro _ _ ⟨B4, rfl, rfl⟩
 refine run ?_
 refine gR (rd_boxS (us := [.slice A1 n1 c1, .slice A2 n2 c2]) 0 rfl rfl agg24 rfl) ?_
 refine run ?_
 obtain ⟨y5, hy5, h⟩ := bind_elim h
 refine gD (op_callR (reach_Order_ok hy5) call25 rfl (mem_cons (lent_ro (i := 1) rfl rfl) (mem_cons (lent_ro (i := 2) rfl rfl) (mem_cons (lent_ro (i := 3) rfl rfl) mem_nil))) reach_Order_free) ?_
 rintro _ _ ⟨_, ⟨A6, n6, c6, rfl, rfl⟩, rfl⟩
 refine run ?_
 obtain ⟨y7, hy7, h⟩ := bind_elim h
 refine gD (op_call (slices_Sort_ok hy7) call66 rfl (cv_take [] [0] [1, 2, 3, 4] 5 rfl)) ?_
 rintro _ _ ⟨_, ⟨rfl, rfl⟩, rfl⟩
 refine run ?_
 obtain rfl := Option.some.inj h
 exact endG1 rfl rfl (cv_sel [0] 5 rfl rfl) ⟨_, _, _, rfl, rfl⟩
theorem reach_Live_free {r : (List Int)} : ∀ v post, ((fun (u : Value) (post : List Chunk) => ∃ A0 n0 c0, u = .slice A0 n0 c0 ∧ post = [kO2 A0 n0 c0 r])) v post → ∀ c ∈ post, Free c := by
 rintro _ _ ⟨_, _, _, rfl, rfl⟩; exact mem_cons free_own (mem_nil)
end Go.Proofs.YtmbaennilhdieaaGreat
/- Pure functions and contracts of Go functions (printed by all3.py). -/
namespace Go.Proofs.YtmbaennilhdieaaGreat
open Go.RowKit Asn
set_option maxRecDepth 20000
def r19_Has_O (N : Nat) (a0 : DMemory) (a1 : Int) : Option Bool :=
 bif decide (a1 < 1) then (some false) else (bif decide (a1.tmod 2 = 1) then (req (in64 (a1 - 1)) (req (in64 ((a1 - 1).tdiv 2)) (some (decide ((a1 - 1).tdiv 2 < (a0.Young.length : Int)))))) else (req (in64 (a1 - 2)) (req (in64 ((a1 - 2).tdiv 2)) (some (decide ((a1 - 2).tdiv 2 < (a0.Old.length : Int)))))))
theorem r19_Has_ok {N : Nat} {a0 : DMemory} {a1 : Int} {r : Bool} (h : r19_Has_O N a0 a1 = some r) {A1 : Option Addr} {n1 c1 : Nat} {A2 : Option Addr} {n2 c2 : Nat} : Okc Tryz.prog 14 [.agg #[.slice A1 n1 c1, .slice A2 n2 c2], iV a1] ([kS1 A1 n1 c1 a0.Young, kS1 A2 n2 c2 a0.Old]) (fun (u : Value) (post : List Chunk) => u = .bool r ∧ post = []) := by
 refine ok_E Tryz.func14 rfl rfl ?_
 simp only [envOf]
 refine run ?_
 refine gD (op_box rfl rfl) ?_
 rintro _ _ ⟨B3, rfl, rfl⟩
 refine run ?_
 refine G_seq ?_
 refine run ?_
 refine G_cond rfl (fun g4 => ?_) (fun g4 => ?_)
 ·replace h := cond_t g4 h
  refine run ?_
  obtain rfl := Option.some.inj h
  exact endG1 rfl rfl (cv_sel [] 3 rfl rfl) ⟨rfl, rfl⟩
 ·replace h := cond_f g4 h
  refine run ?_
  refine G_seq ?_
  refine run ?_
  refine gE (ev_rem rfl rfl (by decide)) ?_
  refine run ?_
  refine G_cond rfl (fun g5 => ?_) (fun g5 => ?_)
  ·replace h := cond_t g5 h
   refine run ?_
   obtain ⟨q6, h⟩ := req_elim h
   refine gE (ev_sub rfl rfl q6.1 q6.2) ?_
   obtain ⟨q7, h⟩ := req_elim h
   refine gE (ev_quo rfl rfl (by decide) q7.1 q7.2) ?_
   refine run ?_
   refine gR (rd_len 1 rfl els_sl rfl Tryz.underlying22) ?_
   refine run ?_
   obtain rfl := Option.some.inj h
   exact endG1 rfl rfl (cv_sel [] 3 rfl rfl) ⟨rfl, rfl⟩
  ·replace h := cond_f g5 h
   refine run ?_
   obtain ⟨q8, h⟩ := req_elim h
   refine gE (ev_sub rfl rfl q8.1 q8.2) ?_
   obtain ⟨q9, h⟩ := req_elim h
   refine gE (ev_quo rfl rfl (by decide) q9.1 q9.2) ?_
   refine run ?_
   refine gR (rd_len 2 rfl els_sl rfl Tryz.underlying22) ?_
   refine run ?_
   obtain rfl := Option.some.inj h
   exact endG1 rfl rfl (cv_sel [] 3 rfl rfl) ⟨rfl, rfl⟩
theorem r19_Has_free {r : Bool} : ∀ v post, ((fun (u : Value) (post : List Chunk) => u = .bool r ∧ post = [])) v post → ∀ c ∈ post, Free c := by
 rintro _ _ ⟨rfl, rfl⟩; exact mem_nil
def r19_At_O (N : Nat) (a0 : DMemory) (a1 : Int) : Option DCell :=
 (r19_Has_O N a0 a1).bind fun y5 => bif !y5 then (some (⟨0, 0, 0, 0, [], []⟩ : DCell)) else (bif decide (a1.tmod 2 = 1) then (req (in64 (a1 - 1)) (req (in64 ((a1 - 1).tdiv 2)) ((getE a0.Young ((a1 - 1).tdiv 2)).bind fun x12 => some x12))) else (req (in64 (a1 - 2)) (req (in64 ((a1 - 2).tdiv 2)) ((getE a0.Old ((a1 - 2).tdiv 2)).bind fun x18 => some x18))))
theorem r19_At_ok {N : Nat} {a0 : DMemory} {a1 : Int} {r : DCell} (h : r19_At_O N a0 a1 = some r) {A1 : Option Addr} {n1 c1 : Nat} {A2 : Option Addr} {n2 c2 : Nat} : Okc Tryz.prog 17 [.agg #[.slice A1 n1 c1, .slice A2 n2 c2], iV a1] ([kS1 A1 n1 c1 a0.Young, kS1 A2 n2 c2 a0.Old]) (fun (u : Value) (post : List Chunk) => ∃ A0 n0 c0 A1 n1 c1, u = .agg #[iV r.Kind, iV r.Shape, iV r.Flags, iV r.Age, .slice A0 n0 c0, .slice A1 n1 c1] ∧ post = [kS0 A0 n0 c0 r.Slots, kS0 A1 n1 c1 r.More]) := by
 refine ok_E Tryz.func17 rfl rfl ?_
 simp only [envOf]
 refine run ?_
 refine gD (op_box rfl rfl) ?_
 rintro _ _ ⟨B3, rfl, rfl⟩
 refine gD (op_alloc zero32 rfl) ?_
 rintro _ _ ⟨B4, rfl, rfl⟩
 refine run ?_
 refine G_seq ?_
 refine run ?_
 refine gR (rd_boxS (us := [.slice A1 n1 c1, .slice A2 n2 c2]) 1 rfl rfl agg24 rfl) ?_
 refine run ?_
 obtain ⟨y5, hy5, h⟩ := bind_elim h
 refine gD (op_callR (r19_Has_ok hy5) call14 rfl (mem_cons (lent_ro (i := 2) rfl rfl) (mem_cons (lent_ro (i := 3) rfl rfl) mem_nil)) r19_Has_free) ?_
 rintro _ _ ⟨_, ⟨rfl, rfl⟩, rfl⟩
 refine run ?_
 refine G_cond rfl (fun g6 => ?_) (fun g6 => ?_)
 ·replace h := cond_t g6 h
  refine run ?_
  refine gE (ev_build rfl (bld_32_)) ?_
  refine gO (op_store (us := [iV 0, iV 0, iV 0, iV 0, .slice none 0 0, .slice none 0 0]) (cs' := [iV 0, iV 0, iV 0, iV 0, .slice none 0 0, .slice none 0 0]) 0 rfl rfl rfl rfl size32 rfl rfl rfl) ?_
  rintro _ _ rfl
  refine run ?_
  obtain rfl := Option.some.inj h
  exact endGl (rs := [.cell 4 32]) (vs := [.agg #[iV 0, iV 0, iV 0, iV 0, .slice none 0 0, .slice none 0 0]]) rfl (.cons (rv_boxS 0 rfl rfl agg32) .nil) rfl ((cv_nilS rDValue _).trans ((cv_nilS rDValue _).trans (cv_sel [1, 0] 6 rfl rfl))) ⟨_, _, _, _, _, _, rfl, rfl⟩
 ·replace h := cond_f g6 h
  refine run ?_
  refine G_seq ?_
  refine run ?_
  refine gE (ev_rem rfl rfl (by decide)) ?_
  refine run ?_
  refine G_cond rfl (fun g9 => ?_) (fun g9 => ?_)
  ·replace h := cond_t g9 h
   refine run ?_
   obtain ⟨q10, h⟩ := req_elim h
   refine gE (ev_sub rfl rfl q10.1 q10.2) ?_
   obtain ⟨q11, h⟩ := req_elim h
   refine gE (ev_quo rfl rfl (by decide) q11.1 q11.2) ?_
   obtain ⟨x12, hx12, h⟩ := bind_elim h
   obtain ⟨lx12, ux12, hx12⟩ := getE_elim hx12
   refine gR (rd_idx 2 rfl els_sl rfl rfl Tryz.underlying22 size32 lx12 ux12) ?_
   refine G_row 2 rfl hx12 (open_DCell x12) ?_
   rintro _ _ ⟨A13, n13, c13, A14, n14, c14, rfl, rfl⟩
   refine gR (rd_rowS (us := [iV x12.Kind, iV x12.Shape, iV x12.Flags, iV x12.Age, .slice A13 n13 c13, .slice A14 n14 c14]) 0 rfl rfl agg32 rfl) ?_
   refine gO (op_store (us := [iV x12.Kind, iV x12.Shape, iV x12.Flags, iV x12.Age, .slice A13 n13 c13, .slice A14 n14 c14]) (cs' := [iV x12.Kind, iV x12.Shape, iV x12.Flags, iV x12.Age, .slice A13 n13 c13, .slice A14 n14 c14]) 3 rfl rfl rfl rfl size32 rfl rfl rfl) ?_
   rintro _ _ rfl
   refine run ?_
   obtain rfl := Option.some.inj h
   exact endGl (rs := [.cell 4 32]) (vs := [.agg #[iV x12.Kind, iV x12.Shape, iV x12.Flags, iV x12.Age, .slice A13 n13 c13, .slice A14 n14 c14]]) rfl (.cons (rv_boxS 3 rfl rfl agg32) .nil) rfl (cv_sel [1, 2] 7 rfl rfl) ⟨_, _, _, _, _, _, rfl, rfl⟩
  ·replace h := cond_f g9 h
   refine run ?_
   obtain ⟨q16, h⟩ := req_elim h
   refine gE (ev_sub rfl rfl q16.1 q16.2) ?_
   obtain ⟨q17, h⟩ := req_elim h
   refine gE (ev_quo rfl rfl (by decide) q17.1 q17.2) ?_
   obtain ⟨x18, hx18, h⟩ := bind_elim h
   obtain ⟨lx18, ux18, hx18⟩ := getE_elim hx18
   refine gR (rd_idx 3 rfl els_sl rfl rfl Tryz.underlying22 size32 lx18 ux18) ?_
   refine G_row 3 rfl hx18 (open_DCell x18) ?_
   rintro _ _ ⟨A19, n19, c19, A20, n20, c20, rfl, rfl⟩
   refine gR (rd_rowS (us := [iV x18.Kind, iV x18.Shape, iV x18.Flags, iV x18.Age, .slice A19 n19 c19, .slice A20 n20 c20]) 0 rfl rfl agg32 rfl) ?_
   refine gO (op_store (us := [iV x18.Kind, iV x18.Shape, iV x18.Flags, iV x18.Age, .slice A19 n19 c19, .slice A20 n20 c20]) (cs' := [iV x18.Kind, iV x18.Shape, iV x18.Flags, iV x18.Age, .slice A19 n19 c19, .slice A20 n20 c20]) 3 rfl rfl rfl rfl size32 rfl rfl rfl) ?_
   rintro _ _ rfl
   refine G_norm ([rowC (elemQ (.slice A2 n2 c2) (((a1 - 2).tdiv 2).toNat) 6 0) [iV x18.Kind, iV x18.Shape, iV x18.Flags, iV x18.Age, .slice A19 n19 c19, .slice A20 n20 c20], kS0 A19 n19 c19 x18.Slots, kS0 A20 n20 c20 x18.More, boxC B4 32 [iV x18.Kind, iV x18.Shape, iV x18.Flags, iV x18.Age, .slice A19 n19 c19, .slice A20 n20 c20], boxC B3 24 [.slice A1 n1 c1, .slice A2 n2 c2], kS1 A1 n1 c1 a0.Young, kS1 A2 n2 c2 a0.Old]) rfl ?_
   refine run ?_
   obtain rfl := Option.some.inj h
   exact endGl (rs := [.cell 4 32]) (vs := [.agg #[iV x18.Kind, iV x18.Shape, iV x18.Flags, iV x18.Age, .slice A19 n19 c19, .slice A20 n20 c20]]) rfl (.cons (rv_boxS 3 rfl rfl agg32) .nil) rfl (cv_sel [1, 2] 7 rfl rfl) ⟨_, _, _, _, _, _, rfl, rfl⟩
def r15_SameValues_j4 (N : Nat) : Option Bool :=
 some true
def r15_SameValues_l5 (N : Nat) (a0 : (List DValue)) (a1 : (List DValue)) : Nat → Int → Option Bool
 | 0, _ => none
 | m5 + 1, p6 => bif decide (p6 < (a0.length : Int)) then ((getE a0 p6).bind fun x8 => (getE a1 p6).bind fun x9 => bif !decide (x8 = x9) then (some false) else (req (in64 (p6 + 1)) ((r15_SameValues_l5 N a0 a1 m5) (p6 + 1)))) else (r15_SameValues_j4 N)
theorem r15_SameValues_l5_s {N m5 : Nat} {a0 : (List DValue)} {a1 : (List DValue)} {p6 : Int} : r15_SameValues_l5 N a0 a1 (m5 + 1) p6 = bif decide (p6 < (a0.length : Int)) then ((getE a0 p6).bind fun x8 => (getE a1 p6).bind fun x9 => bif !decide (x8 = x9) then (some false) else (req (in64 (p6 + 1)) ((r15_SameValues_l5 N a0 a1 m5) (p6 + 1)))) else (r15_SameValues_j4 N) := rfl
def r15_SameValues_O (N : Nat) (a0 : (List DValue)) (a1 : (List DValue)) : Option Bool :=
 bif !decide ((a0.length : Int) = (a1.length : Int)) then (some false) else (r15_SameValues_l5 N a0 a1 N 0)
theorem r15_SameValues_ok {N : Nat} {a0 : (List DValue)} {a1 : (List DValue)} {r : Bool} (h : r15_SameValues_O N a0 a1 = some r) {A1 : Option Addr} {n1 c1 : Nat} {A2 : Option Addr} {n2 c2 : Nat} : Okc Tryz.prog 35 [.slice A1 n1 c1, .slice A2 n2 c2] ([kS0 A1 n1 c1 a0, kS0 A2 n2 c2 a1]) (fun (u : Value) (post : List Chunk) => u = .bool r ∧ post = []) := by
 refine ok_E Tryz.func35 rfl rfl ?_
 simp only [envOf]
 refine run ?_
 refine G_seq ?_
 refine run ?_
 refine gR (rd_len 0 rfl els_sl rfl Tryz.underlying25) ?_
 refine run ?_
 refine gR (rd_len 1 rfl els_sl rfl Tryz.underlying25) ?_
 refine run ?_
 refine G_cond rfl (fun g3 => ?_) (fun g3 => ?_)
 ·replace h := cond_t g3 h
  refine run ?_
  obtain rfl := Option.some.inj h
  exact endG1 rfl rfl (cv_sel [] 2 rfl rfl) ⟨rfl, rfl⟩
 ·replace h := cond_f g3 h
  refine run ?_
  refine G_joinF (fun s L => r15_SameValues_j4 N = some r ∧ s = [(4, .bool false)] ∧ L = []) ?_ ?_
  ·refine run ?_
   refine G_loopF (fun m s L => ∃ (p6 : Int), r15_SameValues_l5 N a0 a1 m p6 = some r ∧ s = [(0, .slice A1 n1 c1), (1, .slice A2 n2 c2), (4, .bool false), (5, iV p6)] ∧ L = [kS0 A1 n1 c1 a0, kS0 A2 n2 c2 a1]) N _ _ ⟨0, h, rfl, rfl⟩ sA (cv_sel [0, 1] 2 rfl rfl) ?_
   rintro (_ | m5) _ _ ⟨p6, h, rfl, rfl⟩
   ·exact none_some h
   rw [r15_SameValues_l5_s] at h
   refine G_seq ?_
   refine run ?_
   refine gR (rd_len 0 rfl els_sl rfl Tryz.underlying25) ?_
   refine run ?_
   refine G_cond rfl (fun g7 => ?_) (fun g7 => ?_)
   ·replace h := cond_t g7 h
    refine run ?_
    refine G_seq ?_
    refine G_block ?_
    refine G_seq ?_
    refine G_drawn (by kernel_rfl) _ (cv_refl _) ?_
    refine T3_ev 0 rfl (by kernel_rfl) (ev_move rfl) rfl rfl ?_
    refine T3_ev 1 rfl (by kernel_rfl) (ev_move rfl) rfl rfl ?_
    obtain ⟨x8, hx8, h⟩ := bind_elim h
    obtain ⟨lx8, ux8, hx8⟩ := getE_elim hx8
    refine T3_rd 2 rfl (by kernel_rfl) (rd_idx 0 rfl els_sl rfl rfl Tryz.underlying25 size38 lx8 ux8) rfl rfl ?_
    refine T3_rd 3 rfl (by kernel_rfl) (rd_elemS (us := [iV x8.Kind, iV x8.N, .string x8.S]) 0 rfl els_sl rfl hx8 agg38 (fun _ _ _ h => by rw [show _ = _ from h]; rfl)) rfl rfl ?_
    refine T3_ev 4 rfl (by kernel_rfl) (ev_move rfl) rfl rfl ?_
    refine T3_ev 5 rfl (by kernel_rfl) (ev_move rfl) rfl rfl ?_
    obtain ⟨x9, hx9, h⟩ := bind_elim h
    obtain ⟨lx9, ux9, hx9⟩ := getE_elim hx9
    refine T3_rd 6 rfl (by kernel_rfl) (rd_idx 1 rfl els_sl rfl rfl Tryz.underlying25 size38 lx9 ux9) rfl rfl ?_
    refine T3_rd 7 rfl (by kernel_rfl) (rd_elemS (us := [iV x9.Kind, iV x9.N, .string x9.S]) 1 rfl els_sl rfl hx9 agg38 (fun _ _ _ h => by rw [show _ = _ from h]; rfl)) rfl rfl ?_
    refine T3_ev 8 rfl (by kernel_rfl) (ev_seqn38 (x := x8) (y := x9) rfl rfl) rfl rfl ?_
    refine T3_done (by kernel_rfl) ?_
    refine nx_n ?_
    refine G_cond rfl (fun g10 => ?_) (fun g10 => ?_)
    ·replace h := cond_t g10 h
     refine run ?_
     obtain rfl := Option.some.inj h
     exact endG1 rfl rfl (cv_sel [] 2 rfl rfl) ⟨rfl, rfl⟩
    ·replace h := cond_f g10 h
     refine run ?_
     obtain ⟨q11, h⟩ := req_elim h
     refine gE (ev_add rfl rfl q11.1 q11.2) ?_
     refine run ?_
     exact ⟨m5, _, _, Nat.lt_succ_self _, ⟨p6 + 1, h, rfl, rfl⟩, sA, cv_sel [0, 1] 2 rfl rfl⟩
   ·replace h := cond_f g7 h
    refine run ?_
    exact ⟨_, _, ⟨h, rfl, rfl⟩, sA, cv_sel [] 2 rfl rfl⟩
  ·rintro _ _ ⟨h, rfl, rfl⟩
   refine run ?_
   obtain rfl := Option.some.inj h
   exact endG1 rfl rfl (cv_sel [] 0 rfl rfl) ⟨rfl, rfl⟩
theorem r15_SameValues_free {r : Bool} : ∀ v post, ((fun (u : Value) (post : List Chunk) => u = .bool r ∧ post = [])) v post → ∀ c ∈ post, Free c := by
 rintro _ _ ⟨rfl, rfl⟩; exact mem_nil
def r15_Same_O (N : Nat) (a0 : DCell) (a1 : DCell) : Option Bool :=
 (bif decide (a0.Kind = a1.Kind) then (some (decide (a0.Shape = a1.Shape))) else (some false)).bind fun b7 => (bif b7 then (some (decide (a0.Flags = a1.Flags))) else (some false)).bind fun b8 => (bif b8 then (some (decide (a0.Age = a1.Age))) else (some false)).bind fun b9 => (bif b9 then ((r15_SameValues_O N a0.Slots a1.Slots).bind fun y11 => some y11) else (some false)).bind fun b10 => (bif b10 then ((r15_SameValues_O N a0.More a1.More).bind fun y13 => some y13) else (some false)).bind fun b12 => some b12
theorem r15_Same_ok {N : Nat} {a0 : DCell} {a1 : DCell} {r : Bool} (h : r15_Same_O N a0 a1 = some r) {A1 : Option Addr} {n1 c1 : Nat} {A2 : Option Addr} {n2 c2 : Nat} {A3 : Option Addr} {n3 c3 : Nat} {A4 : Option Addr} {n4 c4 : Nat} : Okc Tryz.prog 15 [.agg #[iV a0.Kind, iV a0.Shape, iV a0.Flags, iV a0.Age, .slice A1 n1 c1, .slice A2 n2 c2], .agg #[iV a1.Kind, iV a1.Shape, iV a1.Flags, iV a1.Age, .slice A3 n3 c3, .slice A4 n4 c4]] ([kS0 A1 n1 c1 a0.Slots, kS0 A2 n2 c2 a0.More, kS0 A3 n3 c3 a1.Slots, kS0 A4 n4 c4 a1.More]) (fun (u : Value) (post : List Chunk) => u = .bool r ∧ post = []) := by
 refine ok_E Tryz.func15 rfl rfl ?_
 simp only [envOf]
 refine run ?_
 refine gD (op_box rfl rfl) ?_
 rintro _ _ ⟨B5, rfl, rfl⟩
 refine gD (op_box rfl rfl) ?_
 rintro _ _ ⟨B6, rfl, rfl⟩
 refine run ?_
 obtain ⟨b7, hb7, h⟩ := bind_elim h
 refine G_segb 6 16 b7 ?_ ?_
 ·clear h
  refine G_case 10 rfl (fun g7 => ?_) (fun g7 => ?_)
  ·have h := cond_t g7 hb7
   refine run ?_
   obtain rfl := Option.some.inj h
   exact G_joined sA (cv_sel [0, 1, 2, 3, 4, 5] 6 rfl rfl)
  ·have h := cond_f g7 hb7
   refine run ?_
   obtain rfl := Option.some.inj h
   exact G_joined sA (cv_sel [0, 1, 2, 3, 4, 5] 6 rfl rfl)
 refine run ?_
 obtain ⟨b8, hb8, h⟩ := bind_elim h
 refine G_segb 6 23 b8 ?_ ?_
 ·clear h
  refine G_case 17 rfl (fun g8 => ?_) (fun g8 => ?_)
  ·have h := cond_t g8 hb8
   refine run ?_
   obtain rfl := Option.some.inj h
   exact G_joined sA (cv_sel [0, 1, 2, 3, 4, 5] 6 rfl rfl)
  ·have h := cond_f g8 hb8
   refine run ?_
   obtain rfl := Option.some.inj h
   exact G_joined sA (cv_sel [0, 1, 2, 3, 4, 5] 6 rfl rfl)
 refine run ?_
 obtain ⟨b9, hb9, h⟩ := bind_elim h
 refine G_segb 6 30 b9 ?_ ?_
 ·clear h
  refine G_case 24 rfl (fun g9 => ?_) (fun g9 => ?_)
  ·have h := cond_t g9 hb9
   refine run ?_
   obtain rfl := Option.some.inj h
   exact G_joined sA (cv_sel [0, 1, 2, 3, 4, 5] 6 rfl rfl)
  ·have h := cond_f g9 hb9
   refine run ?_
   obtain rfl := Option.some.inj h
   exact G_joined sA (cv_sel [0, 1, 2, 3, 4, 5] 6 rfl rfl)
 refine run ?_
 obtain ⟨b10, hb10, h⟩ := bind_elim h
 refine G_segb 6 37 b10 ?_ ?_
 ·clear h
  refine G_case 31 rfl (fun g10 => ?_) (fun g10 => ?_)
  ·have h := cond_t g10 hb10
   refine run ?_
   obtain ⟨y11, hy11, h⟩ := bind_elim h
   refine G_opd (op_callR (r15_SameValues_ok hy11) call35 rfl (mem_cons (lent_ro (i := 2) rfl rfl) (mem_cons (lent_ro (i := 4) rfl rfl) mem_nil)) r15_SameValues_free) rfl (g_tt g10 rfl) rfl ?_
   rintro _ _ ⟨_, ⟨rfl, rfl⟩, rfl⟩
   refine run ?_
   obtain rfl := Option.some.inj h
   exact G_joined sA (cv_sel [0, 1, 2, 3, 4, 5] 6 rfl rfl)
  ·have h := cond_f g10 hb10
   refine run ?_
   obtain rfl := Option.some.inj h
   exact G_joined sA (cv_sel [0, 1, 2, 3, 4, 5] 6 rfl rfl)
 refine run ?_
 obtain ⟨b12, hb12, h⟩ := bind_elim h
 refine G_segb 6 44 b12 ?_ ?_
 ·clear h
  refine G_case 38 rfl (fun g12 => ?_) (fun g12 => ?_)
  ·have h := cond_t g12 hb12
   refine run ?_
   obtain ⟨y13, hy13, h⟩ := bind_elim h
   refine G_opd (op_callR (r15_SameValues_ok hy13) call35 rfl (mem_cons (lent_ro (i := 3) rfl rfl) (mem_cons (lent_ro (i := 5) rfl rfl) mem_nil)) r15_SameValues_free) rfl (g_tt g12 rfl) rfl ?_
   rintro _ _ ⟨_, ⟨rfl, rfl⟩, rfl⟩
   refine run ?_
   obtain rfl := Option.some.inj h
   exact G_joined sA (cv_sel [0, 1, 2, 3, 4, 5] 6 rfl rfl)
  ·have h := cond_f g12 hb12
   refine run ?_
   obtain rfl := Option.some.inj h
   exact G_joined sA (cv_sel [0, 1, 2, 3, 4, 5] 6 rfl rfl)
 refine run ?_
 obtain rfl := Option.some.inj h
 exact endG1 rfl rfl (cv_sel [] 6 rfl rfl) ⟨rfl, rfl⟩
theorem r15_Same_free {r : Bool} : ∀ v post, ((fun (u : Value) (post : List Chunk) => u = .bool r ∧ post = [])) v post → ∀ c ∈ post, Free c := by
 rintro _ _ ⟨rfl, rfl⟩; exact mem_nil
def slices_IndexFunc_j2 (N : Nat) (ff : Int → Option Bool) : Option Int :=
 some (-1)
def slices_IndexFunc_l3 (N : Nat) (ff : Int → Option Bool) (a0 : (List Int)) : Nat → Int → Option Int
 | 0, _ => none
 | m3 + 1, p4 => bif decide (p4 < (a0.length : Int)) then ((getE a0 p4).bind fun x6 => (ff x6).bind fun y7 => bif y7 then (some p4) else (req (in64 (p4 + 1)) ((slices_IndexFunc_l3 N ff a0 m3) (p4 + 1)))) else (slices_IndexFunc_j2 N ff)
theorem slices_IndexFunc_l3_s {N m3 : Nat} {ff : Int → Option Bool} {a0 : (List Int)} {p4 : Int} : slices_IndexFunc_l3 N ff a0 (m3 + 1) p4 = bif decide (p4 < (a0.length : Int)) then ((getE a0 p4).bind fun x6 => (ff x6).bind fun y7 => bif y7 then (some p4) else (req (in64 (p4 + 1)) ((slices_IndexFunc_l3 N ff a0 m3) (p4 + 1)))) else (slices_IndexFunc_j2 N ff) := rfl
def slices_IndexFunc_O (N : Nat) (a0 : (List Int)) (ff : Int → Option Bool) : Option Int :=
 slices_IndexFunc_l3 N ff a0 N 0
theorem slices_IndexFunc_ok {N : Nat} {a0 : (List Int)} {ff : Int → Option Bool} {r : Int} (h : slices_IndexFunc_O N a0 ff = some r) {A1 : Option Addr} {n1 c1 : Nat} {vf : Value} {G : List Chunk} (hf : FnOk Tryz.prog vf G (fun x => [iV x]) (fun r => .bool r) ff) : Okc Tryz.prog 113 [.slice A1 n1 c1, vf] (kS5 A1 n1 c1 a0 :: G) (fun (u : Value) (post : List Chunk) => u = iV r ∧ post = []) := by
 refine ok_E Tryz.func113 rfl rfl ?_
 simp only [envOf]
 refine run ?_
 refine G_joinF (fun s L => slices_IndexFunc_j2 N ff = some r ∧ s = [(4, iV 0)] ∧ L = G) ?_ ?_
 ·refine run ?_
  refine gR (rd_len 0 rfl els_sl rfl Tryz.underlying35) ?_
  refine run ?_
  refine G_loopF (fun m s L => ∃ (p4 : Int), slices_IndexFunc_l3 N ff a0 m p4 = some r ∧ s = [(0, .slice A1 n1 c1), (1, vf), (4, iV 0), (7, iV (a0.length : Int)), (8, iV p4)] ∧ L = kS5 A1 n1 c1 a0 :: G) N _ _ ⟨0, h, rfl, rfl⟩ sA (cv_sel [0] 1 rfl rfl) ?_
  rintro (_ | m3) _ _ ⟨p4, h, rfl, rfl⟩
  ·exact none_some h
  rw [slices_IndexFunc_l3_s] at h
  refine run ?_
  refine G_seq ?_
  refine G_cond rfl (fun g5 => ?_) (fun g5 => ?_)
  ·replace h := cond_t g5 h
   refine run ?_
   refine G_seq ?_
   refine run ?_
   obtain ⟨x6, hx6, h⟩ := bind_elim h
   obtain ⟨lx6, ux6, hx6⟩ := getE_elim hx6
   refine gR (rd_idx 0 rfl els_sl rfl rfl Tryz.underlying35 size3 lx6 ux6) ?_
   refine gR (rd_elem1 (u := iV x6) 0 rfl els_sl rfl hx6 one3 (fun _ _ _ h => by rw [show _ = _ from h]; rfl)) ?_
   obtain ⟨y7, hy7, h⟩ := bind_elim h
   refine gD (op_callf (a := x6) [kS5 A1 n1 c1 a0] hf hy7 rfl rfl) ?_
   rintro _ _ ⟨rfl, rfl⟩
   refine run ?_
   refine G_cond rfl (fun g8 => ?_) (fun g8 => ?_)
   ·replace h := cond_t g8 h
    refine run ?_
    obtain rfl := Option.some.inj h
    exact endG1 rfl rfl (cv_selD [] 1 rfl rfl) ⟨rfl, rfl⟩
   ·replace h := cond_f g8 h
    refine run ?_
    obtain ⟨q9, h⟩ := req_elim h
    refine gE (ev_add rfl rfl q9.1 q9.2) ?_
    refine run ?_
    exact ⟨m3, _, _, Nat.lt_succ_self _, ⟨p4 + 1, h, rfl, rfl⟩, sA, cv_sel [0] 1 rfl rfl⟩
  ·replace h := cond_f g5 h
   refine run ?_
   exact ⟨_, _, ⟨h, rfl, rfl⟩, sA, cv_sel [] 1 rfl rfl⟩
 ·rintro _ _ ⟨h, rfl, rfl⟩
  refine run ?_
  obtain rfl := Option.some.inj h
  exact endG1 rfl rfl (cv_selD [] 0 rfl rfl) ⟨rfl, rfl⟩
theorem slices_IndexFunc_free {r : Int} : ∀ v post, ((fun (u : Value) (post : List Chunk) => u = iV r ∧ post = [])) v post → ∀ c ∈ post, Free c := by
 rintro _ _ ⟨rfl, rfl⟩; exact mem_nil
def slices_ContainsFunc_O (N : Nat) (a0 : (List Int)) (ff : Int → Option Bool) : Option Bool :=
 (slices_IndexFunc_O N a0 ff).bind fun y2 => some (decide (0 ≤ y2))
theorem slices_ContainsFunc_ok {N : Nat} {a0 : (List Int)} {ff : Int → Option Bool} {r : Bool} (h : slices_ContainsFunc_O N a0 ff = some r) {A1 : Option Addr} {n1 c1 : Nat} {vf : Value} {G : List Chunk} (hf : FnOk Tryz.prog vf G (fun x => [iV x]) (fun r => .bool r) ff) : Okc Tryz.prog 54 [.slice A1 n1 c1, vf] (kS5 A1 n1 c1 a0 :: G) (fun (u : Value) (post : List Chunk) => u = .bool r ∧ post = []) := by
 refine ok_E Tryz.func54 rfl rfl ?_
 simp only [envOf]
 refine run ?_
 obtain ⟨y2, hy2, h⟩ := bind_elim h
 refine gD (op_callR (slices_IndexFunc_ok hy2 hf) call113 rfl (mem_cons (lent_ro (i := 0) rfl rfl) (lent_tail (E := [kS5 A1 n1 c1 a0]) hf.1)) slices_IndexFunc_free) ?_
 rintro _ _ ⟨_, ⟨rfl, rfl⟩, rfl⟩
 refine run ?_
 obtain rfl := Option.some.inj h
 exact endG1 rfl rfl (cv_selD [] 1 rfl rfl) ⟨rfl, rfl⟩
theorem slices_ContainsFunc_free {r : Bool} : ∀ v post, ((fun (u : Value) (post : List Chunk) => u = .bool r ∧ post = [])) v post → ∀ c ∈ post, Free c := by
 rintro _ _ ⟨rfl, rfl⟩; exact mem_nil
def cell_Weakly_O (N : Nat) (a0 : DCell) : Option (List Int) :=
 (cell_addresses_O N a0 false).bind fun y4 => some y4
theorem cell_Weakly_ok {N : Nat} {a0 : DCell} {r : (List Int)} (h : cell_Weakly_O N a0 = some r) {A1 : Option Addr} {n1 c1 : Nat} {A2 : Option Addr} {n2 c2 : Nat} : Okc Tryz.prog 56 [.agg #[iV a0.Kind, iV a0.Shape, iV a0.Flags, iV a0.Age, .slice A1 n1 c1, .slice A2 n2 c2]] ([kS0 A1 n1 c1 a0.Slots, kS0 A2 n2 c2 a0.More]) (fun (u : Value) (post : List Chunk) => ∃ A0 n0 c0, u = .slice A0 n0 c0 ∧ post = [kO2 A0 n0 c0 r]) := by
 refine ok_E Tryz.func56 rfl rfl ?_
 simp only [envOf]
 refine run ?_
 refine gD (op_box rfl rfl) ?_
 rintro _ _ ⟨B3, rfl, rfl⟩
 refine run ?_
 refine gR (rd_boxS (us := [iV a0.Kind, iV a0.Shape, iV a0.Flags, iV a0.Age, .slice A1 n1 c1, .slice A2 n2 c2]) 0 rfl rfl agg32 rfl) ?_
 obtain ⟨y4, hy4, h⟩ := bind_elim h
 refine gD (op_callR (cell_addresses_ok hy4) call114 rfl (mem_cons (lent_ro (i := 1) rfl rfl) (mem_cons (lent_ro (i := 2) rfl rfl) mem_nil)) cell_addresses_free) ?_
 rintro _ _ ⟨_, ⟨A5, n5, c5, rfl, rfl⟩, rfl⟩
 refine run ?_
 obtain rfl := Option.some.inj h
 exact endG1 rfl rfl (cv_sel [0] 4 rfl rfl) ⟨_, _, _, rfl, rfl⟩
theorem cell_Weakly_free {r : (List Int)} : ∀ v post, ((fun (u : Value) (post : List Chunk) => ∃ A0 n0 c0, u = .slice A0 n0 c0 ∧ post = [kO2 A0 n0 c0 r])) v post → ∀ c ∈ post, Free c := by
 rintro _ _ ⟨_, _, _, rfl, rfl⟩; exact mem_cons free_own (mem_nil)
def r15_May_O (N : Nat) (a0 : DValue) : Option Bool :=
 (bif decide (a0.Kind < 0) then (some true) else (some (decide (9 < a0.Kind)))).bind fun b2 => bif b2 then (some false) else (bif decide (a0.Kind = 5) then ((bif decide (a0.N = 0) then (some (decide ((a0.S.size : Int) ≤ 65536))) else (some false)).bind fun b5 => some b5) else (bif !(a0.S.toList == (⟨#[]⟩ : ByteArray).toList) then (some false) else (bif decide (a0.Kind = 2) then ((bif decide (a0.N = 0) then (some true) else (some (decide (a0.N = 1)))).bind fun b8 => some b8) else (bif decide (a0.Kind = 3) then ((bif decide ((-9007199254740992) ≤ a0.N) then (some (decide (a0.N ≤ 9007199254740992))) else (some false)).bind fun b10 => some b10) else ((bif decide (a0.Kind = 6) then (some true) else (some (decide (a0.Kind = 7)))).bind fun b11 => (bif b11 then (some true) else (some (decide (a0.Kind = 9)))).bind fun b12 => bif b12 then (some (decide (1 ≤ a0.N))) else (some (decide (a0.N = 0))))))))
theorem r15_May_ok {N : Nat} {a0 : DValue} {r : Bool} (h : r15_May_O N a0 = some r) : Okc Tryz.prog 144 [.agg #[iV a0.Kind, iV a0.N, .string a0.S]] ([]) (fun (u : Value) (post : List Chunk) => u = .bool r ∧ post = []) := by
 refine ok_E Tryz.func144 rfl rfl ?_
 simp only [envOf]
 refine run ?_
 refine gD (op_box rfl rfl) ?_
 rintro _ _ ⟨B1, rfl, rfl⟩
 refine run ?_
 refine G_seq ?_
 refine run ?_
 obtain ⟨b2, hb2, h⟩ := bind_elim h
 refine G_segb 4 10 b2 ?_ ?_
 ·clear h
  refine G_case 6 rfl (fun g2 => ?_) (fun g2 => ?_)
  ·have h := cond_t g2 hb2
   refine run ?_
   obtain rfl := Option.some.inj h
   exact G_joined sA (cv_sel [0] 1 rfl rfl)
  ·have h := cond_f g2 hb2
   refine run ?_
   obtain rfl := Option.some.inj h
   exact G_joined sA (cv_sel [0] 1 rfl rfl)
 refine run ?_
 refine G_cond rfl (fun g3 => ?_) (fun g3 => ?_)
 ·replace h := cond_t g3 h
  refine run ?_
  obtain rfl := Option.some.inj h
  exact endG1 rfl rfl (cv_sel [] 1 rfl rfl) ⟨rfl, rfl⟩
 ·replace h := cond_f g3 h
  refine run ?_
  refine G_seq ?_
  refine run ?_
  refine G_cond rfl (fun g4 => ?_) (fun g4 => ?_)
  ·replace h := cond_t g4 h
   refine run ?_
   obtain ⟨b5, hb5, h⟩ := bind_elim h
   refine G_segb 5 22 b5 ?_ ?_
   ·clear h
    refine G_case 17 rfl (fun g5 => ?_) (fun g5 => ?_)
    ·have h := cond_t g5 hb5
     refine run ?_
     refine G_ev (ev_lenS rfl Tryz.underlying9) rfl (g_tt g5 rfl) rfl ?_
     refine run ?_
     obtain rfl := Option.some.inj h
     exact G_joined sA (cv_sel [0] 1 rfl rfl)
    ·have h := cond_f g5 hb5
     refine run ?_
     obtain rfl := Option.some.inj h
     exact G_joined sA (cv_sel [0] 1 rfl rfl)
   refine run ?_
   obtain rfl := Option.some.inj h
   exact endG1 rfl rfl (cv_sel [] 1 rfl rfl) ⟨rfl, rfl⟩
  ·replace h := cond_f g4 h
   refine run ?_
   refine G_seq ?_
   refine run ?_
   refine gE (ev_strne rfl rfl) ?_
   refine run ?_
   refine G_cond rfl (fun g6 => ?_) (fun g6 => ?_)
   ·replace h := cond_t g6 h
    refine run ?_
    obtain rfl := Option.some.inj h
    exact endG1 rfl rfl (cv_sel [] 1 rfl rfl) ⟨rfl, rfl⟩
   ·replace h := cond_f g6 h
    refine run ?_
    refine G_seq ?_
    refine run ?_
    refine G_cond rfl (fun g7 => ?_) (fun g7 => ?_)
    ·replace h := cond_t g7 h
     refine run ?_
     obtain ⟨b8, hb8, h⟩ := bind_elim h
     refine G_segb 4 36 b8 ?_ ?_
     ·clear h
      refine G_case 32 rfl (fun g8 => ?_) (fun g8 => ?_)
      ·have h := cond_t g8 hb8
       refine run ?_
       obtain rfl := Option.some.inj h
       exact G_joined sA (cv_sel [0] 1 rfl rfl)
      ·have h := cond_f g8 hb8
       refine run ?_
       obtain rfl := Option.some.inj h
       exact G_joined sA (cv_sel [0] 1 rfl rfl)
     refine run ?_
     obtain rfl := Option.some.inj h
     exact endG1 rfl rfl (cv_sel [] 1 rfl rfl) ⟨rfl, rfl⟩
    ·replace h := cond_f g7 h
     refine run ?_
     refine G_seq ?_
     refine run ?_
     refine G_cond rfl (fun g9 => ?_) (fun g9 => ?_)
     ·replace h := cond_t g9 h
      refine run ?_
      obtain ⟨b10, hb10, h⟩ := bind_elim h
      refine G_segb 4 47 b10 ?_ ?_
      ·clear h
       refine G_case 43 rfl (fun g10 => ?_) (fun g10 => ?_)
       ·have h := cond_t g10 hb10
        refine run ?_
        obtain rfl := Option.some.inj h
        exact G_joined sA (cv_sel [0] 1 rfl rfl)
       ·have h := cond_f g10 hb10
        refine run ?_
        obtain rfl := Option.some.inj h
        exact G_joined sA (cv_sel [0] 1 rfl rfl)
      refine run ?_
      obtain rfl := Option.some.inj h
      exact endG1 rfl rfl (cv_sel [] 1 rfl rfl) ⟨rfl, rfl⟩
     ·replace h := cond_f g9 h
      refine run ?_
      refine G_seq ?_
      refine run ?_
      obtain ⟨b11, hb11, h⟩ := bind_elim h
      refine G_segb 4 55 b11 ?_ ?_
      ·clear h
       refine G_case 51 rfl (fun g11 => ?_) (fun g11 => ?_)
       ·have h := cond_t g11 hb11
        refine run ?_
        obtain rfl := Option.some.inj h
        exact G_joined sA (cv_sel [0] 1 rfl rfl)
       ·have h := cond_f g11 hb11
        refine run ?_
        obtain rfl := Option.some.inj h
        exact G_joined sA (cv_sel [0] 1 rfl rfl)
      refine run ?_
      obtain ⟨b12, hb12, h⟩ := bind_elim h
      refine G_segb 4 60 b12 ?_ ?_
      ·clear h
       refine G_case 56 rfl (fun g12 => ?_) (fun g12 => ?_)
       ·have h := cond_t g12 hb12
        refine run ?_
        obtain rfl := Option.some.inj h
        exact G_joined sA (cv_sel [0] 1 rfl rfl)
       ·have h := cond_f g12 hb12
        refine run ?_
        obtain rfl := Option.some.inj h
        exact G_joined sA (cv_sel [0] 1 rfl rfl)
      refine run ?_
      refine G_cond rfl (fun g13 => ?_) (fun g13 => ?_)
      ·replace h := cond_t g13 h
       refine run ?_
       obtain rfl := Option.some.inj h
       exact endG1 rfl rfl (cv_sel [] 1 rfl rfl) ⟨rfl, rfl⟩
      ·replace h := cond_f g13 h
       refine run ?_
       obtain rfl := Option.some.inj h
       exact endG1 rfl rfl (cv_sel [] 1 rfl rfl) ⟨rfl, rfl⟩
theorem r15_May_free {r : Bool} : ∀ v post, ((fun (u : Value) (post : List Chunk) => u = .bool r ∧ post = [])) v post → ∀ c ∈ post, Free c := by
 rintro _ _ ⟨rfl, rfl⟩; exact mem_nil
def r15_Props_O (N : Nat) (a0 : Int) : Option Bool :=
 (bif decide (a0 = 1) then (some true) else (some (decide (a0 = 2)))).bind fun b1 => (bif b1 then (some true) else (some (decide (a0 = 3)))).bind fun b2 => (bif b2 then (some true) else (some (decide (a0 = 6)))).bind fun b3 => (bif b3 then (some true) else (some (decide (a0 = 8)))).bind fun b4 => (bif b4 then (some true) else (some (decide (a0 = 9)))).bind fun b5 => (bif b5 then (some true) else (some (decide (a0 = 10)))).bind fun b6 => some b6
theorem r15_Props_ok {N : Nat} {a0 : Int} {r : Bool} (h : r15_Props_O N a0 = some r) : Okc Tryz.prog 182 [iV a0] ([]) (fun (u : Value) (post : List Chunk) => u = .bool r ∧ post = []) := by
 refine ok_E Tryz.func182 rfl rfl ?_
 simp only [envOf]
 refine run ?_
 obtain ⟨b1, hb1, h⟩ := bind_elim h
 refine G_segb 3 8 b1 ?_ ?_
 ·clear h
  refine G_case 5 rfl (fun g1 => ?_) (fun g1 => ?_)
  ·have h := cond_t g1 hb1
   refine run ?_
   obtain rfl := Option.some.inj h
   exact G_joined sA (cv_sel [] 0 rfl rfl)
  ·have h := cond_f g1 hb1
   refine run ?_
   obtain rfl := Option.some.inj h
   exact G_joined sA (cv_sel [] 0 rfl rfl)
 refine run ?_
 obtain ⟨b2, hb2, h⟩ := bind_elim h
 refine G_segb 3 12 b2 ?_ ?_
 ·clear h
  refine G_case 9 rfl (fun g2 => ?_) (fun g2 => ?_)
  ·have h := cond_t g2 hb2
   refine run ?_
   obtain rfl := Option.some.inj h
   exact G_joined sA (cv_sel [] 0 rfl rfl)
  ·have h := cond_f g2 hb2
   refine run ?_
   obtain rfl := Option.some.inj h
   exact G_joined sA (cv_sel [] 0 rfl rfl)
 refine run ?_
 obtain ⟨b3, hb3, h⟩ := bind_elim h
 refine G_segb 3 16 b3 ?_ ?_
 ·clear h
  refine G_case 13 rfl (fun g3 => ?_) (fun g3 => ?_)
  ·have h := cond_t g3 hb3
   refine run ?_
   obtain rfl := Option.some.inj h
   exact G_joined sA (cv_sel [] 0 rfl rfl)
  ·have h := cond_f g3 hb3
   refine run ?_
   obtain rfl := Option.some.inj h
   exact G_joined sA (cv_sel [] 0 rfl rfl)
 refine run ?_
 obtain ⟨b4, hb4, h⟩ := bind_elim h
 refine G_segb 3 20 b4 ?_ ?_
 ·clear h
  refine G_case 17 rfl (fun g4 => ?_) (fun g4 => ?_)
  ·have h := cond_t g4 hb4
   refine run ?_
   obtain rfl := Option.some.inj h
   exact G_joined sA (cv_sel [] 0 rfl rfl)
  ·have h := cond_f g4 hb4
   refine run ?_
   obtain rfl := Option.some.inj h
   exact G_joined sA (cv_sel [] 0 rfl rfl)
 refine run ?_
 obtain ⟨b5, hb5, h⟩ := bind_elim h
 refine G_segb 3 24 b5 ?_ ?_
 ·clear h
  refine G_case 21 rfl (fun g5 => ?_) (fun g5 => ?_)
  ·have h := cond_t g5 hb5
   refine run ?_
   obtain rfl := Option.some.inj h
   exact G_joined sA (cv_sel [] 0 rfl rfl)
  ·have h := cond_f g5 hb5
   refine run ?_
   obtain rfl := Option.some.inj h
   exact G_joined sA (cv_sel [] 0 rfl rfl)
 refine run ?_
 obtain ⟨b6, hb6, h⟩ := bind_elim h
 refine G_segb 3 28 b6 ?_ ?_
 ·clear h
  refine G_case 25 rfl (fun g6 => ?_) (fun g6 => ?_)
  ·have h := cond_t g6 hb6
   refine run ?_
   obtain rfl := Option.some.inj h
   exact G_joined sA (cv_sel [] 0 rfl rfl)
  ·have h := cond_f g6 hb6
   refine run ?_
   obtain rfl := Option.some.inj h
   exact G_joined sA (cv_sel [] 0 rfl rfl)
 refine run ?_
 obtain rfl := Option.some.inj h
 exact endG1 rfl rfl (cv_sel [] 0 rfl rfl) ⟨rfl, rfl⟩
theorem r15_Props_free {r : Bool} : ∀ v post, ((fun (u : Value) (post : List Chunk) => u = .bool r ∧ post = [])) v post → ∀ c ∈ post, Free c := by
 rintro _ _ ⟨rfl, rfl⟩; exact mem_nil
def r15_none_O (N : Nat) (a0 : DValue) (a1 : Int) : Option Bool :=
 (bif decide (a0.Kind = 0) then (some true) else (some (decide (a0.Kind = a1)))).bind fun b2 => some b2
theorem r15_none_ok {N : Nat} {a0 : DValue} {a1 : Int} {r : Bool} (h : r15_none_O N a0 a1 = some r) : Okc Tryz.prog 183 [.agg #[iV a0.Kind, iV a0.N, .string a0.S], iV a1] ([]) (fun (u : Value) (post : List Chunk) => u = .bool r ∧ post = []) := by
 refine ok_E Tryz.func183 rfl rfl ?_
 simp only [envOf]
 refine run ?_
 refine gD (op_box rfl rfl) ?_
 rintro _ _ ⟨B1, rfl, rfl⟩
 refine run ?_
 obtain ⟨b2, hb2, h⟩ := bind_elim h
 refine G_segb 5 13 b2 ?_ ?_
 ·clear h
  refine G_case 8 rfl (fun g2 => ?_) (fun g2 => ?_)
  ·have h := cond_t g2 hb2
   refine run ?_
   obtain rfl := Option.some.inj h
   exact G_joined sA (cv_sel [0] 1 rfl rfl)
  ·have h := cond_f g2 hb2
   refine run ?_
   obtain rfl := Option.some.inj h
   exact G_joined sA (cv_sel [0] 1 rfl rfl)
 refine run ?_
 obtain rfl := Option.some.inj h
 exact endG1 rfl rfl (cv_sel [] 1 rfl rfl) ⟨rfl, rfl⟩
theorem r15_none_free {r : Bool} : ∀ v post, ((fun (u : Value) (post : List Chunk) => u = .bool r ∧ post = [])) v post → ∀ c ∈ post, Free c := by
 rintro _ _ ⟨rfl, rfl⟩; exact mem_nil
def r15_slots_O (N : Nat) (a0 : DCell) : Option Bool :=
 (r15_Props_O N a0.Kind).bind fun y4 => (bif y4 then (some true) else ((bif decide (a0.Kind = 7) then (some (decide (0 < (a0.Slots.length : Int)))) else (some false)).bind fun b6 => some b6)).bind fun b5 => bif b5 then ((bif decide (1 ≤ (a0.Slots.length : Int)) then (some (decide ((a0.Slots.length : Int) ≤ 1025))) else (some false)).bind fun b8 => (bif b8 then ((getE a0.Slots 0).bind fun x10 => (bif decide (x10.Kind = 1) then (some true) else ((getE a0.Slots 0).bind fun x12 => some (decide (x12.Kind = 7)))).bind fun b11 => some b11) else (some false)).bind fun b9 => some b9) else (bif decide (a0.Kind = 7) then (some (decide (a0.Shape = 0))) else ((bif !decide (a0.Shape = 0) then (some true) else (some (!decide (a0.Flags = 0)))).bind fun b14 => bif b14 then (some false) else (bif decide (a0.Kind = 5) then ((bif decide ((a0.Slots.length : Int) = 2) then ((getE a0.Slots 0).bind fun x18 => (r15_none_O N x18 7).bind fun y19 => some y19) else (some false)).bind fun b17 => (bif b17 then ((getE a0.Slots 1).bind fun x21 => (r15_none_O N x21 7).bind fun y22 => some y22) else (some false)).bind fun b20 => some b20) else (some (decide ((a0.Slots.length : Int) = 0))))))
theorem r15_slots_ok {N : Nat} {a0 : DCell} {r : Bool} (h : r15_slots_O N a0 = some r) {A1 : Option Addr} {n1 c1 : Nat} {A2 : Option Addr} {n2 c2 : Nat} : Okc Tryz.prog 145 [.agg #[iV a0.Kind, iV a0.Shape, iV a0.Flags, iV a0.Age, .slice A1 n1 c1, .slice A2 n2 c2]] ([kS0 A1 n1 c1 a0.Slots, kS0 A2 n2 c2 a0.More]) (fun (u : Value) (post : List Chunk) => u = .bool r ∧ post = []) := by
 refine ok_E Tryz.func145 rfl rfl ?_
 simp only [envOf]
 refine run ?_
 refine gD (op_box rfl rfl) ?_
 rintro _ _ ⟨B3, rfl, rfl⟩
 refine run ?_
 refine G_seq ?_
 refine run ?_
 obtain ⟨y4, hy4, h⟩ := bind_elim h
 refine gD (op_callR (r15_Props_ok hy4) call182 rfl (mem_nil) r15_Props_free) ?_
 rintro _ _ ⟨_, ⟨rfl, rfl⟩, rfl⟩
 refine run ?_
 obtain ⟨b5, hb5, h⟩ := bind_elim h
 refine G_segb 10 16 b5 ?_ ?_
 ·clear h
  refine G_case 6 rfl (fun g5 => ?_) (fun g5 => ?_)
  ·have h := cond_t g5 hb5
   refine run ?_
   obtain rfl := Option.some.inj h
   exact G_joined sA (cv_sel [0, 1, 2] 3 rfl rfl)
  ·have h := cond_f g5 hb5
   refine run ?_
   obtain ⟨b6, hb6, h⟩ := bind_elim h
   refine G_segb 5 15 b6 ?_ ?_
   ·clear h
    refine G_case 10 rfl (fun g6 => ?_) (fun g6 => ?_)
    ·have h := cond_t g6 hb6
     refine run ?_
     refine G_rd (rd_len 1 rfl els_sl rfl Tryz.underlying25) rfl (g_tt g6 rfl) rfl ?_
     refine run ?_
     obtain rfl := Option.some.inj h
     exact G_joined sA (cv_sel [0, 1, 2] 3 rfl rfl)
    ·have h := cond_f g6 hb6
     refine run ?_
     obtain rfl := Option.some.inj h
     exact G_joined sA (cv_sel [0, 1, 2] 3 rfl rfl)
   refine run ?_
   obtain rfl := Option.some.inj h
   exact G_joined sA (cv_sel [0, 1, 2] 3 rfl rfl)
 refine run ?_
 refine G_cond rfl (fun g7 => ?_) (fun g7 => ?_)
 ·replace h := cond_t g7 h
  refine run ?_
  refine gR (rd_len 1 rfl els_sl rfl Tryz.underlying25) ?_
  refine run ?_
  obtain ⟨b8, hb8, h⟩ := bind_elim h
  refine G_segb 5 26 b8 ?_ ?_
  ·clear h
   refine G_case 21 rfl (fun g8 => ?_) (fun g8 => ?_)
   ·have h := cond_t g8 hb8
    refine run ?_
    refine G_rd (rd_len 1 rfl els_sl rfl Tryz.underlying25) rfl (g_tt g8 rfl) rfl ?_
    refine run ?_
    obtain rfl := Option.some.inj h
    exact G_joined sA (cv_sel [0, 1, 2] 3 rfl rfl)
   ·have h := cond_f g8 hb8
    refine run ?_
    obtain rfl := Option.some.inj h
    exact G_joined sA (cv_sel [0, 1, 2] 3 rfl rfl)
  refine run ?_
  obtain ⟨b9, hb9, h⟩ := bind_elim h
  refine G_segb 15 42 b9 ?_ ?_
  ·clear h
   refine G_case 27 rfl (fun g9 => ?_) (fun g9 => ?_)
   ·have h := cond_t g9 hb9
    refine run ?_
    obtain ⟨x10, hx10, h⟩ := bind_elim h
    obtain ⟨lx10, ux10, hx10⟩ := getE_elim hx10
    refine G_rd (rd_idx 1 rfl els_sl rfl rfl Tryz.underlying25 size38 lx10 ux10) rfl (g_tt g9 rfl) rfl ?_
    refine G_rd (rd_fa0 1 rfl els_sl rfl (toNat_lt lx10 ux10) fa_38_0) rfl (g_tt g9 rfl) rfl ?_
    refine G_rd (rd_elem1 (u := iV x10.Kind) 1 rfl els_sl rfl hx10 one3 (fun _ _ _ h => by rw [show _ = _ from h]; rfl)) rfl (g_tt g9 rfl) rfl ?_
    refine run ?_
    obtain ⟨b11, hb11, h⟩ := bind_elim h
    refine G_segb 7 41 b11 ?_ ?_
    ·clear h
     refine G_case 34 rfl (fun g11 => ?_) (fun g11 => ?_)
     ·have h := cond_t g11 hb11
      refine run ?_
      obtain rfl := Option.some.inj h
      exact G_joined sA (cv_sel [0, 1, 2] 3 rfl rfl)
     ·have h := cond_f g11 hb11
      refine run ?_
      obtain ⟨x12, hx12, h⟩ := bind_elim h
      obtain ⟨lx12, ux12, hx12⟩ := getE_elim hx12
      refine G_rd (rd_idx 1 rfl els_sl rfl rfl Tryz.underlying25 size38 lx12 ux12) rfl (g_ff g11 rfl) rfl ?_
      refine G_rd (rd_fa0 1 rfl els_sl rfl (toNat_lt lx12 ux12) fa_38_0) rfl (g_ff g11 rfl) rfl ?_
      refine G_rd (rd_elem1 (u := iV x12.Kind) 1 rfl els_sl rfl hx12 one3 (fun _ _ _ h => by rw [show _ = _ from h]; rfl)) rfl (g_ff g11 rfl) rfl ?_
      refine run ?_
      obtain rfl := Option.some.inj h
      exact G_joined sA (cv_sel [0, 1, 2] 3 rfl rfl)
    refine run ?_
    obtain rfl := Option.some.inj h
    exact G_joined sA (cv_sel [0, 1, 2] 3 rfl rfl)
   ·have h := cond_f g9 hb9
    refine run ?_
    obtain rfl := Option.some.inj h
    exact G_joined sA (cv_sel [0, 1, 2] 3 rfl rfl)
  refine run ?_
  obtain rfl := Option.some.inj h
  exact endG1 rfl rfl (cv_sel [] 3 rfl rfl) ⟨rfl, rfl⟩
 ·replace h := cond_f g7 h
  refine run ?_
  refine G_seq ?_
  refine run ?_
  refine G_cond rfl (fun g13 => ?_) (fun g13 => ?_)
  ·replace h := cond_t g13 h
   refine run ?_
   obtain rfl := Option.some.inj h
   exact endG1 rfl rfl (cv_sel [] 3 rfl rfl) ⟨rfl, rfl⟩
  ·replace h := cond_f g13 h
   refine run ?_
   refine G_seq ?_
   refine run ?_
   obtain ⟨b14, hb14, h⟩ := bind_elim h
   refine G_segb 4 56 b14 ?_ ?_
   ·clear h
    refine G_case 52 rfl (fun g14 => ?_) (fun g14 => ?_)
    ·have h := cond_t g14 hb14
     refine run ?_
     obtain rfl := Option.some.inj h
     exact G_joined sA (cv_sel [0, 1, 2] 3 rfl rfl)
    ·have h := cond_f g14 hb14
     refine run ?_
     obtain rfl := Option.some.inj h
     exact G_joined sA (cv_sel [0, 1, 2] 3 rfl rfl)
   refine run ?_
   refine G_cond rfl (fun g15 => ?_) (fun g15 => ?_)
   ·replace h := cond_t g15 h
    refine run ?_
    obtain rfl := Option.some.inj h
    exact endG1 rfl rfl (cv_sel [] 3 rfl rfl) ⟨rfl, rfl⟩
   ·replace h := cond_f g15 h
    refine run ?_
    refine G_seq ?_
    refine run ?_
    refine G_cond rfl (fun g16 => ?_) (fun g16 => ?_)
    ·replace h := cond_t g16 h
     refine run ?_
     refine gR (rd_len 1 rfl els_sl rfl Tryz.underlying25) ?_
     refine run ?_
     obtain ⟨b17, hb17, h⟩ := bind_elim h
     refine G_segb 6 70 b17 ?_ ?_
     ·clear h
      refine G_case 64 rfl (fun g17 => ?_) (fun g17 => ?_)
      ·have h := cond_t g17 hb17
       refine run ?_
       obtain ⟨x18, hx18, h⟩ := bind_elim h
       obtain ⟨lx18, ux18, hx18⟩ := getE_elim hx18
       refine G_rd (rd_idx 1 rfl els_sl rfl rfl Tryz.underlying25 size38 lx18 ux18) rfl (g_tt g17 rfl) rfl ?_
       refine G_rd (rd_elemS (us := [iV x18.Kind, iV x18.N, .string x18.S]) 1 rfl els_sl rfl hx18 agg38 (fun _ _ _ h => by rw [show _ = _ from h]; rfl)) rfl (g_tt g17 rfl) rfl ?_
       obtain ⟨y19, hy19, h⟩ := bind_elim h
       refine G_opd (op_callR (r15_none_ok hy19) call183 rfl (mem_nil) r15_none_free) rfl (g_tt g17 rfl) rfl ?_
       rintro _ _ ⟨_, ⟨rfl, rfl⟩, rfl⟩
       refine run ?_
       obtain rfl := Option.some.inj h
       exact G_joined sA (cv_sel [0, 1, 2] 3 rfl rfl)
      ·have h := cond_f g17 hb17
       refine run ?_
       obtain rfl := Option.some.inj h
       exact G_joined sA (cv_sel [0, 1, 2] 3 rfl rfl)
     refine run ?_
     obtain ⟨b20, hb20, h⟩ := bind_elim h
     refine G_segb 6 77 b20 ?_ ?_
     ·clear h
      refine G_case 71 rfl (fun g20 => ?_) (fun g20 => ?_)
      ·have h := cond_t g20 hb20
       refine run ?_
       obtain ⟨x21, hx21, h⟩ := bind_elim h
       obtain ⟨lx21, ux21, hx21⟩ := getE_elim hx21
       refine G_rd (rd_idx 1 rfl els_sl rfl rfl Tryz.underlying25 size38 lx21 ux21) rfl (g_tt g20 rfl) rfl ?_
       refine G_rd (rd_elemS (us := [iV x21.Kind, iV x21.N, .string x21.S]) 1 rfl els_sl rfl hx21 agg38 (fun _ _ _ h => by rw [show _ = _ from h]; rfl)) rfl (g_tt g20 rfl) rfl ?_
       obtain ⟨y22, hy22, h⟩ := bind_elim h
       refine G_opd (op_callR (r15_none_ok hy22) call183 rfl (mem_nil) r15_none_free) rfl (g_tt g20 rfl) rfl ?_
       rintro _ _ ⟨_, ⟨rfl, rfl⟩, rfl⟩
       refine run ?_
       obtain rfl := Option.some.inj h
       exact G_joined sA (cv_sel [0, 1, 2] 3 rfl rfl)
      ·have h := cond_f g20 hb20
       refine run ?_
       obtain rfl := Option.some.inj h
       exact G_joined sA (cv_sel [0, 1, 2] 3 rfl rfl)
     refine run ?_
     obtain rfl := Option.some.inj h
     exact endG1 rfl rfl (cv_sel [] 3 rfl rfl) ⟨rfl, rfl⟩
    ·replace h := cond_f g16 h
     refine run ?_
     refine gR (rd_len 1 rfl els_sl rfl Tryz.underlying25) ?_
     refine run ?_
     obtain rfl := Option.some.inj h
     exact endG1 rfl rfl (cv_sel [] 3 rfl rfl) ⟨rfl, rfl⟩
theorem r15_slots_free {r : Bool} : ∀ v post, ((fun (u : Value) (post : List Chunk) => u = .bool r ∧ post = [])) v post → ∀ c ∈ post, Free c := by
 rintro _ _ ⟨rfl, rfl⟩; exact mem_nil
def r15_num_O (N : Nat) (a0 : DValue) (a1 : Int) (a2 : Int) : Option Bool :=
 (bif decide (a0.Kind = 3) then (some (decide (a1 ≤ a0.N))) else (some false)).bind fun b2 => (bif b2 then (some (decide (a0.N ≤ a2))) else (some false)).bind fun b3 => some b3
theorem r15_num_ok {N : Nat} {a0 : DValue} {a1 : Int} {a2 : Int} {r : Bool} (h : r15_num_O N a0 a1 a2 = some r) : Okc Tryz.prog 184 [.agg #[iV a0.Kind, iV a0.N, .string a0.S], iV a1, iV a2] ([]) (fun (u : Value) (post : List Chunk) => u = .bool r ∧ post = []) := by
 refine ok_E Tryz.func184 rfl rfl ?_
 simp only [envOf]
 refine run ?_
 refine gD (op_box rfl rfl) ?_
 rintro _ _ ⟨B1, rfl, rfl⟩
 refine run ?_
 obtain ⟨b2, hb2, h⟩ := bind_elim h
 refine G_segb 5 15 b2 ?_ ?_
 ·clear h
  refine G_case 10 rfl (fun g2 => ?_) (fun g2 => ?_)
  ·have h := cond_t g2 hb2
   refine run ?_
   obtain rfl := Option.some.inj h
   exact G_joined sA (cv_sel [0] 1 rfl rfl)
  ·have h := cond_f g2 hb2
   refine run ?_
   obtain rfl := Option.some.inj h
   exact G_joined sA (cv_sel [0] 1 rfl rfl)
 refine run ?_
 obtain ⟨b3, hb3, h⟩ := bind_elim h
 refine G_segb 5 21 b3 ?_ ?_
 ·clear h
  refine G_case 16 rfl (fun g3 => ?_) (fun g3 => ?_)
  ·have h := cond_t g3 hb3
   refine run ?_
   obtain rfl := Option.some.inj h
   exact G_joined sA (cv_sel [0] 1 rfl rfl)
  ·have h := cond_f g3 hb3
   refine run ?_
   obtain rfl := Option.some.inj h
   exact G_joined sA (cv_sel [0] 1 rfl rfl)
 refine run ?_
 obtain rfl := Option.some.inj h
 exact endG1 rfl rfl (cv_sel [] 1 rfl rfl) ⟨rfl, rfl⟩
theorem r15_num_free {r : Bool} : ∀ v post, ((fun (u : Value) (post : List Chunk) => u = .bool r ∧ post = [])) v post → ∀ c ∈ post, Free c := by
 rintro _ _ ⟨rfl, rfl⟩; exact mem_nil
def r15_entries_j4 (N : Nat) : Option Bool :=
 some true
def r15_entries_l5 (N : Nat) (a1 : Int) (a0 : (List DValue)) : Nat → Int → Option Bool
 | 0, _ => none
 | m5 + 1, p6 => bif decide (p6 < (a0.length : Int)) then ((getE a0 p6).bind fun x8 => (bif !decide (x8.Kind = 7) then (some true) else (req (in64 (p6 + 1)) ((getE a0 (p6 + 1)).bind fun x11 => some (decide (x11.Kind = 8))))).bind fun b9 => bif b9 then (some false) else ((bif decide (a1 = 4) then (req (in64 (p6 + 2)) ((getE a0 (p6 + 2)).bind fun x15 => (r15_none_O N x15 7).bind fun y16 => (bif !y16 then (some true) else (req (in64 (p6 + 3)) ((getE a0 (p6 + 3)).bind fun x19 => (r15_num_O N x19 0 9007199254740992).bind fun y20 => some (!y20)))).bind fun b17 => some b17)) else (some false)).bind fun b13 => bif b13 then (some false) else (req (in64 (p6 + a1)) ((r15_entries_l5 N a1 a0 m5) (p6 + a1))))) else (r15_entries_j4 N)
theorem r15_entries_l5_s {N m5 : Nat} {a1 : Int} {a0 : (List DValue)} {p6 : Int} : r15_entries_l5 N a1 a0 (m5 + 1) p6 = bif decide (p6 < (a0.length : Int)) then ((getE a0 p6).bind fun x8 => (bif !decide (x8.Kind = 7) then (some true) else (req (in64 (p6 + 1)) ((getE a0 (p6 + 1)).bind fun x11 => some (decide (x11.Kind = 8))))).bind fun b9 => bif b9 then (some false) else ((bif decide (a1 = 4) then (req (in64 (p6 + 2)) ((getE a0 (p6 + 2)).bind fun x15 => (r15_none_O N x15 7).bind fun y16 => (bif !y16 then (some true) else (req (in64 (p6 + 3)) ((getE a0 (p6 + 3)).bind fun x19 => (r15_num_O N x19 0 9007199254740992).bind fun y20 => some (!y20)))).bind fun b17 => some b17)) else (some false)).bind fun b13 => bif b13 then (some false) else (req (in64 (p6 + a1)) ((r15_entries_l5 N a1 a0 m5) (p6 + a1))))) else (r15_entries_j4 N) := rfl
def r15_entries_O (N : Nat) (a0 : (List DValue)) (a1 : Int) : Option Bool :=
 req (a1 ≠ 0) (bif !decide ((a0.length : Int).tmod a1 = 0) then (some false) else (r15_entries_l5 N a1 a0 N 0))
theorem r15_entries_ok {N : Nat} {a0 : (List DValue)} {a1 : Int} {r : Bool} (h : r15_entries_O N a0 a1 = some r) {A1 : Option Addr} {n1 c1 : Nat} : Okc Tryz.prog 185 [.slice A1 n1 c1, iV a1] ([kS0 A1 n1 c1 a0]) (fun (u : Value) (post : List Chunk) => u = .bool r ∧ post = []) := by
 refine ok_E Tryz.func185 rfl rfl ?_
 simp only [envOf]
 refine run ?_
 refine G_seq ?_
 refine run ?_
 refine gR (rd_len 0 rfl els_sl rfl Tryz.underlying25) ?_
 refine run ?_
 obtain ⟨q2, h⟩ := req_elim h
 refine gE (ev_rem rfl rfl q2) ?_
 refine run ?_
 refine G_cond rfl (fun g3 => ?_) (fun g3 => ?_)
 ·replace h := cond_t g3 h
  refine run ?_
  obtain rfl := Option.some.inj h
  exact endG1 rfl rfl (cv_sel [] 1 rfl rfl) ⟨rfl, rfl⟩
 ·replace h := cond_f g3 h
  refine run ?_
  refine G_joinF (fun s L => r15_entries_j4 N = some r ∧ s = [(4, .bool false)] ∧ L = []) ?_ ?_
  ·refine run ?_
   refine G_loopF (fun m s L => ∃ (p6 : Int), r15_entries_l5 N a1 a0 m p6 = some r ∧ s = [(0, .slice A1 n1 c1), (1, iV a1), (4, .bool false), (5, iV p6)] ∧ L = [kS0 A1 n1 c1 a0]) N _ _ ⟨0, h, rfl, rfl⟩ sA (cv_sel [0] 1 rfl rfl) ?_
   rintro (_ | m5) _ _ ⟨p6, h, rfl, rfl⟩
   ·exact none_some h
   rw [r15_entries_l5_s] at h
   refine G_seq ?_
   refine run ?_
   refine gR (rd_len 0 rfl els_sl rfl Tryz.underlying25) ?_
   refine run ?_
   refine G_cond rfl (fun g7 => ?_) (fun g7 => ?_)
   ·replace h := cond_t g7 h
    refine run ?_
    refine G_seq ?_
    refine G_block ?_
    refine G_seq ?_
    refine run ?_
    obtain ⟨x8, hx8, h⟩ := bind_elim h
    obtain ⟨lx8, ux8, hx8⟩ := getE_elim hx8
    refine gR (rd_idx 0 rfl els_sl rfl rfl Tryz.underlying25 size38 lx8 ux8) ?_
    refine gR (rd_fa0 0 rfl els_sl rfl (toNat_lt lx8 ux8) fa_38_0) ?_
    refine gR (rd_elem1 (u := iV x8.Kind) 0 rfl els_sl rfl hx8 one3 (fun _ _ _ h => by rw [show _ = _ from h]; rfl)) ?_
    refine run ?_
    obtain ⟨b9, hb9, h⟩ := bind_elim h
    refine G_segb 8 32 b9 ?_ ?_
    ·clear h
     refine G_case 24 rfl (fun g9 => ?_) (fun g9 => ?_)
     ·have h := cond_t g9 hb9
      refine run ?_
      obtain rfl := Option.some.inj h
      exact G_joined sA (cv_sel [0] 1 rfl rfl)
     ·have h := cond_f g9 hb9
      refine run ?_
      obtain ⟨q10, h⟩ := req_elim h
      refine G_ev (ev_add rfl rfl q10.1 q10.2) rfl (g_ff g9 rfl) rfl ?_
      obtain ⟨x11, hx11, h⟩ := bind_elim h
      obtain ⟨lx11, ux11, hx11⟩ := getE_elim hx11
      refine G_rd (rd_idx 0 rfl els_sl rfl rfl Tryz.underlying25 size38 lx11 ux11) rfl (g_ff g9 rfl) rfl ?_
      refine G_rd (rd_fa0 0 rfl els_sl rfl (toNat_lt lx11 ux11) fa_38_0) rfl (g_ff g9 rfl) rfl ?_
      refine G_rd (rd_elem1 (u := iV x11.Kind) 0 rfl els_sl rfl hx11 one3 (fun _ _ _ h => by rw [show _ = _ from h]; rfl)) rfl (g_ff g9 rfl) rfl ?_
      refine run ?_
      obtain rfl := Option.some.inj h
      exact G_joined sA (cv_sel [0] 1 rfl rfl)
    refine run ?_
    refine G_cond rfl (fun g12 => ?_) (fun g12 => ?_)
    ·replace h := cond_t g12 h
     refine run ?_
     obtain rfl := Option.some.inj h
     exact endG1 rfl rfl (cv_sel [] 1 rfl rfl) ⟨rfl, rfl⟩
    ·replace h := cond_f g12 h
     refine run ?_
     obtain ⟨b13, hb13, h⟩ := bind_elim h
     refine G_segb 17 52 b13 ?_ ?_
     ·clear h
      refine G_case 35 rfl (fun g13 => ?_) (fun g13 => ?_)
      ·have h := cond_t g13 hb13
       refine run ?_
       obtain ⟨q14, h⟩ := req_elim h
       refine G_ev (ev_add rfl rfl q14.1 q14.2) rfl (g_tt g13 rfl) rfl ?_
       obtain ⟨x15, hx15, h⟩ := bind_elim h
       obtain ⟨lx15, ux15, hx15⟩ := getE_elim hx15
       refine G_rd (rd_idx 0 rfl els_sl rfl rfl Tryz.underlying25 size38 lx15 ux15) rfl (g_tt g13 rfl) rfl ?_
       refine G_rd (rd_elemS (us := [iV x15.Kind, iV x15.N, .string x15.S]) 0 rfl els_sl rfl hx15 agg38 (fun _ _ _ h => by rw [show _ = _ from h]; rfl)) rfl (g_tt g13 rfl) rfl ?_
       obtain ⟨y16, hy16, h⟩ := bind_elim h
       refine G_opd (op_callR (r15_none_ok hy16) call183 rfl (mem_nil) r15_none_free) rfl (g_tt g13 rfl) rfl ?_
       rintro _ _ ⟨_, ⟨rfl, rfl⟩, rfl⟩
       refine run ?_
       obtain ⟨b17, hb17, h⟩ := bind_elim h
       refine G_segb 8 51 b17 ?_ ?_
       ·clear h
        refine G_case 43 rfl (fun g17 => ?_) (fun g17 => ?_)
        ·have h := cond_t g17 hb17
         refine run ?_
         obtain rfl := Option.some.inj h
         exact G_joined sA (cv_sel [0] 1 rfl rfl)
        ·have h := cond_f g17 hb17
         refine run ?_
         obtain ⟨q18, h⟩ := req_elim h
         refine G_ev (ev_add rfl rfl q18.1 q18.2) rfl (g_ff g17 rfl) rfl ?_
         obtain ⟨x19, hx19, h⟩ := bind_elim h
         obtain ⟨lx19, ux19, hx19⟩ := getE_elim hx19
         refine G_rd (rd_idx 0 rfl els_sl rfl rfl Tryz.underlying25 size38 lx19 ux19) rfl (g_ff g17 rfl) rfl ?_
         refine G_rd (rd_elemS (us := [iV x19.Kind, iV x19.N, .string x19.S]) 0 rfl els_sl rfl hx19 agg38 (fun _ _ _ h => by rw [show _ = _ from h]; rfl)) rfl (g_ff g17 rfl) rfl ?_
         obtain ⟨y20, hy20, h⟩ := bind_elim h
         refine G_opd (op_callR (r15_num_ok hy20) call184 rfl (mem_nil) r15_num_free) rfl (g_ff g17 rfl) rfl ?_
         rintro _ _ ⟨_, ⟨rfl, rfl⟩, rfl⟩
         refine run ?_
         obtain rfl := Option.some.inj h
         exact G_joined sA (cv_sel [0] 1 rfl rfl)
       refine run ?_
       obtain rfl := Option.some.inj h
       exact G_joined sA (cv_sel [0] 1 rfl rfl)
      ·have h := cond_f g13 hb13
       refine run ?_
       obtain rfl := Option.some.inj h
       exact G_joined sA (cv_sel [0] 1 rfl rfl)
     refine run ?_
     refine G_cond rfl (fun g21 => ?_) (fun g21 => ?_)
     ·replace h := cond_t g21 h
      refine run ?_
      obtain rfl := Option.some.inj h
      exact endG1 rfl rfl (cv_sel [] 1 rfl rfl) ⟨rfl, rfl⟩
     ·replace h := cond_f g21 h
      refine run ?_
      obtain ⟨q22, h⟩ := req_elim h
      refine gE (ev_add rfl rfl q22.1 q22.2) ?_
      refine run ?_
      exact ⟨m5, _, _, Nat.lt_succ_self _, ⟨p6 + a1, h, rfl, rfl⟩, sA, cv_sel [0] 1 rfl rfl⟩
   ·replace h := cond_f g7 h
    refine run ?_
    exact ⟨_, _, ⟨h, rfl, rfl⟩, sA, cv_sel [] 1 rfl rfl⟩
  ·rintro _ _ ⟨h, rfl, rfl⟩
   refine run ?_
   obtain rfl := Option.some.inj h
   exact endG1 rfl rfl (cv_sel [] 0 rfl rfl) ⟨rfl, rfl⟩
theorem r15_entries_free {r : Bool} : ∀ v post, ((fun (u : Value) (post : List Chunk) => u = .bool r ∧ post = [])) v post → ∀ c ∈ post, Free c := by
 rintro _ _ ⟨rfl, rfl⟩; exact mem_nil
def r15_more_j6 (N : Nat) (a0 : DCell) (p7 : Bool) : Option Bool :=
 bif p7 then (some (decide ((a0.More.length : Int) = 0))) else (bif decide (a0.Kind = 3) then ((bif decide ((a0.More.length : Int) = 3) then ((getE a0.More 0).bind fun x12 => (r15_num_O N x12 0 9007199254740992).bind fun y13 => some y13) else (some false)).bind fun b11 => (bif b11 then ((getE a0.More 1).bind fun x15 => (r15_none_O N x15 9).bind fun y16 => some y16) else (some false)).bind fun b14 => some b14) else (bif decide (a0.Kind = 4) then ((bif decide (1 ≤ (a0.More.length : Int)) then (some (decide ((a0.More.length : Int) ≤ 4097))) else (some false)).bind fun b18 => (bif b18 then ((getE a0.More 0).bind fun x20 => (r15_none_O N x20 9).bind fun y21 => some y21) else (some false)).bind fun b19 => some b19) else (bif decide (a0.Kind = 6) then ((bif decide ((a0.More.length : Int) = 2) then ((getE a0.More 0).bind fun x24 => (r15_num_O N x24 0 3).bind fun y25 => some y25) else (some false)).bind fun b23 => (bif b23 then ((getE a0.More 1).bind fun x27 => (r15_none_O N x27 9).bind fun y28 => some y28) else (some false)).bind fun b26 => some b26) else (bif decide (a0.Kind = 7) then ((bif decide (4 ≤ (a0.More.length : Int)) then ((getE a0.More 2).bind fun x31 => (r15_num_O N x31 0 1).bind fun y32 => some y32) else (some false)).bind fun b30 => (bif b30 then ((getE a0.More 3).bind fun x34 => (r15_num_O N x34 0 9007199254740992).bind fun y35 => some y35) else (some false)).bind fun b33 => some b33) else (bif decide (a0.Kind = 8) then ((r15_entries_O N a0.More 2).bind fun y37 => some y37) else (bif decide (a0.Kind = 10) then ((bif decide (1 ≤ (a0.More.length : Int)) then ((getE a0.More 0).bind fun x40 => some (decide (x40.Kind = 7))) else (some false)).bind fun b39 => (bif b39 then (req ((0 : Int) ≤ 1 ∧ (1 : Int).toNat ≤ a0.More.length ∧ a0.More.length ≤ a0.More.length) ((r15_entries_O N ((a0.More.drop ((1 : Int).toNat)).take (a0.More.length - (1 : Int).toNat)) 4).bind fun y44 => some y44)) else (some false)).bind fun b41 => some b41) else (bif decide (a0.Kind = 9) then ((bif decide (2 ≤ (a0.More.length : Int)) then ((getE a0.More 0).bind fun x47 => (r15_num_O N x47 0 2).bind fun y48 => some y48) else (some false)).bind fun b46 => some b46) else (some true))))))))
def r15_more_O (N : Nat) (a0 : DCell) : Option Bool :=
 bif decide (1048576 < (a0.More.length : Int)) then (some false) else (bif decide (a0.Kind = 2) then (some (decide ((a0.More.length : Int) ≤ 4096))) else (bif decide (a0.Kind = 1) then (r15_more_j6 N a0 (decide (a0.Kind = 1))) else (r15_more_j6 N a0 (decide (a0.Kind = 5)))))
set_option maxHeartbeats 4000000 in
theorem r15_more_ok {N : Nat} {a0 : DCell} {r : Bool} (h : r15_more_O N a0 = some r) {A1 : Option Addr} {n1 c1 : Nat} {A2 : Option Addr} {n2 c2 : Nat} : Okc Tryz.prog 146 [.agg #[iV a0.Kind, iV a0.Shape, iV a0.Flags, iV a0.Age, .slice A1 n1 c1, .slice A2 n2 c2]] ([kS0 A1 n1 c1 a0.Slots, kS0 A2 n2 c2 a0.More]) (fun (u : Value) (post : List Chunk) => u = .bool r ∧ post = []) := by
 refine ok_E Tryz.func146 rfl rfl ?_
 simp only [envOf]
 refine run ?_
 refine gD (op_box rfl rfl) ?_
 rintro _ _ ⟨B3, rfl, rfl⟩
 refine run ?_
 refine G_seq ?_
 refine run ?_
 refine gR (rd_len 2 rfl els_sl rfl Tryz.underlying25) ?_
 refine run ?_
 refine G_cond rfl (fun g4 => ?_) (fun g4 => ?_)
 ·replace h := cond_t g4 h
  refine run ?_
  obtain rfl := Option.some.inj h
  exact endG1 rfl rfl (cv_sel [] 3 rfl rfl) ⟨rfl, rfl⟩
 ·replace h := cond_f g4 h
  refine run ?_
  refine G_seq ?_
  refine run ?_
  refine G_cond rfl (fun g5 => ?_) (fun g5 => ?_)
  ·replace h := cond_t g5 h
   refine run ?_
   refine gR (rd_len 2 rfl els_sl rfl Tryz.underlying25) ?_
   refine run ?_
   obtain rfl := Option.some.inj h
   exact endG1 rfl rfl (cv_sel [] 3 rfl rfl) ⟨rfl, rfl⟩
  ·replace h := cond_f g5 h
   refine G_joinF (fun s L => ∃ (p7 : Bool), r15_more_j6 N a0 p7 = some r ∧ s = [(2, .bool false), (3, .slice A2 n2 c2), (10, iV a0.Kind), (16, .bool p7)] ∧ L = [kS0 A2 n2 c2 a0.More]) ?_ ?_
   ·refine run ?_
    refine G_cond rfl (fun g8 => ?_) (fun g8 => ?_)
    ·replace h := cond_t g8 h
     refine run ?_
     exact ⟨_, _, ⟨decide (a0.Kind = 1), h, rfl, rfl⟩, sA, cv_sel [2] 3 rfl rfl⟩
    ·replace h := cond_f g8 h
     refine run ?_
     exact ⟨_, _, ⟨decide (a0.Kind = 5), h, rfl, rfl⟩, sA, cv_sel [2] 3 rfl rfl⟩
   ·rintro _ _ ⟨p7, h, rfl, rfl⟩
    refine G_cond rfl (fun g9 => ?_) (fun g9 => ?_)
    ·replace h := cond_t g9 h
     refine run ?_
     refine gR (rd_len 0 rfl els_sl rfl Tryz.underlying25) ?_
     refine run ?_
     obtain rfl := Option.some.inj h
     exact endG1 rfl rfl (cv_sel [] 1 rfl rfl) ⟨rfl, rfl⟩
    ·replace h := cond_f g9 h
     refine run ?_
     refine G_cond rfl (fun g10 => ?_) (fun g10 => ?_)
     ·replace h := cond_t g10 h
      refine run ?_
      refine gR (rd_len 0 rfl els_sl rfl Tryz.underlying25) ?_
      refine run ?_
      obtain ⟨b11, hb11, h⟩ := bind_elim h
      refine G_segb 5 32 b11 ?_ ?_
      ·clear h
       refine G_case 27 rfl (fun g11 => ?_) (fun g11 => ?_)
       ·have h := cond_t g11 hb11
        refine run ?_
        obtain ⟨x12, hx12, h⟩ := bind_elim h
        obtain ⟨lx12, ux12, hx12⟩ := getE_elim hx12
        refine G_rd (rd_idx 0 rfl els_sl rfl rfl Tryz.underlying25 size38 lx12 ux12) rfl (g_tt g11 rfl) rfl ?_
        refine G_rd (rd_elemS (us := [iV x12.Kind, iV x12.N, .string x12.S]) 0 rfl els_sl rfl hx12 agg38 (fun _ _ _ h => by rw [show _ = _ from h]; rfl)) rfl (g_tt g11 rfl) rfl ?_
        obtain ⟨y13, hy13, h⟩ := bind_elim h
        refine G_opd (op_callR (r15_num_ok hy13) call184 rfl (mem_nil) r15_num_free) rfl (g_tt g11 rfl) rfl ?_
        rintro _ _ ⟨_, ⟨rfl, rfl⟩, rfl⟩
        refine run ?_
        obtain rfl := Option.some.inj h
        exact G_joined sA (cv_sel [0] 1 rfl rfl)
       ·have h := cond_f g11 hb11
        refine run ?_
        obtain rfl := Option.some.inj h
        exact G_joined sA (cv_sel [0] 1 rfl rfl)
      refine run ?_
      obtain ⟨b14, hb14, h⟩ := bind_elim h
      refine G_segb 5 38 b14 ?_ ?_
      ·clear h
       refine G_case 33 rfl (fun g14 => ?_) (fun g14 => ?_)
       ·have h := cond_t g14 hb14
        refine run ?_
        obtain ⟨x15, hx15, h⟩ := bind_elim h
        obtain ⟨lx15, ux15, hx15⟩ := getE_elim hx15
        refine G_rd (rd_idx 0 rfl els_sl rfl rfl Tryz.underlying25 size38 lx15 ux15) rfl (g_tt g14 rfl) rfl ?_
        refine G_rd (rd_elemS (us := [iV x15.Kind, iV x15.N, .string x15.S]) 0 rfl els_sl rfl hx15 agg38 (fun _ _ _ h => by rw [show _ = _ from h]; rfl)) rfl (g_tt g14 rfl) rfl ?_
        obtain ⟨y16, hy16, h⟩ := bind_elim h
        refine G_opd (op_callR (r15_none_ok hy16) call183 rfl (mem_nil) r15_none_free) rfl (g_tt g14 rfl) rfl ?_
        rintro _ _ ⟨_, ⟨rfl, rfl⟩, rfl⟩
        refine run ?_
        obtain rfl := Option.some.inj h
        exact G_joined sA (cv_sel [0] 1 rfl rfl)
       ·have h := cond_f g14 hb14
        refine run ?_
        obtain rfl := Option.some.inj h
        exact G_joined sA (cv_sel [0] 1 rfl rfl)
      refine run ?_
      obtain rfl := Option.some.inj h
      exact endG1 rfl rfl (cv_sel [] 1 rfl rfl) ⟨rfl, rfl⟩
     ·replace h := cond_f g10 h
      refine run ?_
      refine G_cond rfl (fun g17 => ?_) (fun g17 => ?_)
      ·replace h := cond_t g17 h
       refine run ?_
       refine gR (rd_len 0 rfl els_sl rfl Tryz.underlying25) ?_
       refine run ?_
       obtain ⟨b18, hb18, h⟩ := bind_elim h
       refine G_segb 4 48 b18 ?_ ?_
       ·clear h
        refine G_case 44 rfl (fun g18 => ?_) (fun g18 => ?_)
        ·have h := cond_t g18 hb18
         refine run ?_
         refine G_rd (rd_len 0 rfl els_sl rfl Tryz.underlying25) rfl (g_tt g18 rfl) rfl ?_
         refine run ?_
         obtain rfl := Option.some.inj h
         exact G_joined sA (cv_sel [0] 1 rfl rfl)
        ·have h := cond_f g18 hb18
         refine run ?_
         obtain rfl := Option.some.inj h
         exact G_joined sA (cv_sel [0] 1 rfl rfl)
       refine run ?_
       obtain ⟨b19, hb19, h⟩ := bind_elim h
       refine G_segb 5 54 b19 ?_ ?_
       ·clear h
        refine G_case 49 rfl (fun g19 => ?_) (fun g19 => ?_)
        ·have h := cond_t g19 hb19
         refine run ?_
         obtain ⟨x20, hx20, h⟩ := bind_elim h
         obtain ⟨lx20, ux20, hx20⟩ := getE_elim hx20
         refine G_rd (rd_idx 0 rfl els_sl rfl rfl Tryz.underlying25 size38 lx20 ux20) rfl (g_tt g19 rfl) rfl ?_
         refine G_rd (rd_elemS (us := [iV x20.Kind, iV x20.N, .string x20.S]) 0 rfl els_sl rfl hx20 agg38 (fun _ _ _ h => by rw [show _ = _ from h]; rfl)) rfl (g_tt g19 rfl) rfl ?_
         obtain ⟨y21, hy21, h⟩ := bind_elim h
         refine G_opd (op_callR (r15_none_ok hy21) call183 rfl (mem_nil) r15_none_free) rfl (g_tt g19 rfl) rfl ?_
         rintro _ _ ⟨_, ⟨rfl, rfl⟩, rfl⟩
         refine run ?_
         obtain rfl := Option.some.inj h
         exact G_joined sA (cv_sel [0] 1 rfl rfl)
        ·have h := cond_f g19 hb19
         refine run ?_
         obtain rfl := Option.some.inj h
         exact G_joined sA (cv_sel [0] 1 rfl rfl)
       refine run ?_
       obtain rfl := Option.some.inj h
       exact endG1 rfl rfl (cv_sel [] 1 rfl rfl) ⟨rfl, rfl⟩
      ·replace h := cond_f g17 h
       refine run ?_
       refine G_cond rfl (fun g22 => ?_) (fun g22 => ?_)
       ·replace h := cond_t g22 h
        refine run ?_
        refine gR (rd_len 0 rfl els_sl rfl Tryz.underlying25) ?_
        refine run ?_
        obtain ⟨b23, hb23, h⟩ := bind_elim h
        refine G_segb 5 65 b23 ?_ ?_
        ·clear h
         refine G_case 60 rfl (fun g23 => ?_) (fun g23 => ?_)
         ·have h := cond_t g23 hb23
          refine run ?_
          obtain ⟨x24, hx24, h⟩ := bind_elim h
          obtain ⟨lx24, ux24, hx24⟩ := getE_elim hx24
          refine G_rd (rd_idx 0 rfl els_sl rfl rfl Tryz.underlying25 size38 lx24 ux24) rfl (g_tt g23 rfl) rfl ?_
          refine G_rd (rd_elemS (us := [iV x24.Kind, iV x24.N, .string x24.S]) 0 rfl els_sl rfl hx24 agg38 (fun _ _ _ h => by rw [show _ = _ from h]; rfl)) rfl (g_tt g23 rfl) rfl ?_
          obtain ⟨y25, hy25, h⟩ := bind_elim h
          refine G_opd (op_callR (r15_num_ok hy25) call184 rfl (mem_nil) r15_num_free) rfl (g_tt g23 rfl) rfl ?_
          rintro _ _ ⟨_, ⟨rfl, rfl⟩, rfl⟩
          refine run ?_
          obtain rfl := Option.some.inj h
          exact G_joined sA (cv_sel [0] 1 rfl rfl)
         ·have h := cond_f g23 hb23
          refine run ?_
          obtain rfl := Option.some.inj h
          exact G_joined sA (cv_sel [0] 1 rfl rfl)
        refine run ?_
        obtain ⟨b26, hb26, h⟩ := bind_elim h
        refine G_segb 5 71 b26 ?_ ?_
        ·clear h
         refine G_case 66 rfl (fun g26 => ?_) (fun g26 => ?_)
         ·have h := cond_t g26 hb26
          refine run ?_
          obtain ⟨x27, hx27, h⟩ := bind_elim h
          obtain ⟨lx27, ux27, hx27⟩ := getE_elim hx27
          refine G_rd (rd_idx 0 rfl els_sl rfl rfl Tryz.underlying25 size38 lx27 ux27) rfl (g_tt g26 rfl) rfl ?_
          refine G_rd (rd_elemS (us := [iV x27.Kind, iV x27.N, .string x27.S]) 0 rfl els_sl rfl hx27 agg38 (fun _ _ _ h => by rw [show _ = _ from h]; rfl)) rfl (g_tt g26 rfl) rfl ?_
          obtain ⟨y28, hy28, h⟩ := bind_elim h
          refine G_opd (op_callR (r15_none_ok hy28) call183 rfl (mem_nil) r15_none_free) rfl (g_tt g26 rfl) rfl ?_
          rintro _ _ ⟨_, ⟨rfl, rfl⟩, rfl⟩
          refine run ?_
          obtain rfl := Option.some.inj h
          exact G_joined sA (cv_sel [0] 1 rfl rfl)
         ·have h := cond_f g26 hb26
          refine run ?_
          obtain rfl := Option.some.inj h
          exact G_joined sA (cv_sel [0] 1 rfl rfl)
        refine run ?_
        obtain rfl := Option.some.inj h
        exact endG1 rfl rfl (cv_sel [] 1 rfl rfl) ⟨rfl, rfl⟩
       ·replace h := cond_f g22 h
        refine run ?_
        refine G_cond rfl (fun g29 => ?_) (fun g29 => ?_)
        ·replace h := cond_t g29 h
         refine run ?_
         refine gR (rd_len 0 rfl els_sl rfl Tryz.underlying25) ?_
         refine run ?_
         obtain ⟨b30, hb30, h⟩ := bind_elim h
         refine G_segb 5 82 b30 ?_ ?_
         ·clear h
          refine G_case 77 rfl (fun g30 => ?_) (fun g30 => ?_)
          ·have h := cond_t g30 hb30
           refine run ?_
           obtain ⟨x31, hx31, h⟩ := bind_elim h
           obtain ⟨lx31, ux31, hx31⟩ := getE_elim hx31
           refine G_rd (rd_idx 0 rfl els_sl rfl rfl Tryz.underlying25 size38 lx31 ux31) rfl (g_tt g30 rfl) rfl ?_
           refine G_rd (rd_elemS (us := [iV x31.Kind, iV x31.N, .string x31.S]) 0 rfl els_sl rfl hx31 agg38 (fun _ _ _ h => by rw [show _ = _ from h]; rfl)) rfl (g_tt g30 rfl) rfl ?_
           obtain ⟨y32, hy32, h⟩ := bind_elim h
           refine G_opd (op_callR (r15_num_ok hy32) call184 rfl (mem_nil) r15_num_free) rfl (g_tt g30 rfl) rfl ?_
           rintro _ _ ⟨_, ⟨rfl, rfl⟩, rfl⟩
           refine run ?_
           obtain rfl := Option.some.inj h
           exact G_joined sA (cv_sel [0] 1 rfl rfl)
          ·have h := cond_f g30 hb30
           refine run ?_
           obtain rfl := Option.some.inj h
           exact G_joined sA (cv_sel [0] 1 rfl rfl)
         refine run ?_
         obtain ⟨b33, hb33, h⟩ := bind_elim h
         refine G_segb 5 88 b33 ?_ ?_
         ·clear h
          refine G_case 83 rfl (fun g33 => ?_) (fun g33 => ?_)
          ·have h := cond_t g33 hb33
           refine run ?_
           obtain ⟨x34, hx34, h⟩ := bind_elim h
           obtain ⟨lx34, ux34, hx34⟩ := getE_elim hx34
           refine G_rd (rd_idx 0 rfl els_sl rfl rfl Tryz.underlying25 size38 lx34 ux34) rfl (g_tt g33 rfl) rfl ?_
           refine G_rd (rd_elemS (us := [iV x34.Kind, iV x34.N, .string x34.S]) 0 rfl els_sl rfl hx34 agg38 (fun _ _ _ h => by rw [show _ = _ from h]; rfl)) rfl (g_tt g33 rfl) rfl ?_
           obtain ⟨y35, hy35, h⟩ := bind_elim h
           refine G_opd (op_callR (r15_num_ok hy35) call184 rfl (mem_nil) r15_num_free) rfl (g_tt g33 rfl) rfl ?_
           rintro _ _ ⟨_, ⟨rfl, rfl⟩, rfl⟩
           refine run ?_
           obtain rfl := Option.some.inj h
           exact G_joined sA (cv_sel [0] 1 rfl rfl)
          ·have h := cond_f g33 hb33
           refine run ?_
           obtain rfl := Option.some.inj h
           exact G_joined sA (cv_sel [0] 1 rfl rfl)
         refine run ?_
         obtain rfl := Option.some.inj h
         exact endG1 rfl rfl (cv_sel [] 1 rfl rfl) ⟨rfl, rfl⟩
        ·replace h := cond_f g29 h
         refine run ?_
         refine G_cond rfl (fun g36 => ?_) (fun g36 => ?_)
         ·replace h := cond_t g36 h
          refine run ?_
          obtain ⟨y37, hy37, h⟩ := bind_elim h
          refine gD (op_callR (r15_entries_ok hy37) call185 rfl (mem_cons (lent_ro (i := 0) rfl rfl) mem_nil) r15_entries_free) ?_
          rintro _ _ ⟨_, ⟨rfl, rfl⟩, rfl⟩
          refine run ?_
          obtain rfl := Option.some.inj h
          exact endG1 rfl rfl (cv_sel [] 1 rfl rfl) ⟨rfl, rfl⟩
         ·replace h := cond_f g36 h
          refine run ?_
          refine G_cond rfl (fun g38 => ?_) (fun g38 => ?_)
          ·replace h := cond_t g38 h
           refine run ?_
           refine gR (rd_len 0 rfl els_sl rfl Tryz.underlying25) ?_
           refine run ?_
           obtain ⟨b39, hb39, h⟩ := bind_elim h
           refine G_segb 6 104 b39 ?_ ?_
           ·clear h
            refine G_case 98 rfl (fun g39 => ?_) (fun g39 => ?_)
            ·have h := cond_t g39 hb39
             refine run ?_
             obtain ⟨x40, hx40, h⟩ := bind_elim h
             obtain ⟨lx40, ux40, hx40⟩ := getE_elim hx40
             refine G_rd (rd_idx 0 rfl els_sl rfl rfl Tryz.underlying25 size38 lx40 ux40) rfl (g_tt g39 rfl) rfl ?_
             refine G_rd (rd_fa0 0 rfl els_sl rfl (toNat_lt lx40 ux40) fa_38_0) rfl (g_tt g39 rfl) rfl ?_
             refine G_rd (rd_elem1 (u := iV x40.Kind) 0 rfl els_sl rfl hx40 one3 (fun _ _ _ h => by rw [show _ = _ from h]; rfl)) rfl (g_tt g39 rfl) rfl ?_
             refine run ?_
             obtain rfl := Option.some.inj h
             exact G_joined sA (cv_sel [0] 1 rfl rfl)
            ·have h := cond_f g39 hb39
             refine run ?_
             obtain rfl := Option.some.inj h
             exact G_joined sA (cv_sel [0] 1 rfl rfl)
           refine run ?_
           obtain ⟨b41, hb41, h⟩ := bind_elim h
           refine G_segb 4 109 b41 ?_ ?_
           ·clear h
            refine G_case 105 rfl (fun g41 => ?_) (fun g41 => ?_)
            ·have h := cond_t g41 hb41
             refine run ?_
             obtain ⟨q42, h⟩ := req_elim h
             refine G_cut 0 rfl (l := (1 : Int).toNat) (h := a0.More.length) q42.2.1 q42.2.2 ?_
             rintro A43 n43 c43 e43
             refine G_rd (rd_cutN 1 rfl e43 rfl Tryz.underlying25 size38 rfl (by rw [Int.toNat_of_nonneg q42.1]; rfl) q42.2.1) rfl (g_tt g41 rfl) rfl ?_
             obtain ⟨y44, hy44, h⟩ := bind_elim h
             refine G_opd (op_callR (r15_entries_ok hy44) call185 rfl (mem_cons (lent_ro (i := 0) rfl rfl) mem_nil) r15_entries_free) rfl (g_tt g41 rfl) rfl ?_
             rintro _ _ ⟨_, ⟨rfl, rfl⟩, rfl⟩
             refine run ?_
             obtain rfl := Option.some.inj h
             exact G_joined sA (cv_sel [1] 2 rfl rfl)
            ·have h := cond_f g41 hb41
             refine run ?_
             obtain rfl := Option.some.inj h
             exact G_joined sA (cv_sel [0] 1 rfl rfl)
           refine run ?_
           obtain rfl := Option.some.inj h
           exact endG1 rfl rfl (cv_sel [] 1 rfl rfl) ⟨rfl, rfl⟩
          ·replace h := cond_f g38 h
           refine run ?_
           refine G_cond rfl (fun g45 => ?_) (fun g45 => ?_)
           ·replace h := cond_t g45 h
            refine run ?_
            refine gR (rd_len 0 rfl els_sl rfl Tryz.underlying25) ?_
            refine run ?_
            obtain ⟨b46, hb46, h⟩ := bind_elim h
            refine G_segb 5 120 b46 ?_ ?_
            ·clear h
             refine G_case 115 rfl (fun g46 => ?_) (fun g46 => ?_)
             ·have h := cond_t g46 hb46
              refine run ?_
              obtain ⟨x47, hx47, h⟩ := bind_elim h
              obtain ⟨lx47, ux47, hx47⟩ := getE_elim hx47
              refine G_rd (rd_idx 0 rfl els_sl rfl rfl Tryz.underlying25 size38 lx47 ux47) rfl (g_tt g46 rfl) rfl ?_
              refine G_rd (rd_elemS (us := [iV x47.Kind, iV x47.N, .string x47.S]) 0 rfl els_sl rfl hx47 agg38 (fun _ _ _ h => by rw [show _ = _ from h]; rfl)) rfl (g_tt g46 rfl) rfl ?_
              obtain ⟨y48, hy48, h⟩ := bind_elim h
              refine G_opd (op_callR (r15_num_ok hy48) call184 rfl (mem_nil) r15_num_free) rfl (g_tt g46 rfl) rfl ?_
              rintro _ _ ⟨_, ⟨rfl, rfl⟩, rfl⟩
              refine run ?_
              obtain rfl := Option.some.inj h
              exact G_joined sA (cv_sel [0] 1 rfl rfl)
             ·have h := cond_f g46 hb46
              refine run ?_
              obtain rfl := Option.some.inj h
              exact G_joined sA (cv_sel [0] 1 rfl rfl)
            refine run ?_
            obtain rfl := Option.some.inj h
            exact endG1 rfl rfl (cv_sel [] 1 rfl rfl) ⟨rfl, rfl⟩
           ·replace h := cond_f g45 h
            refine run ?_
            obtain rfl := Option.some.inj h
            exact endG1 rfl rfl (cv_sel [] 1 rfl rfl) ⟨rfl, rfl⟩
theorem r15_more_free {r : Bool} : ∀ v post, ((fun (u : Value) (post : List Chunk) => u = .bool r ∧ post = [])) v post → ∀ c ∈ post, Free c := by
 rintro _ _ ⟨rfl, rfl⟩; exact mem_nil
end Go.Proofs.YtmbaennilhdieaaGreat